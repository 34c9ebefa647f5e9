/- Part 12 of what the proof of StoreIds rests on. No condition. -/
import Derived.Laws.NewBlocks
import Derived.Lib.AppendZerosOnto
import Derived.Lib.Overlaps
import Derived.Shelf.Spec.SlicesInsert
import Derived.Test.YtafndmnbnmlklaaGreatPStoreIds11
namespace Go.Proofs.YtafndmnbnmlklaaGreat
set_option maxRecDepth 100000
set_option maxHeartbeats 60000000
set_option linter.unusedVariables false
set_option linter.unusedSimpArgs false
set_option linter.unusedSectionVars false
section
open Go.RowKit Go.Maps
def InsPost (t : TypeId) (w0 : World) (v : Value) (w : World) (n i : Nat) (cs nb : List Value) (e : Ending) (w' : World) : Prop := ∃ v', e = .returned v' /\ OwnN w0 t 2 (n + 1) (cs.take (i * 2) ++ nb ++ cs.drop (i * 2)) v' w' /\ Tch No w0 w' /\ Tch (fun k => v.ownBlock = some k) w w'
theorem ins_cells {cs nb : List Value} {n i : Nat} (hcl : cs.length = n * 2) (hnb : nb.length = 2) (hi : i <= n) (base : Array Value) (hb : ∀ t, t < i * 2 -> base[t]? = cs[t]?) (t : Nat) (ht : t < (n + 1) * 2) :
  (if (i + 1) * 2 <= t /\ t < (i + 1) * 2 + (cs.drop (i * 2)).length then (cs.drop (i * 2))[t - (i + 1) * 2]? else if i * 2 <= t /\ t < i * 2 + nb.length then nb[t - i * 2]? else base[t]?) = (cs.take (i * 2) ++ nb ++ cs.drop (i * 2))[t]? := by
 have hdl : (cs.drop (i * 2)).length = n * 2 - i * 2 := by rw [List.length_drop, hcl]
 have htl : (cs.take (i * 2)).length = i * 2 := by rw [List.length_take, hcl]; omega
 by_cases h1 : t < i * 2
 ·rw [if_neg (by omega), if_neg (by omega), hb t h1, List.append_assoc, List.getElem?_append_left (by omega), List.getElem?_take, if_pos h1]
 ·by_cases h2 : t < (i + 1) * 2
  ·rw [if_neg (by omega), if_pos (by omega), List.getElem?_append_left (by rw [List.length_append]; omega), List.getElem?_append_right (by omega), htl]
  ·rw [if_pos (by omega), List.getElem?_append_right (by rw [List.length_append]; omega), List.length_append, htl, hnb]
   congr 1
   omega
section
variable (w0 : World) (n i c : Nat) (cs : List Value) (vb : Nat) (nb : Array Value) (w : World)
theorem ins_pend_end (v : Value) (t0 : Tch No w0 w) (h : OwnN w0 75 2 n cs v w) (hn : n <= 10000000) (hv : w.heap[vb]? = some (.cells nb 75 (0, 0))) (hnb : nb.size = 2) (h1n : Ones nb.toList) :
  Calls Tryz.prog 229 #[v, .int .i64 n, .slice (some ⟨vb, 0, none⟩) 1 1] w (InsPost 75 w0 v w n n cs nb.toList) := by
 have hu : CellsAt w (.slice (some ⟨vb, 0, none⟩) 1 1) 1 2 nb.toList := ⟨by simp [hnb], .inr ⟨vb, 0, 1, rfl, Nat.le_refl _, by simp [maxLen], blk_lt hv, fun j x hx => by rw [Nat.zero_add, blk_cell hv]; simpa using hx⟩⟩
 have HU := Lib.hid hu
 have HO := Lib.hid h
 have T0 := Lib.hid t0
 have HE : Hid (cs.take (n * 2) ++ nb.toList ++ cs.drop (n * 2) = cs ++ nb.toList) := by
  show _ = _
  rw [<- h.1.1, List.take_length, List.drop_length, List.append_nil]
 obtain ⟨a, c, rfl, hc1, hc2⟩ := own_shape h.1
 have H1 := Lib.hid h1n
 have hml : c <= 9223372036854775807 := by unfold maxLen at hc2; omega
 obtain ⟨va, rfl⟩ : ∃ va, va = (⟨vb, 0, none⟩ : Addr) := ⟨_, rfl⟩
 clear h t0 hu hv hnb h1n
 have hsl : n < c ∨ n = c := by omega
 rcases hsl with hsl | hsl
 ·have hb : ∃ g, a = some ⟨g, 0, none⟩ := by
   cases a with
   | none =>
    rcases HO.out.1.2 with ⟨h0, _⟩ | ⟨_, _, _, h0, _⟩
    ·injection h0 with _ _ h0; omega
    ·cases h0
   | some a =>
    obtain ⟨g0, cur, rfl, q1, q2, q3, q4, q5, q6⟩ := own_get HO.out.1
    exact ⟨g0, rfl⟩
  obtain ⟨g, rfl⟩ := hb
  go_enter Tryz.func229, Tryz.ntmps229
  go_wp2_with (at_builtin; refine wpList_appE eltPend w rfl _ _ rfl _ n cs rfl HO.out.1 _ 1 nb.toList rfl HU.out H1.out (by omega) ?_; rintro a' n' cap' w' HA hn')
  go_ret
  have hO := HA.on T0.out HO.out.2
  exact ⟨_, rfl, ⟨by rw [HE.out]; exact HA.own, hO.2⟩, hO.1, Tch.grown HA.grow (fun k hk _ => hk)⟩
 ·subst hsl
  go_enter Tryz.func229, Tryz.ntmps229
  go_wp2_with (at_builtin; refine wpList_appE eltPend w rfl _ _ rfl _ n cs rfl HO.out.1 _ 1 nb.toList rfl HU.out H1.out (by omega) ?_; rintro a' n' cap' w' HA hn')
  go_ret
  have hO := HA.on T0.out HO.out.2
  exact ⟨_, rfl, ⟨by rw [HE.out]; exact HA.own, hO.2⟩, hO.1, Tch.grown HA.grow (fun k hk _ => hk)⟩
theorem ins_pend_shift (g : Nat) (cur : Array Value) (hi : i < n) (hc1 : n + 1 <= c) (hc2 : c <= maxLen) (hn : n <= 10000000) (hg : w.heap[g]? = some (.cells cur 75 (0, 0))) (hcur : cur.size = c * 2) (hcl : cs.length = n * 2) (hcs : ∀ t, t < n * 2 -> cur[t]? = cs[t]?) (h1 : Ones cs)
  (hv : w.heap[vb]? = some (.cells nb 75 (0, 0))) (hnb : nb.size = 2) (h1n : Ones nb.toList) (hne : vb ≠ g) :
  Calls Tryz.prog 229 #[.slice (some ⟨g, 0, none⟩) n c, .int .i64 i, .slice (some ⟨vb, 0, none⟩) 1 1] w fun e w' => e = .returned (.slice (some ⟨g, 0, none⟩) (n + 1) c) /\ w' = (w.drew.setCells g ((i + 1) * 2) (cs.drop (i * 2))).setCells g (i * 2) nb.toList := by
 have hml : c <= 9223372036854775807 := by unfold maxLen at hc2; omega
 have hov : ∀ lb cb, (callFunc 267 #[.slice (some ⟨vb, 0, none⟩) 1 1, .slice (some ⟨g, (i + 1) * 2, none⟩) lb cb]).run Tryz.prog w = .ok (.value (.bool false)) w := fun lb cb => by
  rw [run_callFunc_extern Tryz.func267 (by kernel_rfl) (by kernel_rfl) (by kernel_rfl) (e := Extern.SlicesOverlaps.overlaps #[27, 27] #[4]) (by kernel_rfl),
   Lib.run_overlaps_apart w 27 4 75 eltPend.und 2 Tryz.sizeOf75 ⟨vb, 0, none⟩ ⟨g, (i + 1) * 2, none⟩ 1 1 lb cb hne 75 75 2 (c * 2) (by simp [World.shape?, hv, hnb]) (by simp [World.shape?, hg, hcur]) (by omega) (blk_free hv 0) (blk_free hv 2)]
  rfl
 have hdl : (cs.drop (i * 2)).length = (n - i) * 2 := by rw [List.length_drop, hcl, Nat.sub_mul]
 have hcp1 : ∀ ty dc sc, (Builtin.copy_ #[27, 27] ty #[.slice (some ⟨g, (i + 1) * 2, none⟩) (n - i) dc, .slice (some ⟨g, i * 2, none⟩) (n + 1 - i) sc]).run Tryz.prog w.drew = .ok (goInt (Nat.min (n + 1 - i) (n - i))) (w.drew.setCells g ((i + 1) * 2) (cs.drop (i * 2))) := fun ty dc sc =>
  run_copy_many w.drew eltPend ty g ((i + 1) * 2) (n - i) dc ⟨g, i * 2, none⟩ (n + 1 - i) sc (cs.drop (i * 2)) (by rw [hdl, show Nat.min (n + 1 - i) (n - i) = n - i by simp only [Nat.min_def]; split <;> omega])
   (fun j v hj => by
    rw [addr_add]
    rw [List.getElem?_drop] at hj
    have hjl := (List.getElem?_eq_some_iff.1 hj).1
    show w.cell? _ = _
    rw [blk_cell hg, hcs _ (by omega)]; exact hj)
   (fun j hj => by show (w.cell? _).isSome = true; rw [blk_cell hg, Array.getElem?_eq_getElem (by rw [hdl] at hj; have := Nat.sub_mul n i 2; omega)]; rfl) (fun j hj => blk_free hg _) (h1.drop _)
 obtain ⟨W1, hW1⟩ : ∃ W1, W1 = w.drew.setCells g ((i + 1) * 2) (cs.drop (i * 2)) := ⟨_, rfl⟩
 obtain ⟨cur1, q1, q2, q3⟩ := blk_sets (cs.drop (i * 2)) ((i + 1) * 2) w.drew cur hg (by rw [hdl, hcur, <- Nat.add_mul]; exact Nat.mul_le_mul_right _ (by omega))
 rw [<- hW1] at q1
 have hv1 : W1.heap[vb]? = some (.cells nb 75 (0, 0)) := by rw [hW1]; exact blk_tch (Tch.setCells (F := fun k => k = g) (b := g) rfl _ _ w.drew) hv hne
 have hcp2 : ∀ (W : World), (∀ x, W.cell? x = W1.cell? x) -> (∀ x, W.frozen? x = W1.frozen? x) -> ∀ ty dc, (Builtin.copy_ #[27, 27] ty #[.slice (some ⟨g, i * 2, none⟩) (n + 1 - i) dc, .slice (some ⟨vb, 0, none⟩) 1 1]).run Tryz.prog W = .ok (goInt (Nat.min 1 (n + 1 - i))) (W.setCells g (i * 2) nb.toList) := fun W hWc hWf ty dc =>
  run_copy_many W eltPend ty g (i * 2) (n + 1 - i) dc ⟨vb, 0, none⟩ 1 1 nb.toList (by rw [Array.length_toList, hnb, show Nat.min 1 (n + 1 - i) = 1 by simp only [Nat.min_def]; split <;> omega])
   (fun j v hj => by rw [addr_add, hWc, blk_cell hv1, Nat.zero_add]; simpa using hj)
   (fun j hj => by rw [Array.length_toList, hnb] at hj; rw [hWc, blk_cell q1, Array.getElem?_eq_getElem (by rw [q2, hcur]; omega)]; rfl) (fun j hj => by rw [hWf]; exact blk_free q1 _) h1n
 rw [<- hW1] at hcp1
 have mixed : Tryz.prog.follows .mixedOrders = true := by kernel_rfl
 have hz2 : ¬ ((i : Int) = (n : Int)) := by omega
 have hw1 : IntKind.i64.wrap ((i : Int) + 1) = (i : Int) + 1 := by rw [IntKind.wrap_i64]; omega
 have hb1 : (0 : Int) <= (i : Int) + 1 := by omega
 have hin : i <= n := by omega
 have htn : ((i : Int) + 1).toNat = i + 1 := by omega
 have hb2 : ¬ (c = i + 1) := by omega
 have hb3 : (i : Int) <= (n : Int) + 1 := by omega
 have hb4 : ¬ (c = i) := by omega
 clear hg hcur hcl hcs h1 hv hnb h1n q1 q2 q3 hv1 hdl
 go_enter Tryz.func229, Tryz.ntmps229
 go_wp2_with (simp only [hov])
 go_region_law_o (refine step_copy_runI rfl _ _ 27 27 rfl _ _ (by simp [Act.eval, Act.put]) (by simp [Act.eval, Act.put]) (hcp1 _ _ _) ?_)
 go_wp2_with (at_builtin; refine wpList_copy_runI _ rfl _ _ 27 27 rfl _ _ rfl rfl (hcp2 _ (fun _ => rfl) (fun _ => rfl) _ _) ?_)
 go_ret
 exact ⟨rfl, rfl⟩
theorem ins_pend_grow (g : Nat) (hi : i < n) (hc1 : n <= c) (hroom : c < n + 1) (hn : n <= 10000000) (hcl : cs.length = n * 2) (hcs : ∀ t x, cs[t]? = some x -> w.cell? ⟨g, t, none⟩ = some x) (h1 : Ones cs)
  (hv : w.heap[vb]? = some (.cells nb 75 (0, 0))) (hnb : nb.size = 2) (h1n : Ones nb.toList) :
  Calls Tryz.prog 229 #[.slice (some ⟨g, 0, none⟩) n c, .int .i64 i, .slice (some ⟨vb, 0, none⟩) 1 1] w fun e w' => ∃ G cur', e = .returned (.slice (some ⟨w.heap.size, 0, none⟩) (n + 1) G) /\ w'.heap[w.heap.size]? = some (.cells cur' 75 (0, 0)) /\ cur'.size = G * 2 /\ n + 1 <= G /\ G <= maxLen /\
   (∀ t, t < (n + 1) * 2 -> cur'[t]? = (cs.take (i * 2) ++ nb.toList ++ cs.drop (i * 2))[t]?) /\ Tch No w w' := by
 obtain ⟨i0, hi0, hz0, hzs, hzb⟩ := info_parts (show (Tryz.prog.info? 75).map (fun i => (i.zero, i.size, i.bytes)) = some (some (Value.agg #[.int .i64 0, .slice none 0 0]), 2, 32) by kernel_rfl)
 have hgb : g < w.heap.size := block_lt_of_cell (hcs 0 _ (List.getElem?_eq_getElem (by omega)))
 have hvw : vb < w.heap.size := blk_lt hv
 have hkk : (n : Int) + 1 - (i : Int) = ((n + 1 - i : Nat) : Int) := by omega
 have hik : i + (n + 1 - i) = n + 1 := by omega
 have hold : (Builtin.firstCells i0.size i (.slice (some ⟨g, 0, none⟩) i c)).run Tryz.prog w.drew = .ok (cs.take (i * 2)).toArray w.drew := by
  rw [hzs]
  exact run_firstCells_some w.drew 2 i ⟨g, 0, none⟩ i c (cs.take (i * 2)) (by rw [List.length_take]; omega) (fun j v hj => by
   rw [addr_add, Nat.zero_add]
   rw [List.getElem?_take] at hj
   split at hj
   ·exact hcs j v hj
   ·cases hj)
 have hrz : ∀ ty, (Builtin.append_ #[27, 3] ty #[.slice (some ⟨g, 0, none⟩) i c, .int .i64 ((n : Int) + 1 - (i : Int))]).run Tryz.prog w =
   .ok (.slice (some ⟨w.heap.size, 0, none⟩) (n + 1) (grownCap w (n + 1) c 75)) (w.drew.alloc (.cells ((cs.take (i * 2)).toArray ++ Builtin.zeroCells (Value.agg #[.int .i64 0, .slice none 0 0]).cells (n + 1 - i) ++ Builtin.zeroCells (Value.agg #[.int .i64 0, .slice none 0 0]).cells (grownCap w (n + 1) c 75 - (n + 1))) 75)) := fun ty => by
  have h := Lib.run_append_grow_zeros w 27 3 ty 75 i0 _ .i64 .i64 eltPend.und Tryz.underlying3 hi0 hz0 (some ⟨g, 0, none⟩) i c (cs.take (i * 2)) hold (n + 1 - i) (by omega) (by omega) (by omega) (by omega) (by rw [hzb]; omega) (by rw [hzb, hik]; exact growslice_fits (by omega) (by omega))
  rw [hik] at h
  rw [hkk]
  exact h
 obtain ⟨G, hG⟩ : ∃ G, G = grownCap w (n + 1) c 75 := ⟨_, rfl⟩
 obtain ⟨ROW, hROW⟩ : ∃ ROW : Array Value, ROW = (cs.take (i * 2)).toArray ++ Builtin.zeroCells (Value.agg #[.int .i64 0, .slice none 0 0]).cells (n + 1 - i) ++ Builtin.zeroCells (Value.agg #[.int .i64 0, .slice none 0 0]).cells (G - (n + 1)) := ⟨_, rfl⟩
 rw [<- hG] at hrz
 rw [<- hROW] at hrz
 have hGn : n + 1 <= G := by rw [hG]; exact grownCap_ge w _ _ _
 have hGm : G <= maxLen := by rw [hG]; exact grownCap_le_maxLen w (n + 1) c 75 (by unfold maxLen; omega)
 have hG63 : G <= 9223372036854775807 := by unfold maxLen at hGm; omega
 have htl : (cs.take (i * 2)).length = i * 2 := by rw [List.length_take, hcl]; omega
 have hRl : ROW.size = G * 2 := by
  rw [hROW]
  simp only [Array.size_append, List.size_toArray, htl, Builtin.zeroCells, Array.size_map, Array.size_range, Value.cells, List.size_toArray, List.length_cons, List.length_nil]
  omega
 have hRf : ∀ t, t < i * 2 -> ROW[t]? = cs[t]? := fun t ht => by
  rw [hROW, Array.append_assoc, Array.getElem?_append_left (by rw [List.size_toArray, htl]; exact ht), List.getElem?_toArray, List.getElem?_take, if_pos ht]
 obtain ⟨ws, hws⟩ : ∃ ws, w.heap.size = ws := ⟨_, rfl⟩
 rw [hws] at hrz hgb hvw
 rw [hws]
 obtain ⟨W1, hW1⟩ : ∃ W1, W1 = w.drew.alloc (.cells ROW 75) := ⟨_, rfl⟩
 have hN : W1.heap[ws]? = some (.cells ROW 75 (0, 0)) := by rw [hW1, <- hws]; exact blk_new w.drew _
 have T1 : Tch No w W1 := by rw [hW1]; exact (Tch.drew w).trans0 (Tch.alloc _ _)
 have hO : ∀ t x, cs[t]? = some x -> W1.cell? ⟨g, t, none⟩ = some x := fun t x hx => T1.cell (hcs t x hx) (fun h => h)
 have hv1 : W1.heap[vb]? = some (.cells nb 75 (0, 0)) := blk_tch T1 hv (fun h => h)
 rw [<- hW1] at hrz
 have hdl : (cs.drop (i * 2)).length = (n - i) * 2 := by rw [List.length_drop, hcl, Nat.sub_mul]
 have hcpA : ∀ (W : World), (∀ x, W.cell? x = W1.cell? x) -> (∀ x, W.frozen? x = W1.frozen? x) -> ∀ ty dc, (Builtin.copy_ #[27, 27] ty #[.slice (some ⟨ws, i * 2, none⟩) (n + 1 - i) dc, .slice (some ⟨vb, 0, none⟩) 1 1]).run Tryz.prog W = .ok (goInt (Nat.min 1 (n + 1 - i))) (W.setCells ws (i * 2) nb.toList) := fun W hWc hWf ty dc =>
  run_copy_many W eltPend ty ws (i * 2) (n + 1 - i) dc ⟨vb, 0, none⟩ 1 1 nb.toList (by rw [Array.length_toList, hnb, show Nat.min 1 (n + 1 - i) = 1 by simp only [Nat.min_def]; split <;> omega])
   (fun j v hj => by rw [addr_add, hWc, blk_cell hv1, Nat.zero_add]; simpa using hj)
   (fun j hj => by rw [Array.length_toList, hnb] at hj; rw [hWc, blk_cell hN, Array.getElem?_eq_getElem (by rw [hRl]; omega)]; rfl) (fun j hj => by rw [hWf]; exact blk_free hN _) h1n
 obtain ⟨cur1, q1, q2, q3⟩ := blk_sets nb.toList (i * 2) W1 ROW hN (by rw [Array.length_toList, hnb, hRl]; omega)
 have hcpB : ∀ (W : World), (∀ x, W.cell? x = (W1.setCells ws (i * 2) nb.toList).cell? x) -> (∀ x, W.frozen? x = (W1.setCells ws (i * 2) nb.toList).frozen? x) -> ∀ ty dc sc, (Builtin.copy_ #[27, 27] ty #[.slice (some ⟨ws, (i + 1) * 2, none⟩) (n - i) dc, .slice (some ⟨g, i * 2, none⟩) (n - i) sc]).run Tryz.prog W = .ok (goInt (Nat.min (n - i) (n - i))) (W.setCells ws ((i + 1) * 2) (cs.drop (i * 2))) := fun W hWc hWf ty dc sc =>
  run_copy_many W eltPend ty ws ((i + 1) * 2) (n - i) dc ⟨g, i * 2, none⟩ (n - i) sc (cs.drop (i * 2)) (by rw [hdl, show Nat.min (n - i) (n - i) = n - i from Nat.min_self _])
   (fun j v hj => by
    rw [List.getElem?_drop] at hj
    rw [addr_add, hWc]
    exact (Tch.setCells (F := fun k => k = ws) (b := ws) rfl nb.toList (i * 2) W1).cell (hO _ _ hj) (by show ¬ g = ws; omega))
   (fun j hj => by rw [hWc, blk_cell q1, Array.getElem?_eq_getElem (by rw [q2, hRl]; rw [hdl] at hj; have := Nat.sub_mul n i 2; omega)]; rfl) (fun j hj => by rw [hWf]; exact blk_free q1 _) (h1.drop _)
 have HFIN : Hid (∃ cur' : Array Value, ((((w.alloc (.cells ROW 75)).drew.setCells ws (i * 2) nb.toList).drew).setCells ws ((i + 1) * 2) (cs.drop (i * 2))).heap[ws]? = some (.cells cur' 75 (0, 0)) /\ cur'.size = G * 2 /\ (∀ t, t < (n + 1) * 2 -> cur'[t]? = (cs.take (i * 2) ++ nb.toList ++ cs.drop (i * 2))[t]?) /\ Tch No w ((((w.alloc (.cells ROW 75)).drew.setCells ws (i * 2) nb.toList).drew).setCells ws ((i + 1) * 2) (cs.drop (i * 2)))) := by
  obtain ⟨cur1, q1, q2, q3⟩ := blk_sets (b := ws) (e := 75) nb.toList (i * 2) ((w.alloc (.cells ROW 75)).drew) ROW (by rw [<- hws]; exact blk_new w _) (by rw [Array.length_toList, hnb, hRl]; omega)
  obtain ⟨cur2, r1, r2, r3⟩ := blk_sets (cs.drop (i * 2)) ((i + 1) * 2) (((w.alloc (.cells ROW 75)).drew.setCells ws (i * 2) nb.toList).drew) cur1 q1 (by rw [hdl, q2, hRl]; have := Nat.sub_mul n i 2; omega)
  refine ⟨cur2, r1, by rw [r2, q2, hRl], fun t ht => ?_, ?_⟩
  ·rw [r3 t, q3 t]
   exact ins_cells hcl (by rw [Array.length_toList, hnb]) (by omega) ROW hRf t ht
  ·exact (((((Tch.alloc w _).trans0 (Tch.drew _)).fresh (F := fun k => k = ws) (Tch.setCells (F := fun k => k = ws) (b := ws) rfl _ _ _) (fun k h => by omega))).trans0 (Tch.drew _)).fresh (F := fun k => k = ws) (Tch.setCells (F := fun k => k = ws) (b := ws) rfl _ _ _) (fun k h => by omega)
 clear q1 q2 q3
 subst hW1
 have hE1 : ∀ x, ((w.alloc (.cells ROW 75)).drew).cell? x = (w.drew.alloc (.cells ROW 75)).cell? x := fun x => rfl
 have hE2 : ∀ x, ((w.alloc (.cells ROW 75)).drew).frozen? x = (w.drew.alloc (.cells ROW 75)).frozen? x := fun x => rfl
 have hF1 : ∀ x, (((w.alloc (.cells ROW 75)).drew.setCells ws (i * 2) nb.toList).drew).cell? x = ((w.drew.alloc (.cells ROW 75)).setCells ws (i * 2) nb.toList).cell? x := fun x => rfl
 have hF2 : ∀ x, (((w.alloc (.cells ROW 75)).drew.setCells ws (i * 2) nb.toList).drew).frozen? x = ((w.drew.alloc (.cells ROW 75)).setCells ws (i * 2) nb.toList).frozen? x := fun x => rfl
 have mixed : Tryz.prog.follows .mixedOrders = true := by kernel_rfl
 have hz2 : ¬ ((i : Int) = (n : Int)) := by omega
 have hz3 : (c : Int) < (n : Int) + 1 := by omega
 have hw1 : IntKind.i64.wrap ((i : Int) + 1) = (i : Int) + 1 := by rw [IntKind.wrap_i64]; omega
 have hb1 : (0 : Int) <= (i : Int) + 1 := by omega
 have hin : i <= n := by omega
 have htn : ((i : Int) + 1).toNat = i + 1 := by omega
 have hb3 : (i : Int) <= (n : Int) := by omega
 have hGi : ¬ (G = i) := by omega
 have hGim : ¬ (G = i + 1) := by omega
 have hci : ¬ (c = i) := by omega
 clear hkk hik hold hROW hG hRl hRf hN T1 hO hv1 htl hdl hcs hcl h1 h1n hv hnb hws hi0 hz0 hzs hzb
 go_enter Tryz.func229, Tryz.ntmps229
 go_wp2_with (first
  | (at_builtin; refine Lib.wpList_append_run _ rfl _ _ _ _ rfl _ _ rfl rfl _ _ (hrz _) ?_)
  | (at_builtin; refine wpList_copy_runI _ rfl _ _ 27 27 rfl _ _ rfl rfl (hcpA _ hE1 hE2 _ _) ?_))
 go_region_law_o (refine step_copy_runI rfl _ _ 27 27 rfl (.slice (some ⟨ws, (i + 1) * 2, none⟩) (n - i) (G - (i + 1))) (.slice (some ⟨g, i * 2, none⟩) (n - i) (c - i)) (by simp [Act.eval, Act.put]) (by simp [Act.eval, Act.put]) (hcpB _ hF1 hF2 3 (G - (i + 1)) (c - i)) ?_)
 go_wp2
 go_ret
 obtain ⟨cur', s1, s2, s3, s4⟩ := HFIN.out
 exact ⟨G, cur', rfl, s1, s2, hGn, hGm, s3, s4⟩
theorem ins_pend (v : Value) (hi : i <= n) (t0 : Tch No w0 w) (h : OwnN w0 75 2 n cs v w) (hn : n <= 10000000) (h1 : Ones cs) (hv : w.heap[vb]? = some (.cells nb 75 (0, 0))) (hnb : nb.size = 2) (h1n : Ones nb.toList) (hne : i < n -> v.ownBlock ≠ some vb) :
  Calls Tryz.prog 229 #[v, .int .i64 i, .slice (some ⟨vb, 0, none⟩) 1 1] w (InsPost 75 w0 v w n i cs nb.toList) := by
 by_cases hin : i = n
 ·subst hin
  exact ins_pend_end w0 i cs vb nb w v t0 h hn hv hnb h1n
 ·obtain ⟨a, c, rfl, hc1, hc2⟩ := own_shape h.1
  have hex : ∃ g cur, a = some ⟨g, 0, none⟩ /\ w0.heap.size <= g /\ w.heap[g]? = some (.cells cur 75 (0, 0)) /\ cur.size = c * 2 /\ cs.length = n * 2 /\ ∀ t, t < n * 2 -> cur[t]? = cs[t]? := by
   cases a with
   | none =>
    rcases h.1.2 with ⟨h0, _⟩ | ⟨_, _, _, h0, _⟩
    ·injection h0 with _ _ h0; omega
    ·cases h0
   | some a =>
    obtain ⟨g0, cur, rfl, q1, q2, q3, q4, q5, q6⟩ := own_get h.1
    exact ⟨g0, cur, rfl, h.2 g0 rfl, q1, q4, q5, q6⟩
  obtain ⟨g, cur, rfl, hge, hg, hsz, hcl, hcs⟩ := hex
  have hvg : vb ≠ g := fun e => hne (by omega) (by rw [e]; rfl)
  have hlen : (cs.take (i * 2) ++ nb.toList ++ cs.drop (i * 2)).length = (n + 1) * 2 := by
   have e1 : nb.toList.length = 2 := by rw [Array.length_toList, hnb]
   rw [List.length_append, List.length_append, List.length_take, List.length_drop, e1, hcl]; omega
  by_cases hr : n + 1 <= c
  ·refine (ins_pend_shift n i c cs vb nb w g cur (by omega) hr hc2 hn hg hsz hcl hcs h1 hv hnb h1n hvg).mono ?_
   rintro e w' ⟨rfl, rfl⟩
   obtain ⟨cur1, q1, q2, q3⟩ := blk_sets (cs.drop (i * 2)) ((i + 1) * 2) w.drew cur hg (by rw [List.length_drop]; omega)
   obtain ⟨cur2, r1, r2, r3⟩ := blk_sets nb.toList (i * 2) (w.drew.setCells g ((i + 1) * 2) (cs.drop (i * 2))) cur1 q1 (by rw [Array.length_toList, q2]; omega)
   refine ⟨_, rfl, ⟨own_mk hlen r1 hr hc2 (by rw [r2, q2, hsz]) (fun t ht => ?_), fun b hb => ?_⟩, ((t0.trans0 (Tch.drew _)).fresh (F := fun k => k = g) (Tch.setCells (F := fun k => k = g) (b := g) rfl _ _ _) (fun k h => by omega)).fresh (F := fun k => k = g) (Tch.setCells (F := fun k => k = g) (b := g) rfl _ _ _) (fun k h => by omega), ((Tch.drew w).no.trans (Tch.setCells (F := fun k => Value.ownBlock (.slice (some ⟨g, 0, none⟩) n c) = some k) (b := g) rfl _ _ _) (fun _ _ h => h)).trans (Tch.setCells (F := fun k => Value.ownBlock (.slice (some ⟨g, 0, none⟩) n c) = some k) (b := g) rfl _ _ _) (fun _ _ h => h)⟩
   ·rw [r3 t, q3 t]
    have := ins_cells (nb := nb.toList) hcl (by rw [Array.length_toList, hnb]) hi cur (fun t ht => hcs t (by omega)) t ht
    rw [<- this]
    by_cases c1 : i * 2 <= t /\ t < i * 2 + nb.toList.length
    ·rw [if_pos c1, if_neg (by rw [Array.length_toList, hnb] at c1; omega), if_pos c1]
    ·rw [if_neg c1, if_neg c1]
   ·have hb' : g = b := by simpa [Value.ownBlock] using hb
    omega
  ·refine (ins_pend_grow n i c cs vb nb w g (by omega) hc1 (by omega) hn hcl (fun t x hx => by rw [blk_cell hg, hcs t (by have := (List.getElem?_eq_some_iff.1 hx).1; omega)]; exact hx) h1 hv hnb h1n).mono ?_
   rintro e w' ⟨G, cur', rfl, q1, q2, q3, q4, q5, q6⟩
   refine ⟨_, rfl, ⟨own_mk hlen q1 q3 q4 q2 q5, fun b hb => ?_⟩, t0.trans0 q6, q6.no⟩
   have hb' : w.heap.size = b := by simpa [Value.ownBlock] using hb
   have := t0.size
   omega
end
section
variable (w0 : World) (n i c : Nat) (cs : List Value) (vb : Nat) (nb : Array Value) (w : World)
theorem ins_br_end (v : Value) (t0 : Tch No w0 w) (h : OwnN w0 95 2 n cs v w) (hn : n <= 10000000) (hv : w.heap[vb]? = some (.cells nb 95 (0, 0))) (hnb : nb.size = 2) (h1n : Ones nb.toList) :
  Calls Tryz.prog 175 #[v, .int .i64 n, .slice (some ⟨vb, 0, none⟩) 1 1] w (InsPost 95 w0 v w n n cs nb.toList) := by
 have hu : CellsAt w (.slice (some ⟨vb, 0, none⟩) 1 1) 1 2 nb.toList := ⟨by simp [hnb], .inr ⟨vb, 0, 1, rfl, Nat.le_refl _, by simp [maxLen], blk_lt hv, fun j x hx => by rw [Nat.zero_add, blk_cell hv]; simpa using hx⟩⟩
 have HU := Lib.hid hu
 have HO := Lib.hid h
 have T0 := Lib.hid t0
 have HE : Hid (cs.take (n * 2) ++ nb.toList ++ cs.drop (n * 2) = cs ++ nb.toList) := by
  show _ = _
  rw [<- h.1.1, List.take_length, List.drop_length, List.append_nil]
 obtain ⟨a, c, rfl, hc1, hc2⟩ := own_shape h.1
 have H1 := Lib.hid h1n
 have hml : c <= 9223372036854775807 := by unfold maxLen at hc2; omega
 obtain ⟨va, rfl⟩ : ∃ va, va = (⟨vb, 0, none⟩ : Addr) := ⟨_, rfl⟩
 clear h t0 hu hv hnb h1n
 have hsl : n < c ∨ n = c := by omega
 rcases hsl with hsl | hsl
 ·have hb : ∃ g, a = some ⟨g, 0, none⟩ := by
   cases a with
   | none =>
    rcases HO.out.1.2 with ⟨h0, _⟩ | ⟨_, _, _, h0, _⟩
    ·injection h0 with _ _ h0; omega
    ·cases h0
   | some a =>
    obtain ⟨g0, cur, rfl, q1, q2, q3, q4, q5, q6⟩ := own_get HO.out.1
    exact ⟨g0, rfl⟩
  obtain ⟨g, rfl⟩ := hb
  go_enter Tryz.func175, Tryz.ntmps175
  go_wp2_with (at_builtin; refine wpList_appE eltBr w rfl _ _ rfl _ n cs rfl HO.out.1 _ 1 nb.toList rfl HU.out H1.out (by omega) ?_; rintro a' n' cap' w' HA hn')
  go_ret
  have hO := HA.on T0.out HO.out.2
  exact ⟨_, rfl, ⟨by rw [HE.out]; exact HA.own, hO.2⟩, hO.1, Tch.grown HA.grow (fun k hk _ => hk)⟩
 ·subst hsl
  go_enter Tryz.func175, Tryz.ntmps175
  go_wp2_with (at_builtin; refine wpList_appE eltBr w rfl _ _ rfl _ n cs rfl HO.out.1 _ 1 nb.toList rfl HU.out H1.out (by omega) ?_; rintro a' n' cap' w' HA hn')
  go_ret
  have hO := HA.on T0.out HO.out.2
  exact ⟨_, rfl, ⟨by rw [HE.out]; exact HA.own, hO.2⟩, hO.1, Tch.grown HA.grow (fun k hk _ => hk)⟩
theorem ins_br_shift (g : Nat) (cur : Array Value) (hi : i < n) (hc1 : n + 1 <= c) (hc2 : c <= maxLen) (hn : n <= 10000000) (hg : w.heap[g]? = some (.cells cur 95 (0, 0))) (hcur : cur.size = c * 2) (hcl : cs.length = n * 2) (hcs : ∀ t, t < n * 2 -> cur[t]? = cs[t]?) (h1 : Ones cs)
  (hv : w.heap[vb]? = some (.cells nb 95 (0, 0))) (hnb : nb.size = 2) (h1n : Ones nb.toList) (hne : vb ≠ g) :
  Calls Tryz.prog 175 #[.slice (some ⟨g, 0, none⟩) n c, .int .i64 i, .slice (some ⟨vb, 0, none⟩) 1 1] w fun e w' => e = .returned (.slice (some ⟨g, 0, none⟩) (n + 1) c) /\ w' = (w.drew.setCells g ((i + 1) * 2) (cs.drop (i * 2))).setCells g (i * 2) nb.toList := by
 have hml : c <= 9223372036854775807 := by unfold maxLen at hc2; omega
 have hov : ∀ lb cb, (callFunc 227 #[.slice (some ⟨vb, 0, none⟩) 1 1, .slice (some ⟨g, (i + 1) * 2, none⟩) lb cb]).run Tryz.prog w = .ok (.value (.bool false)) w := fun lb cb => by
  rw [run_callFunc_extern Tryz.func227 (by kernel_rfl) (by kernel_rfl) (by kernel_rfl) (e := Extern.SlicesOverlaps.overlaps #[25, 25] #[4]) (by kernel_rfl),
   Lib.run_overlaps_apart w 25 4 95 eltBr.und 2 Tryz.sizeOf95 ⟨vb, 0, none⟩ ⟨g, (i + 1) * 2, none⟩ 1 1 lb cb hne 95 95 2 (c * 2) (by simp [World.shape?, hv, hnb]) (by simp [World.shape?, hg, hcur]) (by omega) (blk_free hv 0) (blk_free hv 2)]
  rfl
 have hdl : (cs.drop (i * 2)).length = (n - i) * 2 := by rw [List.length_drop, hcl, Nat.sub_mul]
 have hcp1 : ∀ ty dc sc, (Builtin.copy_ #[25, 25] ty #[.slice (some ⟨g, (i + 1) * 2, none⟩) (n - i) dc, .slice (some ⟨g, i * 2, none⟩) (n + 1 - i) sc]).run Tryz.prog w.drew = .ok (goInt (Nat.min (n + 1 - i) (n - i))) (w.drew.setCells g ((i + 1) * 2) (cs.drop (i * 2))) := fun ty dc sc =>
  run_copy_many w.drew eltBr ty g ((i + 1) * 2) (n - i) dc ⟨g, i * 2, none⟩ (n + 1 - i) sc (cs.drop (i * 2)) (by rw [hdl, show Nat.min (n + 1 - i) (n - i) = n - i by simp only [Nat.min_def]; split <;> omega])
   (fun j v hj => by
    rw [addr_add]
    rw [List.getElem?_drop] at hj
    have hjl := (List.getElem?_eq_some_iff.1 hj).1
    show w.cell? _ = _
    rw [blk_cell hg, hcs _ (by omega)]; exact hj)
   (fun j hj => by show (w.cell? _).isSome = true; rw [blk_cell hg, Array.getElem?_eq_getElem (by rw [hdl] at hj; have := Nat.sub_mul n i 2; omega)]; rfl) (fun j hj => blk_free hg _) (h1.drop _)
 obtain ⟨W1, hW1⟩ : ∃ W1, W1 = w.drew.setCells g ((i + 1) * 2) (cs.drop (i * 2)) := ⟨_, rfl⟩
 obtain ⟨cur1, q1, q2, q3⟩ := blk_sets (cs.drop (i * 2)) ((i + 1) * 2) w.drew cur hg (by rw [hdl, hcur, <- Nat.add_mul]; exact Nat.mul_le_mul_right _ (by omega))
 rw [<- hW1] at q1
 have hv1 : W1.heap[vb]? = some (.cells nb 95 (0, 0)) := by rw [hW1]; exact blk_tch (Tch.setCells (F := fun k => k = g) (b := g) rfl _ _ w.drew) hv hne
 have hcp2 : ∀ (W : World), (∀ x, W.cell? x = W1.cell? x) -> (∀ x, W.frozen? x = W1.frozen? x) -> ∀ ty dc, (Builtin.copy_ #[25, 25] ty #[.slice (some ⟨g, i * 2, none⟩) (n + 1 - i) dc, .slice (some ⟨vb, 0, none⟩) 1 1]).run Tryz.prog W = .ok (goInt (Nat.min 1 (n + 1 - i))) (W.setCells g (i * 2) nb.toList) := fun W hWc hWf ty dc =>
  run_copy_many W eltBr ty g (i * 2) (n + 1 - i) dc ⟨vb, 0, none⟩ 1 1 nb.toList (by rw [Array.length_toList, hnb, show Nat.min 1 (n + 1 - i) = 1 by simp only [Nat.min_def]; split <;> omega])
   (fun j v hj => by rw [addr_add, hWc, blk_cell hv1, Nat.zero_add]; simpa using hj)
   (fun j hj => by rw [Array.length_toList, hnb] at hj; rw [hWc, blk_cell q1, Array.getElem?_eq_getElem (by rw [q2, hcur]; omega)]; rfl) (fun j hj => by rw [hWf]; exact blk_free q1 _) h1n
 rw [<- hW1] at hcp1
 have mixed : Tryz.prog.follows .mixedOrders = true := by kernel_rfl
 have hz2 : ¬ ((i : Int) = (n : Int)) := by omega
 have hw1 : IntKind.i64.wrap ((i : Int) + 1) = (i : Int) + 1 := by rw [IntKind.wrap_i64]; omega
 have hb1 : (0 : Int) <= (i : Int) + 1 := by omega
 have hin : i <= n := by omega
 have htn : ((i : Int) + 1).toNat = i + 1 := by omega
 have hb2 : ¬ (c = i + 1) := by omega
 have hb3 : (i : Int) <= (n : Int) + 1 := by omega
 have hb4 : ¬ (c = i) := by omega
 clear hg hcur hcl hcs h1 hv hnb h1n q1 q2 q3 hv1 hdl
 go_enter Tryz.func175, Tryz.ntmps175
 go_wp2_with (simp only [hov])
 go_region_law_o (refine step_copy_runI rfl _ _ 25 25 rfl _ _ (by simp [Act.eval, Act.put]) (by simp [Act.eval, Act.put]) (hcp1 _ _ _) ?_)
 go_wp2_with (at_builtin; refine wpList_copy_runI _ rfl _ _ 25 25 rfl _ _ rfl rfl (hcp2 _ (fun _ => rfl) (fun _ => rfl) _ _) ?_)
 go_ret
 exact ⟨rfl, rfl⟩
theorem ins_br_grow (g : Nat) (hi : i < n) (hc1 : n <= c) (hroom : c < n + 1) (hn : n <= 10000000) (hcl : cs.length = n * 2) (hcs : ∀ t x, cs[t]? = some x -> w.cell? ⟨g, t, none⟩ = some x) (h1 : Ones cs)
  (hv : w.heap[vb]? = some (.cells nb 95 (0, 0))) (hnb : nb.size = 2) (h1n : Ones nb.toList) :
  Calls Tryz.prog 175 #[.slice (some ⟨g, 0, none⟩) n c, .int .i64 i, .slice (some ⟨vb, 0, none⟩) 1 1] w fun e w' => ∃ G cur', e = .returned (.slice (some ⟨w.heap.size, 0, none⟩) (n + 1) G) /\ w'.heap[w.heap.size]? = some (.cells cur' 95 (0, 0)) /\ cur'.size = G * 2 /\ n + 1 <= G /\ G <= maxLen /\
   (∀ t, t < (n + 1) * 2 -> cur'[t]? = (cs.take (i * 2) ++ nb.toList ++ cs.drop (i * 2))[t]?) /\ Tch No w w' := by
 obtain ⟨i0, hi0, hz0, hzs, hzb⟩ := info_parts (show (Tryz.prog.info? 95).map (fun i => (i.zero, i.size, i.bytes)) = some (some (Value.agg #[.int .i64 0, .slice none 0 0]), 2, 32) by kernel_rfl)
 have hgb : g < w.heap.size := block_lt_of_cell (hcs 0 _ (List.getElem?_eq_getElem (by omega)))
 have hvw : vb < w.heap.size := blk_lt hv
 have hkk : (n : Int) + 1 - (i : Int) = ((n + 1 - i : Nat) : Int) := by omega
 have hik : i + (n + 1 - i) = n + 1 := by omega
 have hold : (Builtin.firstCells i0.size i (.slice (some ⟨g, 0, none⟩) i c)).run Tryz.prog w.drew = .ok (cs.take (i * 2)).toArray w.drew := by
  rw [hzs]
  exact run_firstCells_some w.drew 2 i ⟨g, 0, none⟩ i c (cs.take (i * 2)) (by rw [List.length_take]; omega) (fun j v hj => by
   rw [addr_add, Nat.zero_add]
   rw [List.getElem?_take] at hj
   split at hj
   ·exact hcs j v hj
   ·cases hj)
 have hrz : ∀ ty, (Builtin.append_ #[25, 3] ty #[.slice (some ⟨g, 0, none⟩) i c, .int .i64 ((n : Int) + 1 - (i : Int))]).run Tryz.prog w =
   .ok (.slice (some ⟨w.heap.size, 0, none⟩) (n + 1) (grownCap w (n + 1) c 95)) (w.drew.alloc (.cells ((cs.take (i * 2)).toArray ++ Builtin.zeroCells (Value.agg #[.int .i64 0, .slice none 0 0]).cells (n + 1 - i) ++ Builtin.zeroCells (Value.agg #[.int .i64 0, .slice none 0 0]).cells (grownCap w (n + 1) c 95 - (n + 1))) 95)) := fun ty => by
  have h := Lib.run_append_grow_zeros w 25 3 ty 95 i0 _ .i64 .i64 eltBr.und Tryz.underlying3 hi0 hz0 (some ⟨g, 0, none⟩) i c (cs.take (i * 2)) hold (n + 1 - i) (by omega) (by omega) (by omega) (by omega) (by rw [hzb]; omega) (by rw [hzb, hik]; exact growslice_fits (by omega) (by omega))
  rw [hik] at h
  rw [hkk]
  exact h
 obtain ⟨G, hG⟩ : ∃ G, G = grownCap w (n + 1) c 95 := ⟨_, rfl⟩
 obtain ⟨ROW, hROW⟩ : ∃ ROW : Array Value, ROW = (cs.take (i * 2)).toArray ++ Builtin.zeroCells (Value.agg #[.int .i64 0, .slice none 0 0]).cells (n + 1 - i) ++ Builtin.zeroCells (Value.agg #[.int .i64 0, .slice none 0 0]).cells (G - (n + 1)) := ⟨_, rfl⟩
 rw [<- hG] at hrz
 rw [<- hROW] at hrz
 have hGn : n + 1 <= G := by rw [hG]; exact grownCap_ge w _ _ _
 have hGm : G <= maxLen := by rw [hG]; exact grownCap_le_maxLen w (n + 1) c 95 (by unfold maxLen; omega)
 have hG63 : G <= 9223372036854775807 := by unfold maxLen at hGm; omega
 have htl : (cs.take (i * 2)).length = i * 2 := by rw [List.length_take, hcl]; omega
 have hRl : ROW.size = G * 2 := by
  rw [hROW]
  simp only [Array.size_append, List.size_toArray, htl, Builtin.zeroCells, Array.size_map, Array.size_range, Value.cells, List.size_toArray, List.length_cons, List.length_nil]
  omega
 have hRf : ∀ t, t < i * 2 -> ROW[t]? = cs[t]? := fun t ht => by
  rw [hROW, Array.append_assoc, Array.getElem?_append_left (by rw [List.size_toArray, htl]; exact ht), List.getElem?_toArray, List.getElem?_take, if_pos ht]
 obtain ⟨ws, hws⟩ : ∃ ws, w.heap.size = ws := ⟨_, rfl⟩
 rw [hws] at hrz hgb hvw
 rw [hws]
 obtain ⟨W1, hW1⟩ : ∃ W1, W1 = w.drew.alloc (.cells ROW 95) := ⟨_, rfl⟩
 have hN : W1.heap[ws]? = some (.cells ROW 95 (0, 0)) := by rw [hW1, <- hws]; exact blk_new w.drew _
 have T1 : Tch No w W1 := by rw [hW1]; exact (Tch.drew w).trans0 (Tch.alloc _ _)
 have hO : ∀ t x, cs[t]? = some x -> W1.cell? ⟨g, t, none⟩ = some x := fun t x hx => T1.cell (hcs t x hx) (fun h => h)
 have hv1 : W1.heap[vb]? = some (.cells nb 95 (0, 0)) := blk_tch T1 hv (fun h => h)
 rw [<- hW1] at hrz
 have hdl : (cs.drop (i * 2)).length = (n - i) * 2 := by rw [List.length_drop, hcl, Nat.sub_mul]
 have hcpA : ∀ (W : World), (∀ x, W.cell? x = W1.cell? x) -> (∀ x, W.frozen? x = W1.frozen? x) -> ∀ ty dc, (Builtin.copy_ #[25, 25] ty #[.slice (some ⟨ws, i * 2, none⟩) (n + 1 - i) dc, .slice (some ⟨vb, 0, none⟩) 1 1]).run Tryz.prog W = .ok (goInt (Nat.min 1 (n + 1 - i))) (W.setCells ws (i * 2) nb.toList) := fun W hWc hWf ty dc =>
  run_copy_many W eltBr ty ws (i * 2) (n + 1 - i) dc ⟨vb, 0, none⟩ 1 1 nb.toList (by rw [Array.length_toList, hnb, show Nat.min 1 (n + 1 - i) = 1 by simp only [Nat.min_def]; split <;> omega])
   (fun j v hj => by rw [addr_add, hWc, blk_cell hv1, Nat.zero_add]; simpa using hj)
   (fun j hj => by rw [Array.length_toList, hnb] at hj; rw [hWc, blk_cell hN, Array.getElem?_eq_getElem (by rw [hRl]; omega)]; rfl) (fun j hj => by rw [hWf]; exact blk_free hN _) h1n
 obtain ⟨cur1, q1, q2, q3⟩ := blk_sets nb.toList (i * 2) W1 ROW hN (by rw [Array.length_toList, hnb, hRl]; omega)
 have hcpB : ∀ (W : World), (∀ x, W.cell? x = (W1.setCells ws (i * 2) nb.toList).cell? x) -> (∀ x, W.frozen? x = (W1.setCells ws (i * 2) nb.toList).frozen? x) -> ∀ ty dc sc, (Builtin.copy_ #[25, 25] ty #[.slice (some ⟨ws, (i + 1) * 2, none⟩) (n - i) dc, .slice (some ⟨g, i * 2, none⟩) (n - i) sc]).run Tryz.prog W = .ok (goInt (Nat.min (n - i) (n - i))) (W.setCells ws ((i + 1) * 2) (cs.drop (i * 2))) := fun W hWc hWf ty dc sc =>
  run_copy_many W eltBr ty ws ((i + 1) * 2) (n - i) dc ⟨g, i * 2, none⟩ (n - i) sc (cs.drop (i * 2)) (by rw [hdl, show Nat.min (n - i) (n - i) = n - i from Nat.min_self _])
   (fun j v hj => by
    rw [List.getElem?_drop] at hj
    rw [addr_add, hWc]
    exact (Tch.setCells (F := fun k => k = ws) (b := ws) rfl nb.toList (i * 2) W1).cell (hO _ _ hj) (by show ¬ g = ws; omega))
   (fun j hj => by rw [hWc, blk_cell q1, Array.getElem?_eq_getElem (by rw [q2, hRl]; rw [hdl] at hj; have := Nat.sub_mul n i 2; omega)]; rfl) (fun j hj => by rw [hWf]; exact blk_free q1 _) (h1.drop _)
 have HFIN : Hid (∃ cur' : Array Value, ((((w.alloc (.cells ROW 95)).drew.setCells ws (i * 2) nb.toList).drew).setCells ws ((i + 1) * 2) (cs.drop (i * 2))).heap[ws]? = some (.cells cur' 95 (0, 0)) /\ cur'.size = G * 2 /\ (∀ t, t < (n + 1) * 2 -> cur'[t]? = (cs.take (i * 2) ++ nb.toList ++ cs.drop (i * 2))[t]?) /\ Tch No w ((((w.alloc (.cells ROW 95)).drew.setCells ws (i * 2) nb.toList).drew).setCells ws ((i + 1) * 2) (cs.drop (i * 2)))) := by
  obtain ⟨cur1, q1, q2, q3⟩ := blk_sets (b := ws) (e := 95) nb.toList (i * 2) ((w.alloc (.cells ROW 95)).drew) ROW (by rw [<- hws]; exact blk_new w _) (by rw [Array.length_toList, hnb, hRl]; omega)
  obtain ⟨cur2, r1, r2, r3⟩ := blk_sets (cs.drop (i * 2)) ((i + 1) * 2) (((w.alloc (.cells ROW 95)).drew.setCells ws (i * 2) nb.toList).drew) cur1 q1 (by rw [hdl, q2, hRl]; have := Nat.sub_mul n i 2; omega)
  refine ⟨cur2, r1, by rw [r2, q2, hRl], fun t ht => ?_, ?_⟩
  ·rw [r3 t, q3 t]
   exact ins_cells hcl (by rw [Array.length_toList, hnb]) (by omega) ROW hRf t ht
  ·exact (((((Tch.alloc w _).trans0 (Tch.drew _)).fresh (F := fun k => k = ws) (Tch.setCells (F := fun k => k = ws) (b := ws) rfl _ _ _) (fun k h => by omega))).trans0 (Tch.drew _)).fresh (F := fun k => k = ws) (Tch.setCells (F := fun k => k = ws) (b := ws) rfl _ _ _) (fun k h => by omega)
 clear q1 q2 q3
 subst hW1
 have hE1 : ∀ x, ((w.alloc (.cells ROW 95)).drew).cell? x = (w.drew.alloc (.cells ROW 95)).cell? x := fun x => rfl
 have hE2 : ∀ x, ((w.alloc (.cells ROW 95)).drew).frozen? x = (w.drew.alloc (.cells ROW 95)).frozen? x := fun x => rfl
 have hF1 : ∀ x, (((w.alloc (.cells ROW 95)).drew.setCells ws (i * 2) nb.toList).drew).cell? x = ((w.drew.alloc (.cells ROW 95)).setCells ws (i * 2) nb.toList).cell? x := fun x => rfl
 have hF2 : ∀ x, (((w.alloc (.cells ROW 95)).drew.setCells ws (i * 2) nb.toList).drew).frozen? x = ((w.drew.alloc (.cells ROW 95)).setCells ws (i * 2) nb.toList).frozen? x := fun x => rfl
 have mixed : Tryz.prog.follows .mixedOrders = true := by kernel_rfl
 have hz2 : ¬ ((i : Int) = (n : Int)) := by omega
 have hz3 : (c : Int) < (n : Int) + 1 := by omega
 have hw1 : IntKind.i64.wrap ((i : Int) + 1) = (i : Int) + 1 := by rw [IntKind.wrap_i64]; omega
 have hb1 : (0 : Int) <= (i : Int) + 1 := by omega
 have hin : i <= n := by omega
 have htn : ((i : Int) + 1).toNat = i + 1 := by omega
 have hb3 : (i : Int) <= (n : Int) := by omega
 have hGi : ¬ (G = i) := by omega
 have hGim : ¬ (G = i + 1) := by omega
 have hci : ¬ (c = i) := by omega
 clear hkk hik hold hROW hG hRl hRf hN T1 hO hv1 htl hdl hcs hcl h1 h1n hv hnb hws hi0 hz0 hzs hzb
 go_enter Tryz.func175, Tryz.ntmps175
 go_wp2_with (first
  | (at_builtin; refine Lib.wpList_append_run _ rfl _ _ _ _ rfl _ _ rfl rfl _ _ (hrz _) ?_)
  | (at_builtin; refine wpList_copy_runI _ rfl _ _ 25 25 rfl _ _ rfl rfl (hcpA _ hE1 hE2 _ _) ?_))
 go_region_law_o (refine step_copy_runI rfl _ _ 25 25 rfl (.slice (some ⟨ws, (i + 1) * 2, none⟩) (n - i) (G - (i + 1))) (.slice (some ⟨g, i * 2, none⟩) (n - i) (c - i)) (by simp [Act.eval, Act.put]) (by simp [Act.eval, Act.put]) (hcpB _ hF1 hF2 3 (G - (i + 1)) (c - i)) ?_)
 go_wp2
 go_ret
 obtain ⟨cur', s1, s2, s3, s4⟩ := HFIN.out
 exact ⟨G, cur', rfl, s1, s2, hGn, hGm, s3, s4⟩
theorem ins_br (v : Value) (hi : i <= n) (t0 : Tch No w0 w) (h : OwnN w0 95 2 n cs v w) (hn : n <= 10000000) (h1 : Ones cs) (hv : w.heap[vb]? = some (.cells nb 95 (0, 0))) (hnb : nb.size = 2) (h1n : Ones nb.toList) (hne : i < n -> v.ownBlock ≠ some vb) :
  Calls Tryz.prog 175 #[v, .int .i64 i, .slice (some ⟨vb, 0, none⟩) 1 1] w (InsPost 95 w0 v w n i cs nb.toList) := by
 by_cases hin : i = n
 ·subst hin
  exact ins_br_end w0 i cs vb nb w v t0 h hn hv hnb h1n
 ·obtain ⟨a, c, rfl, hc1, hc2⟩ := own_shape h.1
  have hex : ∃ g cur, a = some ⟨g, 0, none⟩ /\ w0.heap.size <= g /\ w.heap[g]? = some (.cells cur 95 (0, 0)) /\ cur.size = c * 2 /\ cs.length = n * 2 /\ ∀ t, t < n * 2 -> cur[t]? = cs[t]? := by
   cases a with
   | none =>
    rcases h.1.2 with ⟨h0, _⟩ | ⟨_, _, _, h0, _⟩
    ·injection h0 with _ _ h0; omega
    ·cases h0
   | some a =>
    obtain ⟨g0, cur, rfl, q1, q2, q3, q4, q5, q6⟩ := own_get h.1
    exact ⟨g0, cur, rfl, h.2 g0 rfl, q1, q4, q5, q6⟩
  obtain ⟨g, cur, rfl, hge, hg, hsz, hcl, hcs⟩ := hex
  have hvg : vb ≠ g := fun e => hne (by omega) (by rw [e]; rfl)
  have hlen : (cs.take (i * 2) ++ nb.toList ++ cs.drop (i * 2)).length = (n + 1) * 2 := by
   have e1 : nb.toList.length = 2 := by rw [Array.length_toList, hnb]
   rw [List.length_append, List.length_append, List.length_take, List.length_drop, e1, hcl]; omega
  by_cases hr : n + 1 <= c
  ·refine (ins_br_shift n i c cs vb nb w g cur (by omega) hr hc2 hn hg hsz hcl hcs h1 hv hnb h1n hvg).mono ?_
   rintro e w' ⟨rfl, rfl⟩
   obtain ⟨cur1, q1, q2, q3⟩ := blk_sets (cs.drop (i * 2)) ((i + 1) * 2) w.drew cur hg (by rw [List.length_drop]; omega)
   obtain ⟨cur2, r1, r2, r3⟩ := blk_sets nb.toList (i * 2) (w.drew.setCells g ((i + 1) * 2) (cs.drop (i * 2))) cur1 q1 (by rw [Array.length_toList, q2]; omega)
   refine ⟨_, rfl, ⟨own_mk hlen r1 hr hc2 (by rw [r2, q2, hsz]) (fun t ht => ?_), fun b hb => ?_⟩, ((t0.trans0 (Tch.drew _)).fresh (F := fun k => k = g) (Tch.setCells (F := fun k => k = g) (b := g) rfl _ _ _) (fun k h => by omega)).fresh (F := fun k => k = g) (Tch.setCells (F := fun k => k = g) (b := g) rfl _ _ _) (fun k h => by omega), ((Tch.drew w).no.trans (Tch.setCells (F := fun k => Value.ownBlock (.slice (some ⟨g, 0, none⟩) n c) = some k) (b := g) rfl _ _ _) (fun _ _ h => h)).trans (Tch.setCells (F := fun k => Value.ownBlock (.slice (some ⟨g, 0, none⟩) n c) = some k) (b := g) rfl _ _ _) (fun _ _ h => h)⟩
   ·rw [r3 t, q3 t]
    have := ins_cells (nb := nb.toList) hcl (by rw [Array.length_toList, hnb]) hi cur (fun t ht => hcs t (by omega)) t ht
    rw [<- this]
    by_cases c1 : i * 2 <= t /\ t < i * 2 + nb.toList.length
    ·rw [if_pos c1, if_neg (by rw [Array.length_toList, hnb] at c1; omega), if_pos c1]
    ·rw [if_neg c1, if_neg c1]
   ·have hb' : g = b := by simpa [Value.ownBlock] using hb
    omega
  ·refine (ins_br_grow n i c cs vb nb w g (by omega) hc1 (by omega) hn hcl (fun t x hx => by rw [blk_cell hg, hcs t (by have := (List.getElem?_eq_some_iff.1 hx).1; omega)]; exact hx) h1 hv hnb h1n).mono ?_
   rintro e w' ⟨G, cur', rfl, q1, q2, q3, q4, q5, q6⟩
   refine ⟨_, rfl, ⟨own_mk hlen q1 q3 q4 q2 q5, fun b hb => ?_⟩, t0.trans0 q6, q6.no⟩
   have hb' : w.heap.size = b := by simpa [Value.ownBlock] using hb
   have := t0.size
   omega
end
section
variable (w0 : World) (n i c : Nat) (cs : List Value) (vb : Nat) (nb : Array Value) (w : World)
theorem ins_end_end (v : Value) (t0 : Tch No w0 w) (h : OwnN w0 71 2 n cs v w) (hn : n <= 10000000) (hv : w.heap[vb]? = some (.cells nb 71 (0, 0))) (hnb : nb.size = 2) (h1n : Ones nb.toList) :
  Calls Tryz.prog 223 #[v, .int .i64 n, .slice (some ⟨vb, 0, none⟩) 1 1] w (InsPost 71 w0 v w n n cs nb.toList) := by
 have hu : CellsAt w (.slice (some ⟨vb, 0, none⟩) 1 1) 1 2 nb.toList := ⟨by simp [hnb], .inr ⟨vb, 0, 1, rfl, Nat.le_refl _, by simp [maxLen], blk_lt hv, fun j x hx => by rw [Nat.zero_add, blk_cell hv]; simpa using hx⟩⟩
 have HU := Lib.hid hu
 have HO := Lib.hid h
 have T0 := Lib.hid t0
 have HE : Hid (cs.take (n * 2) ++ nb.toList ++ cs.drop (n * 2) = cs ++ nb.toList) := by
  show _ = _
  rw [<- h.1.1, List.take_length, List.drop_length, List.append_nil]
 obtain ⟨a, c, rfl, hc1, hc2⟩ := own_shape h.1
 have H1 := Lib.hid h1n
 have hml : c <= 9223372036854775807 := by unfold maxLen at hc2; omega
 obtain ⟨va, rfl⟩ : ∃ va, va = (⟨vb, 0, none⟩ : Addr) := ⟨_, rfl⟩
 clear h t0 hu hv hnb h1n
 have hsl : n < c ∨ n = c := by omega
 rcases hsl with hsl | hsl
 ·have hb : ∃ g, a = some ⟨g, 0, none⟩ := by
   cases a with
   | none =>
    rcases HO.out.1.2 with ⟨h0, _⟩ | ⟨_, _, _, h0, _⟩
    ·injection h0 with _ _ h0; omega
    ·cases h0
   | some a =>
    obtain ⟨g0, cur, rfl, q1, q2, q3, q4, q5, q6⟩ := own_get HO.out.1
    exact ⟨g0, rfl⟩
  obtain ⟨g, rfl⟩ := hb
  go_enter Tryz.func223, Tryz.ntmps223
  go_wp2_with (at_builtin; refine wpList_appE eltEnd w rfl _ _ rfl _ n cs rfl HO.out.1 _ 1 nb.toList rfl HU.out H1.out (by omega) ?_; rintro a' n' cap' w' HA hn')
  go_ret
  have hO := HA.on T0.out HO.out.2
  exact ⟨_, rfl, ⟨by rw [HE.out]; exact HA.own, hO.2⟩, hO.1, Tch.grown HA.grow (fun k hk _ => hk)⟩
 ·subst hsl
  go_enter Tryz.func223, Tryz.ntmps223
  go_wp2_with (at_builtin; refine wpList_appE eltEnd w rfl _ _ rfl _ n cs rfl HO.out.1 _ 1 nb.toList rfl HU.out H1.out (by omega) ?_; rintro a' n' cap' w' HA hn')
  go_ret
  have hO := HA.on T0.out HO.out.2
  exact ⟨_, rfl, ⟨by rw [HE.out]; exact HA.own, hO.2⟩, hO.1, Tch.grown HA.grow (fun k hk _ => hk)⟩
theorem ins_end_shift (g : Nat) (cur : Array Value) (hi : i < n) (hc1 : n + 1 <= c) (hc2 : c <= maxLen) (hn : n <= 10000000) (hg : w.heap[g]? = some (.cells cur 71 (0, 0))) (hcur : cur.size = c * 2) (hcl : cs.length = n * 2) (hcs : ∀ t, t < n * 2 -> cur[t]? = cs[t]?) (h1 : Ones cs)
  (hv : w.heap[vb]? = some (.cells nb 71 (0, 0))) (hnb : nb.size = 2) (h1n : Ones nb.toList) (hne : vb ≠ g) :
  Calls Tryz.prog 223 #[.slice (some ⟨g, 0, none⟩) n c, .int .i64 i, .slice (some ⟨vb, 0, none⟩) 1 1] w fun e w' => e = .returned (.slice (some ⟨g, 0, none⟩) (n + 1) c) /\ w' = (w.drew.setCells g ((i + 1) * 2) (cs.drop (i * 2))).setCells g (i * 2) nb.toList := by
 have hml : c <= 9223372036854775807 := by unfold maxLen at hc2; omega
 have hov : ∀ lb cb, (callFunc 264 #[.slice (some ⟨vb, 0, none⟩) 1 1, .slice (some ⟨g, (i + 1) * 2, none⟩) lb cb]).run Tryz.prog w = .ok (.value (.bool false)) w := fun lb cb => by
  rw [run_callFunc_extern Tryz.func264 (by kernel_rfl) (by kernel_rfl) (by kernel_rfl) (e := Extern.SlicesOverlaps.overlaps #[26, 26] #[4]) (by kernel_rfl),
   Lib.run_overlaps_apart w 26 4 71 eltEnd.und 2 Tryz.sizeOf71 ⟨vb, 0, none⟩ ⟨g, (i + 1) * 2, none⟩ 1 1 lb cb hne 71 71 2 (c * 2) (by simp [World.shape?, hv, hnb]) (by simp [World.shape?, hg, hcur]) (by omega) (blk_free hv 0) (blk_free hv 2)]
  rfl
 have hdl : (cs.drop (i * 2)).length = (n - i) * 2 := by rw [List.length_drop, hcl, Nat.sub_mul]
 have hcp1 : ∀ ty dc sc, (Builtin.copy_ #[26, 26] ty #[.slice (some ⟨g, (i + 1) * 2, none⟩) (n - i) dc, .slice (some ⟨g, i * 2, none⟩) (n + 1 - i) sc]).run Tryz.prog w.drew = .ok (goInt (Nat.min (n + 1 - i) (n - i))) (w.drew.setCells g ((i + 1) * 2) (cs.drop (i * 2))) := fun ty dc sc =>
  run_copy_many w.drew eltEnd ty g ((i + 1) * 2) (n - i) dc ⟨g, i * 2, none⟩ (n + 1 - i) sc (cs.drop (i * 2)) (by rw [hdl, show Nat.min (n + 1 - i) (n - i) = n - i by simp only [Nat.min_def]; split <;> omega])
   (fun j v hj => by
    rw [addr_add]
    rw [List.getElem?_drop] at hj
    have hjl := (List.getElem?_eq_some_iff.1 hj).1
    show w.cell? _ = _
    rw [blk_cell hg, hcs _ (by omega)]; exact hj)
   (fun j hj => by show (w.cell? _).isSome = true; rw [blk_cell hg, Array.getElem?_eq_getElem (by rw [hdl] at hj; have := Nat.sub_mul n i 2; omega)]; rfl) (fun j hj => blk_free hg _) (h1.drop _)
 obtain ⟨W1, hW1⟩ : ∃ W1, W1 = w.drew.setCells g ((i + 1) * 2) (cs.drop (i * 2)) := ⟨_, rfl⟩
 obtain ⟨cur1, q1, q2, q3⟩ := blk_sets (cs.drop (i * 2)) ((i + 1) * 2) w.drew cur hg (by rw [hdl, hcur, <- Nat.add_mul]; exact Nat.mul_le_mul_right _ (by omega))
 rw [<- hW1] at q1
 have hv1 : W1.heap[vb]? = some (.cells nb 71 (0, 0)) := by rw [hW1]; exact blk_tch (Tch.setCells (F := fun k => k = g) (b := g) rfl _ _ w.drew) hv hne
 have hcp2 : ∀ (W : World), (∀ x, W.cell? x = W1.cell? x) -> (∀ x, W.frozen? x = W1.frozen? x) -> ∀ ty dc, (Builtin.copy_ #[26, 26] ty #[.slice (some ⟨g, i * 2, none⟩) (n + 1 - i) dc, .slice (some ⟨vb, 0, none⟩) 1 1]).run Tryz.prog W = .ok (goInt (Nat.min 1 (n + 1 - i))) (W.setCells g (i * 2) nb.toList) := fun W hWc hWf ty dc =>
  run_copy_many W eltEnd ty g (i * 2) (n + 1 - i) dc ⟨vb, 0, none⟩ 1 1 nb.toList (by rw [Array.length_toList, hnb, show Nat.min 1 (n + 1 - i) = 1 by simp only [Nat.min_def]; split <;> omega])
   (fun j v hj => by rw [addr_add, hWc, blk_cell hv1, Nat.zero_add]; simpa using hj)
   (fun j hj => by rw [Array.length_toList, hnb] at hj; rw [hWc, blk_cell q1, Array.getElem?_eq_getElem (by rw [q2, hcur]; omega)]; rfl) (fun j hj => by rw [hWf]; exact blk_free q1 _) h1n
 rw [<- hW1] at hcp1
 have mixed : Tryz.prog.follows .mixedOrders = true := by kernel_rfl
 have hz2 : ¬ ((i : Int) = (n : Int)) := by omega
 have hw1 : IntKind.i64.wrap ((i : Int) + 1) = (i : Int) + 1 := by rw [IntKind.wrap_i64]; omega
 have hb1 : (0 : Int) <= (i : Int) + 1 := by omega
 have hin : i <= n := by omega
 have htn : ((i : Int) + 1).toNat = i + 1 := by omega
 have hb2 : ¬ (c = i + 1) := by omega
 have hb3 : (i : Int) <= (n : Int) + 1 := by omega
 have hb4 : ¬ (c = i) := by omega
 clear hg hcur hcl hcs h1 hv hnb h1n q1 q2 q3 hv1 hdl
 go_enter Tryz.func223, Tryz.ntmps223
 go_wp2_with (simp only [hov])
 go_region_law_o (refine step_copy_runI rfl _ _ 26 26 rfl _ _ (by simp [Act.eval, Act.put]) (by simp [Act.eval, Act.put]) (hcp1 _ _ _) ?_)
 go_wp2_with (at_builtin; refine wpList_copy_runI _ rfl _ _ 26 26 rfl _ _ rfl rfl (hcp2 _ (fun _ => rfl) (fun _ => rfl) _ _) ?_)
 go_ret
 exact ⟨rfl, rfl⟩
theorem ins_end_grow (g : Nat) (hi : i < n) (hc1 : n <= c) (hroom : c < n + 1) (hn : n <= 10000000) (hcl : cs.length = n * 2) (hcs : ∀ t x, cs[t]? = some x -> w.cell? ⟨g, t, none⟩ = some x) (h1 : Ones cs)
  (hv : w.heap[vb]? = some (.cells nb 71 (0, 0))) (hnb : nb.size = 2) (h1n : Ones nb.toList) :
  Calls Tryz.prog 223 #[.slice (some ⟨g, 0, none⟩) n c, .int .i64 i, .slice (some ⟨vb, 0, none⟩) 1 1] w fun e w' => ∃ G cur', e = .returned (.slice (some ⟨w.heap.size, 0, none⟩) (n + 1) G) /\ w'.heap[w.heap.size]? = some (.cells cur' 71 (0, 0)) /\ cur'.size = G * 2 /\ n + 1 <= G /\ G <= maxLen /\
   (∀ t, t < (n + 1) * 2 -> cur'[t]? = (cs.take (i * 2) ++ nb.toList ++ cs.drop (i * 2))[t]?) /\ Tch No w w' := by
 obtain ⟨i0, hi0, hz0, hzs, hzb⟩ := info_parts (show (Tryz.prog.info? 71).map (fun i => (i.zero, i.size, i.bytes)) = some (some (Value.agg #[.int .i64 0, .bool false]), 2, 16) by kernel_rfl)
 have hgb : g < w.heap.size := block_lt_of_cell (hcs 0 _ (List.getElem?_eq_getElem (by omega)))
 have hvw : vb < w.heap.size := blk_lt hv
 have hkk : (n : Int) + 1 - (i : Int) = ((n + 1 - i : Nat) : Int) := by omega
 have hik : i + (n + 1 - i) = n + 1 := by omega
 have hold : (Builtin.firstCells i0.size i (.slice (some ⟨g, 0, none⟩) i c)).run Tryz.prog w.drew = .ok (cs.take (i * 2)).toArray w.drew := by
  rw [hzs]
  exact run_firstCells_some w.drew 2 i ⟨g, 0, none⟩ i c (cs.take (i * 2)) (by rw [List.length_take]; omega) (fun j v hj => by
   rw [addr_add, Nat.zero_add]
   rw [List.getElem?_take] at hj
   split at hj
   ·exact hcs j v hj
   ·cases hj)
 have hrz : ∀ ty, (Builtin.append_ #[26, 3] ty #[.slice (some ⟨g, 0, none⟩) i c, .int .i64 ((n : Int) + 1 - (i : Int))]).run Tryz.prog w =
   .ok (.slice (some ⟨w.heap.size, 0, none⟩) (n + 1) (grownCap w (n + 1) c 71)) (w.drew.alloc (.cells ((cs.take (i * 2)).toArray ++ Builtin.zeroCells (Value.agg #[.int .i64 0, .bool false]).cells (n + 1 - i) ++ Builtin.zeroCells (Value.agg #[.int .i64 0, .bool false]).cells (grownCap w (n + 1) c 71 - (n + 1))) 71)) := fun ty => by
  have h := Lib.run_append_grow_zeros w 26 3 ty 71 i0 _ .i64 .i64 eltEnd.und Tryz.underlying3 hi0 hz0 (some ⟨g, 0, none⟩) i c (cs.take (i * 2)) hold (n + 1 - i) (by omega) (by omega) (by omega) (by omega) (by rw [hzb]; omega) (by rw [hzb, hik]; exact growslice_fits (by omega) (by omega))
  rw [hik] at h
  rw [hkk]
  exact h
 obtain ⟨G, hG⟩ : ∃ G, G = grownCap w (n + 1) c 71 := ⟨_, rfl⟩
 obtain ⟨ROW, hROW⟩ : ∃ ROW : Array Value, ROW = (cs.take (i * 2)).toArray ++ Builtin.zeroCells (Value.agg #[.int .i64 0, .bool false]).cells (n + 1 - i) ++ Builtin.zeroCells (Value.agg #[.int .i64 0, .bool false]).cells (G - (n + 1)) := ⟨_, rfl⟩
 rw [<- hG] at hrz
 rw [<- hROW] at hrz
 have hGn : n + 1 <= G := by rw [hG]; exact grownCap_ge w _ _ _
 have hGm : G <= maxLen := by rw [hG]; exact grownCap_le_maxLen w (n + 1) c 71 (by unfold maxLen; omega)
 have hG63 : G <= 9223372036854775807 := by unfold maxLen at hGm; omega
 have htl : (cs.take (i * 2)).length = i * 2 := by rw [List.length_take, hcl]; omega
 have hRl : ROW.size = G * 2 := by
  rw [hROW]
  simp only [Array.size_append, List.size_toArray, htl, Builtin.zeroCells, Array.size_map, Array.size_range, Value.cells, List.size_toArray, List.length_cons, List.length_nil]
  omega
 have hRf : ∀ t, t < i * 2 -> ROW[t]? = cs[t]? := fun t ht => by
  rw [hROW, Array.append_assoc, Array.getElem?_append_left (by rw [List.size_toArray, htl]; exact ht), List.getElem?_toArray, List.getElem?_take, if_pos ht]
 obtain ⟨ws, hws⟩ : ∃ ws, w.heap.size = ws := ⟨_, rfl⟩
 rw [hws] at hrz hgb hvw
 rw [hws]
 obtain ⟨W1, hW1⟩ : ∃ W1, W1 = w.drew.alloc (.cells ROW 71) := ⟨_, rfl⟩
 have hN : W1.heap[ws]? = some (.cells ROW 71 (0, 0)) := by rw [hW1, <- hws]; exact blk_new w.drew _
 have T1 : Tch No w W1 := by rw [hW1]; exact (Tch.drew w).trans0 (Tch.alloc _ _)
 have hO : ∀ t x, cs[t]? = some x -> W1.cell? ⟨g, t, none⟩ = some x := fun t x hx => T1.cell (hcs t x hx) (fun h => h)
 have hv1 : W1.heap[vb]? = some (.cells nb 71 (0, 0)) := blk_tch T1 hv (fun h => h)
 rw [<- hW1] at hrz
 have hdl : (cs.drop (i * 2)).length = (n - i) * 2 := by rw [List.length_drop, hcl, Nat.sub_mul]
 have hcpA : ∀ (W : World), (∀ x, W.cell? x = W1.cell? x) -> (∀ x, W.frozen? x = W1.frozen? x) -> ∀ ty dc, (Builtin.copy_ #[26, 26] ty #[.slice (some ⟨ws, i * 2, none⟩) (n + 1 - i) dc, .slice (some ⟨vb, 0, none⟩) 1 1]).run Tryz.prog W = .ok (goInt (Nat.min 1 (n + 1 - i))) (W.setCells ws (i * 2) nb.toList) := fun W hWc hWf ty dc =>
  run_copy_many W eltEnd ty ws (i * 2) (n + 1 - i) dc ⟨vb, 0, none⟩ 1 1 nb.toList (by rw [Array.length_toList, hnb, show Nat.min 1 (n + 1 - i) = 1 by simp only [Nat.min_def]; split <;> omega])
   (fun j v hj => by rw [addr_add, hWc, blk_cell hv1, Nat.zero_add]; simpa using hj)
   (fun j hj => by rw [Array.length_toList, hnb] at hj; rw [hWc, blk_cell hN, Array.getElem?_eq_getElem (by rw [hRl]; omega)]; rfl) (fun j hj => by rw [hWf]; exact blk_free hN _) h1n
 obtain ⟨cur1, q1, q2, q3⟩ := blk_sets nb.toList (i * 2) W1 ROW hN (by rw [Array.length_toList, hnb, hRl]; omega)
 have hcpB : ∀ (W : World), (∀ x, W.cell? x = (W1.setCells ws (i * 2) nb.toList).cell? x) -> (∀ x, W.frozen? x = (W1.setCells ws (i * 2) nb.toList).frozen? x) -> ∀ ty dc sc, (Builtin.copy_ #[26, 26] ty #[.slice (some ⟨ws, (i + 1) * 2, none⟩) (n - i) dc, .slice (some ⟨g, i * 2, none⟩) (n - i) sc]).run Tryz.prog W = .ok (goInt (Nat.min (n - i) (n - i))) (W.setCells ws ((i + 1) * 2) (cs.drop (i * 2))) := fun W hWc hWf ty dc sc =>
  run_copy_many W eltEnd ty ws ((i + 1) * 2) (n - i) dc ⟨g, i * 2, none⟩ (n - i) sc (cs.drop (i * 2)) (by rw [hdl, show Nat.min (n - i) (n - i) = n - i from Nat.min_self _])
   (fun j v hj => by
    rw [List.getElem?_drop] at hj
    rw [addr_add, hWc]
    exact (Tch.setCells (F := fun k => k = ws) (b := ws) rfl nb.toList (i * 2) W1).cell (hO _ _ hj) (by show ¬ g = ws; omega))
   (fun j hj => by rw [hWc, blk_cell q1, Array.getElem?_eq_getElem (by rw [q2, hRl]; rw [hdl] at hj; have := Nat.sub_mul n i 2; omega)]; rfl) (fun j hj => by rw [hWf]; exact blk_free q1 _) (h1.drop _)
 have HFIN : Hid (∃ cur' : Array Value, ((((w.alloc (.cells ROW 71)).drew.setCells ws (i * 2) nb.toList).drew).setCells ws ((i + 1) * 2) (cs.drop (i * 2))).heap[ws]? = some (.cells cur' 71 (0, 0)) /\ cur'.size = G * 2 /\ (∀ t, t < (n + 1) * 2 -> cur'[t]? = (cs.take (i * 2) ++ nb.toList ++ cs.drop (i * 2))[t]?) /\ Tch No w ((((w.alloc (.cells ROW 71)).drew.setCells ws (i * 2) nb.toList).drew).setCells ws ((i + 1) * 2) (cs.drop (i * 2)))) := by
  obtain ⟨cur1, q1, q2, q3⟩ := blk_sets (b := ws) (e := 71) nb.toList (i * 2) ((w.alloc (.cells ROW 71)).drew) ROW (by rw [<- hws]; exact blk_new w _) (by rw [Array.length_toList, hnb, hRl]; omega)
  obtain ⟨cur2, r1, r2, r3⟩ := blk_sets (cs.drop (i * 2)) ((i + 1) * 2) (((w.alloc (.cells ROW 71)).drew.setCells ws (i * 2) nb.toList).drew) cur1 q1 (by rw [hdl, q2, hRl]; have := Nat.sub_mul n i 2; omega)
  refine ⟨cur2, r1, by rw [r2, q2, hRl], fun t ht => ?_, ?_⟩
  ·rw [r3 t, q3 t]
   exact ins_cells hcl (by rw [Array.length_toList, hnb]) (by omega) ROW hRf t ht
  ·exact (((((Tch.alloc w _).trans0 (Tch.drew _)).fresh (F := fun k => k = ws) (Tch.setCells (F := fun k => k = ws) (b := ws) rfl _ _ _) (fun k h => by omega))).trans0 (Tch.drew _)).fresh (F := fun k => k = ws) (Tch.setCells (F := fun k => k = ws) (b := ws) rfl _ _ _) (fun k h => by omega)
 clear q1 q2 q3
 subst hW1
 have hE1 : ∀ x, ((w.alloc (.cells ROW 71)).drew).cell? x = (w.drew.alloc (.cells ROW 71)).cell? x := fun x => rfl
 have hE2 : ∀ x, ((w.alloc (.cells ROW 71)).drew).frozen? x = (w.drew.alloc (.cells ROW 71)).frozen? x := fun x => rfl
 have hF1 : ∀ x, (((w.alloc (.cells ROW 71)).drew.setCells ws (i * 2) nb.toList).drew).cell? x = ((w.drew.alloc (.cells ROW 71)).setCells ws (i * 2) nb.toList).cell? x := fun x => rfl
 have hF2 : ∀ x, (((w.alloc (.cells ROW 71)).drew.setCells ws (i * 2) nb.toList).drew).frozen? x = ((w.drew.alloc (.cells ROW 71)).setCells ws (i * 2) nb.toList).frozen? x := fun x => rfl
 have mixed : Tryz.prog.follows .mixedOrders = true := by kernel_rfl
 have hz2 : ¬ ((i : Int) = (n : Int)) := by omega
 have hz3 : (c : Int) < (n : Int) + 1 := by omega
 have hw1 : IntKind.i64.wrap ((i : Int) + 1) = (i : Int) + 1 := by rw [IntKind.wrap_i64]; omega
 have hb1 : (0 : Int) <= (i : Int) + 1 := by omega
 have hin : i <= n := by omega
 have htn : ((i : Int) + 1).toNat = i + 1 := by omega
 have hb3 : (i : Int) <= (n : Int) := by omega
 have hGi : ¬ (G = i) := by omega
 have hGim : ¬ (G = i + 1) := by omega
 have hci : ¬ (c = i) := by omega
 clear hkk hik hold hROW hG hRl hRf hN T1 hO hv1 htl hdl hcs hcl h1 h1n hv hnb hws hi0 hz0 hzs hzb
 go_enter Tryz.func223, Tryz.ntmps223
 go_wp2_with (first
  | (at_builtin; refine Lib.wpList_append_run _ rfl _ _ _ _ rfl _ _ rfl rfl _ _ (hrz _) ?_)
  | (at_builtin; refine wpList_copy_runI _ rfl _ _ 26 26 rfl _ _ rfl rfl (hcpA _ hE1 hE2 _ _) ?_))
 go_region_law_o (refine step_copy_runI rfl _ _ 26 26 rfl (.slice (some ⟨ws, (i + 1) * 2, none⟩) (n - i) (G - (i + 1))) (.slice (some ⟨g, i * 2, none⟩) (n - i) (c - i)) (by simp [Act.eval, Act.put]) (by simp [Act.eval, Act.put]) (hcpB _ hF1 hF2 3 (G - (i + 1)) (c - i)) ?_)
 go_wp2
 go_ret
 obtain ⟨cur', s1, s2, s3, s4⟩ := HFIN.out
 exact ⟨G, cur', rfl, s1, s2, hGn, hGm, s3, s4⟩
theorem ins_end (v : Value) (hi : i <= n) (t0 : Tch No w0 w) (h : OwnN w0 71 2 n cs v w) (hn : n <= 10000000) (h1 : Ones cs) (hv : w.heap[vb]? = some (.cells nb 71 (0, 0))) (hnb : nb.size = 2) (h1n : Ones nb.toList) (hne : i < n -> v.ownBlock ≠ some vb) :
  Calls Tryz.prog 223 #[v, .int .i64 i, .slice (some ⟨vb, 0, none⟩) 1 1] w (InsPost 71 w0 v w n i cs nb.toList) := by
 by_cases hin : i = n
 ·subst hin
  exact ins_end_end w0 i cs vb nb w v t0 h hn hv hnb h1n
 ·obtain ⟨a, c, rfl, hc1, hc2⟩ := own_shape h.1
  have hex : ∃ g cur, a = some ⟨g, 0, none⟩ /\ w0.heap.size <= g /\ w.heap[g]? = some (.cells cur 71 (0, 0)) /\ cur.size = c * 2 /\ cs.length = n * 2 /\ ∀ t, t < n * 2 -> cur[t]? = cs[t]? := by
   cases a with
   | none =>
    rcases h.1.2 with ⟨h0, _⟩ | ⟨_, _, _, h0, _⟩
    ·injection h0 with _ _ h0; omega
    ·cases h0
   | some a =>
    obtain ⟨g0, cur, rfl, q1, q2, q3, q4, q5, q6⟩ := own_get h.1
    exact ⟨g0, cur, rfl, h.2 g0 rfl, q1, q4, q5, q6⟩
  obtain ⟨g, cur, rfl, hge, hg, hsz, hcl, hcs⟩ := hex
  have hvg : vb ≠ g := fun e => hne (by omega) (by rw [e]; rfl)
  have hlen : (cs.take (i * 2) ++ nb.toList ++ cs.drop (i * 2)).length = (n + 1) * 2 := by
   have e1 : nb.toList.length = 2 := by rw [Array.length_toList, hnb]
   rw [List.length_append, List.length_append, List.length_take, List.length_drop, e1, hcl]; omega
  by_cases hr : n + 1 <= c
  ·refine (ins_end_shift n i c cs vb nb w g cur (by omega) hr hc2 hn hg hsz hcl hcs h1 hv hnb h1n hvg).mono ?_
   rintro e w' ⟨rfl, rfl⟩
   obtain ⟨cur1, q1, q2, q3⟩ := blk_sets (cs.drop (i * 2)) ((i + 1) * 2) w.drew cur hg (by rw [List.length_drop]; omega)
   obtain ⟨cur2, r1, r2, r3⟩ := blk_sets nb.toList (i * 2) (w.drew.setCells g ((i + 1) * 2) (cs.drop (i * 2))) cur1 q1 (by rw [Array.length_toList, q2]; omega)
   refine ⟨_, rfl, ⟨own_mk hlen r1 hr hc2 (by rw [r2, q2, hsz]) (fun t ht => ?_), fun b hb => ?_⟩, ((t0.trans0 (Tch.drew _)).fresh (F := fun k => k = g) (Tch.setCells (F := fun k => k = g) (b := g) rfl _ _ _) (fun k h => by omega)).fresh (F := fun k => k = g) (Tch.setCells (F := fun k => k = g) (b := g) rfl _ _ _) (fun k h => by omega), ((Tch.drew w).no.trans (Tch.setCells (F := fun k => Value.ownBlock (.slice (some ⟨g, 0, none⟩) n c) = some k) (b := g) rfl _ _ _) (fun _ _ h => h)).trans (Tch.setCells (F := fun k => Value.ownBlock (.slice (some ⟨g, 0, none⟩) n c) = some k) (b := g) rfl _ _ _) (fun _ _ h => h)⟩
   ·rw [r3 t, q3 t]
    have := ins_cells (nb := nb.toList) hcl (by rw [Array.length_toList, hnb]) hi cur (fun t ht => hcs t (by omega)) t ht
    rw [<- this]
    by_cases c1 : i * 2 <= t /\ t < i * 2 + nb.toList.length
    ·rw [if_pos c1, if_neg (by rw [Array.length_toList, hnb] at c1; omega), if_pos c1]
    ·rw [if_neg c1, if_neg c1]
   ·have hb' : g = b := by simpa [Value.ownBlock] using hb
    omega
  ·refine (ins_end_grow n i c cs vb nb w g (by omega) hc1 (by omega) hn hcl (fun t x hx => by rw [blk_cell hg, hcs t (by have := (List.getElem?_eq_some_iff.1 hx).1; omega)]; exact hx) h1 hv hnb h1n).mono ?_
   rintro e w' ⟨G, cur', rfl, q1, q2, q3, q4, q5, q6⟩
   refine ⟨_, rfl, ⟨own_mk hlen q1 q3 q4 q2 q5, fun b hb => ?_⟩, t0.trans0 q6, q6.no⟩
   have hb' : w.heap.size = b := by simpa [Value.ownBlock] using hb
   have := t0.size
   omega
end
end
end Go.Proofs.YtafndmnbnmlklaaGreat
