/- Part 3 of what the proof of WhereLong rests on. No condition. -/
import Derived.Laws.IdiomCopy
import Derived.Laws.NewBlocks
import Derived.Lib.AppendZerosOnto
import Derived.Lib.Overlaps
import Derived.Lib.Strings
import Derived.Shelf.Spec.SlicesInsert
import Derived.Test.YtafndmnbnmlklaaGreatPWhereLong01
import Derived.Test.YtafndmnbnmlklaaGreatPWhereLong02
namespace Go.Proofs.YtafndmnbnmlklaaGreat
set_option maxRecDepth 100000
set_option maxHeartbeats 60000000
set_option linter.unusedVariables false
set_option linter.unusedSimpArgs false
set_option linter.unusedSectionVars false
section
open Go.RowKit Go.Maps
theorem blk_sets {b : Nat} {e : TypeId} : ∀ (vs : List Value) (o : Nat) (w : World) (cur : Array Value), w.heap[b]? = some (.cells cur e (0, 0)) -> o + vs.length <= cur.size ->
  ∃ cur' : Array Value, (w.setCells b o vs).heap[b]? = some (.cells cur' e (0, 0)) /\ cur'.size = cur.size /\ ∀ t, cur'[t]? = if o <= t /\ t < o + vs.length then vs[t - o]? else cur[t]?
 | [], o, w, cur, h, _ => ⟨cur, h, rfl, fun t => by rw [if_neg (by simp only [List.length_nil]; omega)]⟩
 | v :: r, o, w, cur, h, hl => by
  simp only [List.length_cons] at hl
  obtain ⟨cur', h1, h2, h3⟩ := blk_sets r (o + 1) (w.setCell ⟨b, o, none⟩ v) _ (blk_set h o v) (by rw [Array.size_setIfInBounds]; omega)
  refine ⟨cur', h1, by rw [h2, Array.size_setIfInBounds], fun t => ?_⟩
  rw [h3, List.length_cons]
  by_cases h4 : o + 1 <= t /\ t < o + 1 + r.length
  ·rw [if_pos h4, if_pos (by omega), show t - o = (t - (o + 1)) + 1 by omega, List.getElem?_cons_succ]
  ·rw [if_neg h4, Array.getElem?_setIfInBounds]
   by_cases h5 : o = t
   ·subst h5
    rw [if_pos rfl, if_pos (by omega), if_pos (by omega)]
    simp
   ·rw [if_neg h5, if_neg (by omega)]
theorem Tch.setCells {F : Nat -> Prop} {b : Nat} (hF : F b) : ∀ (vs : List Value) (o : Nat) (w : World), Tch F w (w.setCells b o vs)
 | [], _, w => Tch.refl F w
 | v :: r, o, w => (Tch.setCell (F := F) w ⟨b, o, none⟩ v (fun _ => hF)).trans (Tch.setCells hF r (o + 1) _) (fun _ _ h => h)
theorem own_mk {w : World} {e : TypeId} {size g n cap : Nat} {cur : Array Value} {xs : List Value} (hx : xs.length = n * size) (hg : w.heap[g]? = some (.cells cur e (0, 0))) (h1 : n <= cap) (h2 : cap <= maxLen) (h3 : cur.size = cap * size)
  (h : ∀ t, t < n * size -> cur[t]? = xs[t]?) : w.ownsRow 0 e size (.slice (some ⟨g, 0, none⟩) n cap) n xs := by
 refine ⟨hx, .inr ⟨g, cap, cur, rfl, Nat.zero_le _, hg, h1, h2, h3, ?_⟩⟩
 apply List.ext_getElem?
 intro t
 rw [List.getElem?_take]
 split
 ·rename_i ht
  rw [<- h t ht]
  simp
 ·rename_i ht
  rw [List.getElem?_eq_none (by omega)]
section
variable {α : Type}
def keptM (p : α -> Bool) (l : List α) : List α := l.filter (fun x => !p x)
theorem keptM_app (p : α -> Bool) (a b : List α) : keptM p (a ++ b) = keptM p a ++ keptM p b := List.filter_append ..
theorem keptM_le (p : α -> Bool) (l : List α) : (keptM p l).length <= l.length := List.length_filter_le ..
theorem take_succ_app {l : List α} {j : Nat} (h : j < l.length) : l.take (j + 1) = l.take j ++ [l[j]] := by simp
structure DInv (enc : α -> List Value) (m : Nat) (p : α -> Bool) (l : List α) (C j i : Nat) (cur : Array Value) : Prop where
 sz : cur.size = C * m
 len : i = (keptM p (l.take j)).length
 low : ∀ t, t < i * m -> cur[t]? = ((keptM p (l.take j)).flatMap enc)[t]?
 high : ∀ t, j * m <= t -> t < l.length * m -> cur[t]? = (l.flatMap enc)[t]?
theorem keptM_all {p : α -> Bool} {l : List α} (h : ∀ x ∈ l, p x = false) : keptM p l = l := by
 unfold keptM
 rw [List.filter_eq_self]
 intro x hx
 rw [h x hx]; rfl
variable {enc : α -> List Value} {m : Nat} {p : α -> Bool} {l : List α} {C j i : Nat} {cur : Array Value}
theorem DInv.ij (h : DInv enc m p l C j i cur) (hj : j <= l.length) : i <= j := by
 rw [h.len]
 refine Nat.le_trans (keptM_le _ _) ?_
 rw [List.length_take]; omega
theorem DInv.start (he : ∀ x, (enc x).length = m) {k : Nat} (hk : k < l.length) (h1 : p l[k] = true) (h2 : ∀ i (hi : i < l.length), i < k -> p l[i] = false) (hs : cur.size = C * m) (hc : ∀ t, t < l.length * m -> cur[t]? = (l.flatMap enc)[t]?) :
  DInv enc m p l C (k + 1) k cur := by
 have e1 : keptM p (l.take k) = l.take k := keptM_all (fun x hx => by
  obtain ⟨i, hi, rfl⟩ := List.getElem_of_mem hx
  rw [List.length_take] at hi
  rw [List.getElem_take]
  exact h2 i (by omega) (by omega))
 have e2 : keptM p (l.take (k + 1)) = l.take k := by
  rw [take_succ_app hk, keptM_app, e1]
  simp [keptM, h1]
 have hm : k * m <= l.length * m := Nat.mul_le_mul_right _ (by omega)
 refine ⟨hs, by rw [e2, List.length_take]; omega, fun t ht => ?_, fun t _ ht => hc t ht⟩
 rw [e2, hc t (by omega), <- flat_take he, List.getElem?_take, if_pos ht]
theorem DInv.skip (h : DInv enc m p l C j i cur) (hj : j < l.length) (hp : p l[j] = true) : DInv enc m p l C (j + 1) i cur := by
 have e : keptM p (l.take (j + 1)) = keptM p (l.take j) := by
  rw [take_succ_app hj, keptM_app]
  simp [keptM, hp]
 refine ⟨h.sz, by rw [e]; exact h.len, fun t ht => by rw [e]; exact h.low t ht, fun t h1 h2 => h.high t ?_ h2⟩
 rw [Nat.succ_mul] at h1; omega
theorem DInv.keep (he : ∀ x, (enc x).length = m) (h : DInv enc m p l C j i cur) (hj : j < l.length) (hp : p l[j] = false) {cur' : Array Value} (hs : cur'.size = cur.size)
  (hc : ∀ t, cur'[t]? = if i * m <= t /\ t < i * m + m then (enc l[j])[t - i * m]? else cur[t]?) : DInv enc m p l C (j + 1) (i + 1) cur' := by
 have e : keptM p (l.take (j + 1)) = keptM p (l.take j) ++ [l[j]] := by
  rw [take_succ_app hj, keptM_app]
  simp [keptM, hp]
 have hi := h.ij (by omega)
 have hm : i * m <= j * m := Nat.mul_le_mul_right _ hi
 have hfl := flat_len enc m he (keptM p (l.take j))
 rw [<- h.len] at hfl
 refine ⟨by rw [hs]; exact h.sz, by rw [e, List.length_append, <- h.len]; rfl, fun t ht => ?_, fun t h1 h2 => ?_⟩
 ·rw [Nat.succ_mul] at ht
  rw [e, List.flatMap_append, hc t]
  by_cases h3 : i * m <= t
  ·rw [if_pos ⟨h3, ht⟩, List.getElem?_append_right (by omega), hfl]
   simp
  ·rw [if_neg (by omega), List.getElem?_append_left (by omega)]
   exact h.low t (by omega)
 ·rw [Nat.succ_mul] at h1
  rw [hc t, if_neg (by omega)]
  exact h.high t (by omega) h2
theorem DInv.done (he : ∀ x, (enc x).length = m) (h : DInv enc m p l C l.length i cur) {w : World} {e : TypeId} {g : Nat} (hn : l.length <= C) (hC : C <= maxLen) {cur' : Array Value} (hg : w.heap[g]? = some (.cells cur' e (0, 0))) (hs : cur'.size = cur.size)
  (hc : ∀ t, t < i * m -> cur'[t]? = cur[t]?) : w.ownsRow 0 e m (.slice (some ⟨g, 0, none⟩) i C) (keptM p l).length ((keptM p l).flatMap enc) := by
 have e1 : l.take l.length = l := List.take_length
 have hl := h.len
 rw [e1] at hl
 have hi := h.ij (Nat.le_refl _)
 have := own_mk (e := e) (w := w) (size := m) (g := g) (n := i) (cap := C) (cur := cur') (xs := (keptM p l).flatMap enc) (by rw [flat_len enc m he, hl]) hg (by omega) hC (by rw [hs]; exact h.sz) (fun t ht => by
  rw [hc t ht, h.low t ht, e1])
 rwa [<- hl]
end
theorem run_copy_many (w : World) {t e : TypeId} {size bytes : Nat} (E : ElT t e size bytes) (ty : TypeId) (b o dLen dCap : Nat) (a : Addr) (sLen sCap : Nat) (cs : List Value) (hn : cs.length = Nat.min sLen dLen * size)
  (hsrc : ∀ j v, cs[j]? = some v -> w.cell? (a.add j) = some v) (hc : ∀ j, j < cs.length -> (w.cell? ⟨b, o + j, none⟩).isSome = true) (hf : ∀ j, j < cs.length -> w.frozen? ⟨b, o + j, none⟩ = false) (h1 : Ones cs) :
  (Builtin.copy_ #[t, t] ty #[.slice (some ⟨b, o, none⟩) dLen dCap, .slice (some a) sLen sCap]).run Tryz.prog w = .ok (goInt (Nat.min sLen dLen)) (w.setCells b o cs) := by
 obtain ⟨i0, z, hi0, hz0, hz1, hz2, hzs⟩ := E.info
 have hl := run_loadCells_list (P := Tryz.prog) w a cs hsrc
 have hst := run_storeCells_cells (P := Tryz.prog) b o cs 0 w (by simpa using hc) (by simpa using hf) h1
 simp only [Nat.add_zero] at hst
 rw [hn] at hl
 simp [Builtin.copy_, run_underlying E.und, Builtin.lenOf, Builtin.firstCells, sizeOf, typeInfo, hi0, hz1, hl, hst]
end
section
open Go.RowKit Go.Maps
theorem ins_cells {cs nb : List Value} {n i : Nat} (hcl : cs.length = n * 2) (hnb : nb.length = 2) (hi : i <= n) (base : Array Value) (hb : ∀ t, t < i * 2 -> base[t]? = cs[t]?) (t : Nat) (ht : t < (n + 1) * 2) :
  (if (i + 1) * 2 <= t /\ t < (i + 1) * 2 + (cs.drop (i * 2)).length then (cs.drop (i * 2))[t - (i + 1) * 2]? else if i * 2 <= t /\ t < i * 2 + nb.length then nb[t - i * 2]? else base[t]?) = (cs.take (i * 2) ++ nb ++ cs.drop (i * 2))[t]? := by
 have hdl : (cs.drop (i * 2)).length = n * 2 - i * 2 := by rw [List.length_drop, hcl]
 have htl : (cs.take (i * 2)).length = i * 2 := by rw [List.length_take, hcl]; omega
 by_cases h1 : t < i * 2
 ·rw [if_neg (by omega), if_neg (by omega), hb t h1, List.append_assoc, List.getElem?_append_left (by omega), List.getElem?_take, if_pos h1]
 ·by_cases h2 : t < (i + 1) * 2
  ·rw [if_neg (by omega), if_pos (by omega), List.getElem?_append_left (by rw [List.length_append]; omega), List.getElem?_append_right (by omega), htl]
  ·rw [if_pos (by omega), List.getElem?_append_right (by rw [List.length_append]; omega), List.length_append, htl, hnb]
   congr 1
   omega
section
variable (w0 : World) (n i c : Nat) (cs : List Value) (vb : Nat) (nb : Array Value) (w : World)
end
section
variable (w0 : World) (n i c : Nat) (cs : List Value) (vb : Nat) (nb : Array Value) (w : World)
end
section
variable (w0 : World) (n i c : Nat) (cs : List Value) (vb : Nat) (nb : Array Value) (w : World)
theorem ins_end_shift (g : Nat) (cur : Array Value) (hi : i < n) (hc1 : n + 1 <= c) (hc2 : c <= maxLen) (hn : n <= 10000000) (hg : w.heap[g]? = some (.cells cur 71 (0, 0))) (hcur : cur.size = c * 2) (hcl : cs.length = n * 2) (hcs : ∀ t, t < n * 2 -> cur[t]? = cs[t]?) (h1 : Ones cs)
  (hv : w.heap[vb]? = some (.cells nb 71 (0, 0))) (hnb : nb.size = 2) (h1n : Ones nb.toList) (hne : vb ≠ g) :
  Calls Tryz.prog 223 #[.slice (some ⟨g, 0, none⟩) n c, .int .i64 i, .slice (some ⟨vb, 0, none⟩) 1 1] w fun e w' => e = .returned (.slice (some ⟨g, 0, none⟩) (n + 1) c) /\ w' = (w.drew.setCells g ((i + 1) * 2) (cs.drop (i * 2))).setCells g (i * 2) nb.toList := by
 have hml : c <= 9223372036854775807 := by unfold maxLen at hc2; omega
 have hov : ∀ lb cb, (callFunc 264 #[.slice (some ⟨vb, 0, none⟩) 1 1, .slice (some ⟨g, (i + 1) * 2, none⟩) lb cb]).run Tryz.prog w = .ok (.value (.bool false)) w := fun lb cb => by
  rw [run_callFunc_extern Tryz.func264 (by kernel_rfl) (by kernel_rfl) (by kernel_rfl) (e := Extern.SlicesOverlaps.overlaps #[26, 26] #[4]) (by kernel_rfl),
   Lib.run_overlaps_apart w 26 4 71 eltEnd.und 2 Tryz.sizeOf71 ⟨vb, 0, none⟩ ⟨g, (i + 1) * 2, none⟩ 1 1 lb cb hne 71 71 2 (c * 2) (by simp [World.shape?, hv, hnb]) (by simp [World.shape?, hg, hcur]) (by omega) (blk_free hv 0) (blk_free hv 2)]
  rfl
 have hdl : (cs.drop (i * 2)).length = (n - i) * 2 := by rw [List.length_drop, hcl, Nat.sub_mul]
 have hcp1 : ∀ ty dc sc, (Builtin.copy_ #[26, 26] ty #[.slice (some ⟨g, (i + 1) * 2, none⟩) (n - i) dc, .slice (some ⟨g, i * 2, none⟩) (n + 1 - i) sc]).run Tryz.prog w.drew = .ok (goInt (Nat.min (n + 1 - i) (n - i))) (w.drew.setCells g ((i + 1) * 2) (cs.drop (i * 2))) := fun ty dc sc =>
  run_copy_many w.drew eltEnd ty g ((i + 1) * 2) (n - i) dc ⟨g, i * 2, none⟩ (n + 1 - i) sc (cs.drop (i * 2)) (by rw [hdl, show Nat.min (n + 1 - i) (n - i) = n - i by simp only [Nat.min_def]; split <;> omega])
   (fun j v hj => by
    rw [addr_add]
    rw [List.getElem?_drop] at hj
    have hjl := (List.getElem?_eq_some_iff.1 hj).1
    show w.cell? _ = _
    rw [blk_cell hg, hcs _ (by omega)]; exact hj)
   (fun j hj => by show (w.cell? _).isSome = true; rw [blk_cell hg, Array.getElem?_eq_getElem (by rw [hdl] at hj; have := Nat.sub_mul n i 2; omega)]; rfl) (fun j hj => blk_free hg _) (h1.drop _)
 obtain ⟨W1, hW1⟩ : ∃ W1, W1 = w.drew.setCells g ((i + 1) * 2) (cs.drop (i * 2)) := ⟨_, rfl⟩
 obtain ⟨cur1, q1, q2, q3⟩ := blk_sets (cs.drop (i * 2)) ((i + 1) * 2) w.drew cur hg (by rw [hdl, hcur, <- Nat.add_mul]; exact Nat.mul_le_mul_right _ (by omega))
 rw [<- hW1] at q1
 have hv1 : W1.heap[vb]? = some (.cells nb 71 (0, 0)) := by rw [hW1]; exact blk_tch (Tch.setCells (F := fun k => k = g) (b := g) rfl _ _ w.drew) hv hne
 have hcp2 : ∀ (W : World), (∀ x, W.cell? x = W1.cell? x) -> (∀ x, W.frozen? x = W1.frozen? x) -> ∀ ty dc, (Builtin.copy_ #[26, 26] ty #[.slice (some ⟨g, i * 2, none⟩) (n + 1 - i) dc, .slice (some ⟨vb, 0, none⟩) 1 1]).run Tryz.prog W = .ok (goInt (Nat.min 1 (n + 1 - i))) (W.setCells g (i * 2) nb.toList) := fun W hWc hWf ty dc =>
  run_copy_many W eltEnd ty g (i * 2) (n + 1 - i) dc ⟨vb, 0, none⟩ 1 1 nb.toList (by rw [Array.length_toList, hnb, show Nat.min 1 (n + 1 - i) = 1 by simp only [Nat.min_def]; split <;> omega])
   (fun j v hj => by rw [addr_add, hWc, blk_cell hv1, Nat.zero_add]; simpa using hj)
   (fun j hj => by rw [Array.length_toList, hnb] at hj; rw [hWc, blk_cell q1, Array.getElem?_eq_getElem (by rw [q2, hcur]; omega)]; rfl) (fun j hj => by rw [hWf]; exact blk_free q1 _) h1n
 rw [<- hW1] at hcp1
 have mixed : Tryz.prog.follows .mixedOrders = true := by kernel_rfl
 have hz2 : ¬ ((i : Int) = (n : Int)) := by omega
 have hw1 : IntKind.i64.wrap ((i : Int) + 1) = (i : Int) + 1 := by rw [IntKind.wrap_i64]; omega
 have hb1 : (0 : Int) <= (i : Int) + 1 := by omega
 have hin : i <= n := by omega
 have htn : ((i : Int) + 1).toNat = i + 1 := by omega
 have hb2 : ¬ (c = i + 1) := by omega
 have hb3 : (i : Int) <= (n : Int) + 1 := by omega
 have hb4 : ¬ (c = i) := by omega
 clear hg hcur hcl hcs h1 hv hnb h1n q1 q2 q3 hv1 hdl
 go_enter Tryz.func223, Tryz.ntmps223
 go_wp2_with (simp only [hov])
 go_region_law_o (refine step_copy_runI rfl _ _ 26 26 rfl _ _ (by simp [Act.eval, Act.put]) (by simp [Act.eval, Act.put]) (hcp1 _ _ _) ?_)
 go_wp2_with (at_builtin; refine wpList_copy_runI _ rfl _ _ 26 26 rfl _ _ rfl rfl (hcp2 _ (fun _ => rfl) (fun _ => rfl) _ _) ?_)
 go_ret
 exact ⟨rfl, rfl⟩
theorem ins_end_grow (g : Nat) (hi : i < n) (hc1 : n <= c) (hroom : c < n + 1) (hn : n <= 10000000) (hcl : cs.length = n * 2) (hcs : ∀ t x, cs[t]? = some x -> w.cell? ⟨g, t, none⟩ = some x) (h1 : Ones cs)
  (hv : w.heap[vb]? = some (.cells nb 71 (0, 0))) (hnb : nb.size = 2) (h1n : Ones nb.toList) :
  Calls Tryz.prog 223 #[.slice (some ⟨g, 0, none⟩) n c, .int .i64 i, .slice (some ⟨vb, 0, none⟩) 1 1] w fun e w' => ∃ G cur', e = .returned (.slice (some ⟨w.heap.size, 0, none⟩) (n + 1) G) /\ w'.heap[w.heap.size]? = some (.cells cur' 71 (0, 0)) /\ cur'.size = G * 2 /\ n + 1 <= G /\ G <= maxLen /\
   (∀ t, t < (n + 1) * 2 -> cur'[t]? = (cs.take (i * 2) ++ nb.toList ++ cs.drop (i * 2))[t]?) /\ Tch No w w' := by
 obtain ⟨i0, hi0, hz0, hzs, hzb⟩ := info_parts (show (Tryz.prog.info? 71).map (fun i => (i.zero, i.size, i.bytes)) = some (some (Value.agg #[.int .i64 0, .bool false]), 2, 16) by kernel_rfl)
 have hgb : g < w.heap.size := block_lt_of_cell (hcs 0 _ (List.getElem?_eq_getElem (by omega)))
 have hvw : vb < w.heap.size := blk_lt hv
 have hkk : (n : Int) + 1 - (i : Int) = ((n + 1 - i : Nat) : Int) := by omega
 have hik : i + (n + 1 - i) = n + 1 := by omega
 have hold : (Builtin.firstCells i0.size i (.slice (some ⟨g, 0, none⟩) i c)).run Tryz.prog w.drew = .ok (cs.take (i * 2)).toArray w.drew := by
  rw [hzs]
  exact run_firstCells_some w.drew 2 i ⟨g, 0, none⟩ i c (cs.take (i * 2)) (by rw [List.length_take]; omega) (fun j v hj => by
   rw [addr_add, Nat.zero_add]
   rw [List.getElem?_take] at hj
   split at hj
   ·exact hcs j v hj
   ·cases hj)
 have hrz : ∀ ty, (Builtin.append_ #[26, 3] ty #[.slice (some ⟨g, 0, none⟩) i c, .int .i64 ((n : Int) + 1 - (i : Int))]).run Tryz.prog w =
   .ok (.slice (some ⟨w.heap.size, 0, none⟩) (n + 1) (grownCap w (n + 1) c 71)) (w.drew.alloc (.cells ((cs.take (i * 2)).toArray ++ Builtin.zeroCells (Value.agg #[.int .i64 0, .bool false]).cells (n + 1 - i) ++ Builtin.zeroCells (Value.agg #[.int .i64 0, .bool false]).cells (grownCap w (n + 1) c 71 - (n + 1))) 71)) := fun ty => by
  have h := Lib.run_append_grow_zeros w 26 3 ty 71 i0 _ .i64 .i64 eltEnd.und Tryz.underlying3 hi0 hz0 (some ⟨g, 0, none⟩) i c (cs.take (i * 2)) hold (n + 1 - i) (by omega) (by omega) (by omega) (by omega) (by rw [hzb]; omega) (by rw [hzb, hik]; exact growslice_fits (by omega) (by omega))
  rw [hik] at h
  rw [hkk]
  exact h
 obtain ⟨G, hG⟩ : ∃ G, G = grownCap w (n + 1) c 71 := ⟨_, rfl⟩
 obtain ⟨ROW, hROW⟩ : ∃ ROW : Array Value, ROW = (cs.take (i * 2)).toArray ++ Builtin.zeroCells (Value.agg #[.int .i64 0, .bool false]).cells (n + 1 - i) ++ Builtin.zeroCells (Value.agg #[.int .i64 0, .bool false]).cells (G - (n + 1)) := ⟨_, rfl⟩
 rw [<- hG] at hrz
 rw [<- hROW] at hrz
 have hGn : n + 1 <= G := by rw [hG]; exact grownCap_ge w _ _ _
 have hGm : G <= maxLen := by rw [hG]; exact grownCap_le_maxLen w (n + 1) c 71 (by unfold maxLen; omega)
 have hG63 : G <= 9223372036854775807 := by unfold maxLen at hGm; omega
 have htl : (cs.take (i * 2)).length = i * 2 := by rw [List.length_take, hcl]; omega
 have hRl : ROW.size = G * 2 := by
  rw [hROW]
  simp only [Array.size_append, List.size_toArray, htl, Builtin.zeroCells, Array.size_map, Array.size_range, Value.cells, List.size_toArray, List.length_cons, List.length_nil]
  omega
 have hRf : ∀ t, t < i * 2 -> ROW[t]? = cs[t]? := fun t ht => by
  rw [hROW, Array.append_assoc, Array.getElem?_append_left (by rw [List.size_toArray, htl]; exact ht), List.getElem?_toArray, List.getElem?_take, if_pos ht]
 obtain ⟨ws, hws⟩ : ∃ ws, w.heap.size = ws := ⟨_, rfl⟩
 rw [hws] at hrz hgb hvw
 rw [hws]
 obtain ⟨W1, hW1⟩ : ∃ W1, W1 = w.drew.alloc (.cells ROW 71) := ⟨_, rfl⟩
 have hN : W1.heap[ws]? = some (.cells ROW 71 (0, 0)) := by rw [hW1, <- hws]; exact blk_new w.drew _
 have T1 : Tch No w W1 := by rw [hW1]; exact (Tch.drew w).trans0 (Tch.alloc _ _)
 have hO : ∀ t x, cs[t]? = some x -> W1.cell? ⟨g, t, none⟩ = some x := fun t x hx => T1.cell (hcs t x hx) (fun h => h)
 have hv1 : W1.heap[vb]? = some (.cells nb 71 (0, 0)) := blk_tch T1 hv (fun h => h)
 rw [<- hW1] at hrz
 have hdl : (cs.drop (i * 2)).length = (n - i) * 2 := by rw [List.length_drop, hcl, Nat.sub_mul]
 have hcpA : ∀ (W : World), (∀ x, W.cell? x = W1.cell? x) -> (∀ x, W.frozen? x = W1.frozen? x) -> ∀ ty dc, (Builtin.copy_ #[26, 26] ty #[.slice (some ⟨ws, i * 2, none⟩) (n + 1 - i) dc, .slice (some ⟨vb, 0, none⟩) 1 1]).run Tryz.prog W = .ok (goInt (Nat.min 1 (n + 1 - i))) (W.setCells ws (i * 2) nb.toList) := fun W hWc hWf ty dc =>
  run_copy_many W eltEnd ty ws (i * 2) (n + 1 - i) dc ⟨vb, 0, none⟩ 1 1 nb.toList (by rw [Array.length_toList, hnb, show Nat.min 1 (n + 1 - i) = 1 by simp only [Nat.min_def]; split <;> omega])
   (fun j v hj => by rw [addr_add, hWc, blk_cell hv1, Nat.zero_add]; simpa using hj)
   (fun j hj => by rw [Array.length_toList, hnb] at hj; rw [hWc, blk_cell hN, Array.getElem?_eq_getElem (by rw [hRl]; omega)]; rfl) (fun j hj => by rw [hWf]; exact blk_free hN _) h1n
 obtain ⟨cur1, q1, q2, q3⟩ := blk_sets nb.toList (i * 2) W1 ROW hN (by rw [Array.length_toList, hnb, hRl]; omega)
 have hcpB : ∀ (W : World), (∀ x, W.cell? x = (W1.setCells ws (i * 2) nb.toList).cell? x) -> (∀ x, W.frozen? x = (W1.setCells ws (i * 2) nb.toList).frozen? x) -> ∀ ty dc sc, (Builtin.copy_ #[26, 26] ty #[.slice (some ⟨ws, (i + 1) * 2, none⟩) (n - i) dc, .slice (some ⟨g, i * 2, none⟩) (n - i) sc]).run Tryz.prog W = .ok (goInt (Nat.min (n - i) (n - i))) (W.setCells ws ((i + 1) * 2) (cs.drop (i * 2))) := fun W hWc hWf ty dc sc =>
  run_copy_many W eltEnd ty ws ((i + 1) * 2) (n - i) dc ⟨g, i * 2, none⟩ (n - i) sc (cs.drop (i * 2)) (by rw [hdl, show Nat.min (n - i) (n - i) = n - i from Nat.min_self _])
   (fun j v hj => by
    rw [List.getElem?_drop] at hj
    rw [addr_add, hWc]
    exact (Tch.setCells (F := fun k => k = ws) (b := ws) rfl nb.toList (i * 2) W1).cell (hO _ _ hj) (by show ¬ g = ws; omega))
   (fun j hj => by rw [hWc, blk_cell q1, Array.getElem?_eq_getElem (by rw [q2, hRl]; rw [hdl] at hj; have := Nat.sub_mul n i 2; omega)]; rfl) (fun j hj => by rw [hWf]; exact blk_free q1 _) (h1.drop _)
 have HFIN : Hid (∃ cur' : Array Value, ((((w.alloc (.cells ROW 71)).drew.setCells ws (i * 2) nb.toList).drew).setCells ws ((i + 1) * 2) (cs.drop (i * 2))).heap[ws]? = some (.cells cur' 71 (0, 0)) /\ cur'.size = G * 2 /\ (∀ t, t < (n + 1) * 2 -> cur'[t]? = (cs.take (i * 2) ++ nb.toList ++ cs.drop (i * 2))[t]?) /\ Tch No w ((((w.alloc (.cells ROW 71)).drew.setCells ws (i * 2) nb.toList).drew).setCells ws ((i + 1) * 2) (cs.drop (i * 2)))) := by
  obtain ⟨cur1, q1, q2, q3⟩ := blk_sets (b := ws) (e := 71) nb.toList (i * 2) ((w.alloc (.cells ROW 71)).drew) ROW (by rw [<- hws]; exact blk_new w _) (by rw [Array.length_toList, hnb, hRl]; omega)
  obtain ⟨cur2, r1, r2, r3⟩ := blk_sets (cs.drop (i * 2)) ((i + 1) * 2) (((w.alloc (.cells ROW 71)).drew.setCells ws (i * 2) nb.toList).drew) cur1 q1 (by rw [hdl, q2, hRl]; have := Nat.sub_mul n i 2; omega)
  refine ⟨cur2, r1, by rw [r2, q2, hRl], fun t ht => ?_, ?_⟩
  ·rw [r3 t, q3 t]
   exact ins_cells hcl (by rw [Array.length_toList, hnb]) (by omega) ROW hRf t ht
  ·exact (((((Tch.alloc w _).trans0 (Tch.drew _)).fresh (F := fun k => k = ws) (Tch.setCells (F := fun k => k = ws) (b := ws) rfl _ _ _) (fun k h => by omega))).trans0 (Tch.drew _)).fresh (F := fun k => k = ws) (Tch.setCells (F := fun k => k = ws) (b := ws) rfl _ _ _) (fun k h => by omega)
 clear q1 q2 q3
 subst hW1
 have hE1 : ∀ x, ((w.alloc (.cells ROW 71)).drew).cell? x = (w.drew.alloc (.cells ROW 71)).cell? x := fun x => rfl
 have hE2 : ∀ x, ((w.alloc (.cells ROW 71)).drew).frozen? x = (w.drew.alloc (.cells ROW 71)).frozen? x := fun x => rfl
 have hF1 : ∀ x, (((w.alloc (.cells ROW 71)).drew.setCells ws (i * 2) nb.toList).drew).cell? x = ((w.drew.alloc (.cells ROW 71)).setCells ws (i * 2) nb.toList).cell? x := fun x => rfl
 have hF2 : ∀ x, (((w.alloc (.cells ROW 71)).drew.setCells ws (i * 2) nb.toList).drew).frozen? x = ((w.drew.alloc (.cells ROW 71)).setCells ws (i * 2) nb.toList).frozen? x := fun x => rfl
 have mixed : Tryz.prog.follows .mixedOrders = true := by kernel_rfl
 have hz2 : ¬ ((i : Int) = (n : Int)) := by omega
 have hz3 : (c : Int) < (n : Int) + 1 := by omega
 have hw1 : IntKind.i64.wrap ((i : Int) + 1) = (i : Int) + 1 := by rw [IntKind.wrap_i64]; omega
 have hb1 : (0 : Int) <= (i : Int) + 1 := by omega
 have hin : i <= n := by omega
 have htn : ((i : Int) + 1).toNat = i + 1 := by omega
 have hb3 : (i : Int) <= (n : Int) := by omega
 have hGi : ¬ (G = i) := by omega
 have hGim : ¬ (G = i + 1) := by omega
 have hci : ¬ (c = i) := by omega
 clear hkk hik hold hROW hG hRl hRf hN T1 hO hv1 htl hdl hcs hcl h1 h1n hv hnb hws hi0 hz0 hzs hzb
 go_enter Tryz.func223, Tryz.ntmps223
 go_wp2_with (first
  | (at_builtin; refine Lib.wpList_append_run _ rfl _ _ _ _ rfl _ _ rfl rfl _ _ (hrz _) ?_)
  | (at_builtin; refine wpList_copy_runI _ rfl _ _ 26 26 rfl _ _ rfl rfl (hcpA _ hE1 hE2 _ _) ?_))
 go_region_law_o (refine step_copy_runI rfl _ _ 26 26 rfl (.slice (some ⟨ws, (i + 1) * 2, none⟩) (n - i) (G - (i + 1))) (.slice (some ⟨g, i * 2, none⟩) (n - i) (c - i)) (by simp [Act.eval, Act.put]) (by simp [Act.eval, Act.put]) (hcpB _ hF1 hF2 3 (G - (i + 1)) (c - i)) ?_)
 go_wp2
 go_ret
 obtain ⟨cur', s1, s2, s3, s4⟩ := HFIN.out
 exact ⟨G, cur', rfl, s1, s2, hGn, hGm, s3, s4⟩
end
end
section
open Go.RowKit Go.Maps
structure StAt (vm vw ve vo vn : Value) (s : StM) (prb : List (BrM × Value)) (pro prn : List (PendM × Value)) (W : World) : Prop where
 ms : IsMsgs W vm s.ms
 cb : IsL (encPr (fun q : BrM => q.tid)) 2 W vw prb
 ib : ∀ p ∈ prb, IsPuts W p.2 p.1.puts
 en : IsEnds W ve s.ends
 co : IsL (encPr (fun q : PendM => q.tid)) 2 W vo pro
 io : ∀ p ∈ pro, IsInts W p.2 p.1.parts
 cn : IsL (encPr (fun q : PendM => q.tid)) 2 W vn prn
 inn : ∀ p ∈ prn, IsInts W p.2 p.1.parts
def StW (Al : World -> Prop) (v : Value) (s : StM) : Prop :=
 ∃ vm vw ve vo vn prb pro prn, v = .agg #[.int .i64 s.broker, .int .i64 s.nid, .int .i64 s.nseq, .int .i64 s.tx, vm, vw, ve, vo, vn] /\ prb.map Prod.fst = s.waits /\ pro.map Prod.fst = s.opens /\ prn.map Prod.fst = s.noes /\ ∀ W, Al W -> StAt vm vw ve vo vn s prb pro prn W
theorem StAt.keep {vm vw ve vo vn : Value} {s : StM} {prb : List (BrM × Value)} {pro prn : List (PendM × Value)} {W W' : World} (h : StAt vm vw ve vo vn s prb pro prn W) (t : Tch No W W') : StAt vm vw ve vo vn s prb pro prn W' :=
 ⟨h.ms.keep t, CellsAt.keep h.cb t, fun p hp => (h.ib p hp).keep t, h.en.keep t, CellsAt.keep h.co t, fun p hp => (h.io p hp).keep t, CellsAt.keep h.cn t, fun p hp => (h.inn p hp).keep t⟩
theorem StW.is {Al : World -> Prop} {v : Value} {s : StM} (h : StW Al v s) {W : World} (hW : Al W) : IsSt W v s := by
 obtain ⟨vm, vw, ve, vo, vn, prb, pro, prn, e, h1, h2, h3, h4⟩ := h
 have g := h4 W hW
 exact ⟨vm, vw, ve, vo, vn, e, g.ms, brs_pairs.2 ⟨prb, h1, g.cb, g.ib⟩, g.en, pends_pairs.2 ⟨pro, h2, g.co, g.io⟩, pends_pairs.2 ⟨prn, h3, g.cn, g.inn⟩⟩
theorem StW.mono {Al Al' : World -> Prop} {v : Value} {s : StM} (h : StW Al v s) (hA : ∀ W, Al' W -> Al W) : StW Al' v s := by
 obtain ⟨vm, vw, ve, vo, vn, prb, pro, prn, e, h1, h2, h3, h4⟩ := h
 exact ⟨vm, vw, ve, vo, vn, prb, pro, prn, e, h1, h2, h3, fun W hW => h4 W (hA W hW)⟩
theorem StW.of {v : Value} {s : StM} {w : World} (h : IsSt w v s) : StW (Tch No w) v s := by
 obtain ⟨vm, vw, ve, vo, vn, e, hm, hw, he, ho, hn⟩ := h
 obtain ⟨prb, h1, hcb, hib⟩ := brs_pairs.1 hw
 obtain ⟨pro, h2, hco, hio⟩ := pends_pairs.1 ho
 obtain ⟨prn, h3, hcn, hin⟩ := pends_pairs.1 hn
 exact ⟨vm, vw, ve, vo, vn, prb, pro, prn, e, h1, h2, h3, fun W t => ⟨hm.keep t, CellsAt.keep hcb t, fun p hp => (hib p hp).keep t, he.keep t, CellsAt.keep hco t, fun p hp => (hio p hp).keep t, CellsAt.keep hcn t, fun p hp => (hin p hp).keep t⟩⟩
theorem StW.none {Al : World -> Prop} {b n q t : Int} : StW Al (.agg #[.int .i64 b, .int .i64 n, .int .i64 q, .int .i64 t, .slice .none 0 0, .slice .none 0 0, .slice .none 0 0, .slice .none 0 0, .slice .none 0 0]) ⟨b, n, q, t, [], [], [], [], []⟩ :=
 ⟨_, _, _, _, _, [], [], [], rfl, rfl, rfl, rfl, fun W _ => ⟨CellsAt.nil _ _, CellsAt.nil _ _, fun p hp => (by cases hp), CellsAt.nil _ _, CellsAt.nil _ _, fun p hp => (by cases hp), CellsAt.nil _ _, fun p hp => (by cases hp)⟩⟩
end
section
open Go.RowKit Go.Maps
theorem cells_lit2 {w : World} {n : Nat} (hn : w.heap.size = n) (cs : Array Value) (e : TypeId) (size : Nat) (l : List Value) (hl : l = cs.toList) (hs : cs.size = size) : CellsAt (w.alloc (.cells cs e)) (.slice (some ⟨n, 0, none⟩) 1 1) 1 size l := by
 subst hn; exact cells_lit w cs e size l hl hs _
section
variable {ρ : Operand -> Value} {o : Oper}
end
structure EndOk (s : StM) (tid : Int) (puts : List PutM) : Prop where
 rise : strictB (s.ends.map (·.tid)) = true
 nms : s.ms.length <= 100000
 nw : s.waits.length <= 100000
 ne : s.ends.length <= 100000
 no : s.opens.length <= 100000
 np : puts.length <= 100000
 brk : I64 s.broker
 nid : 0 <= s.nid /\ s.nid <= 4611686018427387904
 nseq : 0 <= s.nseq /\ s.nseq <= 4611686018427387904
 fresh : ∀ t, t = tid -> hasP (·.tid) s.ends t = false
 cnt : ∀ m ∈ s.ms, 0 <= m.cnt /\ m.cnt <= 4611686018427387904
end
section
open Go.RowKit Go.Maps
theorem odead_any (i : Int) (q b : ByteArray) (sq c by_ : Int) (w : World) :
  Calls Tryz.prog 187 #[.agg #[.int .i64 i, .string q, .string b, .int .i64 sq, .int .i64 c, .int .i64 by_]] w fun e w' => e = .returned (.bool (decide (by_ = 0) && decide (3 <= c))) /\ Tch No w w' := by
 by_cases h0 : by_ = 0
 ·subst h0
  by_cases h1 : 3 <= c
  ·go_enter Tryz.func187, Tryz.ntmps187
   go_wp2_with fail
   go_ret
   exact ⟨by simp [h1], Tch.alloc _ _⟩
  ·go_enter Tryz.func187, Tryz.ntmps187
   go_wp2_with fail
   go_ret
   exact ⟨by simp [h1], Tch.alloc _ _⟩
 ·have hb : (by_ == 0) = false := beq_eq_false_iff_ne.2 h0
  go_enter Tryz.func187, Tryz.ntmps187
  go_wp2_with fail
  go_ret
  exact ⟨by simp [h0], Tch.alloc _ _⟩
end
section
open Go.RowKit Go.Maps
structure RecB (w w1 : World) (b : Nat) (cur : Array Value) (W : World) : Prop where
 t : Tch No w W
 box : W.heap[b]? = some (.cells cur 34 (0, 0))
 res : W.heap[b + 1]? = some (.cells #[.int .i64 0, .int .i64 0, .int .i64 0, .bool false, .slice none 0 0, .slice none 0 0] 34 (0, 0))
 le : w1.heap.size <= W.heap.size
 bs : w.heap.size = b /\ w1.heap.size = b + 2
theorem RecB.grow {F : Nat -> Prop} {w w1 W W' : World} {b : Nat} {cur : Array Value} (h : RecB w w1 b cur W) (t : Tch F W W') (hF : ∀ k, F k -> w1.heap.size <= k) : RecB w w1 b cur W' :=
 ⟨h.t.fresh t (fun k e => by have h1 := hF k e; have h2 := h.bs; omega), blk_tch t h.box (fun e => by have h1 := hF _ e; have h2 := h.bs; omega), blk_tch t h.res (fun e => by have h1 := hF _ e; have h2 := h.bs; omega), Nat.le_trans h.le t.size, h.bs⟩
theorem RecB.keep {w w1 W W' : World} {b : Nat} {cur : Array Value} (h : RecB w w1 b cur W) (t : Tch No W W') : RecB w w1 b cur W' := h.grow t (fun _ e => e.elim)
theorem RecB.set {w w1 W : World} {b : Nat} {cur : Array Value} (h : RecB w w1 b cur W) (j : Nat) (u : Value) : RecB w w1 b (cur.setIfInBounds j u) (W.setCell ⟨b, j, none⟩ u) := by
 have t := Tch.setCell (F := fun q => q = b) W ⟨b, j, none⟩ u (fun _ => rfl)
 exact ⟨h.t.fresh t (fun k e => by have h2 := h.bs; omega), blk_set h.box j u, blk_tch t h.res (fun e => by omega), Nat.le_trans h.le t.size, h.bs⟩
end
section
open Go.RowKit Go.Maps
structure RoomP (s : StM) (n : Nat) : Prop where
 nid : ((pendingM s + n : Nat) : Int) <= 4294967296 - s.nid
 ms : pendingM s + n + s.ms.length <= 72
 seq : ((pendingM s + n : Nat) : Int) <= 1099511627776 - s.nseq
end
section
open Go.RowKit Go.Maps
structure GrewP (s t : StM) (l : List PutM) (A : List MsgM) : Prop where
 ms : t.ms = A ++ putsM s.broker s.nid s.nseq l
 old : ∀ m ∈ A, hasP (·.id) s.ms m.id = true
 br : t.broker = s.broker
 nid : t.nid = s.nid + l.length
 nseq : t.nseq = s.nseq + l.length
end
end Go.Proofs.YtafndmnbnmlklaaGreat
