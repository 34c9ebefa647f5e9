/- Part 28 of what the proof of TopTwice rests on. No condition. -/
import Derived.Test.YtohodhkdmnokdaaGreatPTopTwice18
import Derived.Test.YtohodhkdmnokdaaGreatPTopTwice27
namespace Go.Proofs.YtohodhkdmnokdaaGreat
set_option maxRecDepth 100000
set_option maxHeartbeats 60000000
set_option linter.unusedVariables false
set_option linter.unusedSimpArgs false
set_option linter.unusedSectionVars false
namespace Ev
open Go Go.RowKit Go.Maps
variable [Env]
def OnesE (cs : List Value) : Prop := ∀ u ∈ cs, u.oneCell' = true
structure InsK (P : Program) (f : FuncId) (el : TypeId) : Prop where
 shift : ∀ (n i c : Nat) (cs : List Value) (vb : Nat) (nb : Array Value) (w : World) (g : Nat) (cur : Array Value), i < n -> n + 1 <= c -> c <= maxLen -> n <= 10000000 -> w.heap[g]? = some (.cells cur el (0, 0)) -> cur.size = c * 2 -> cs.length = n * 2 -> (∀ t, t < n * 2 -> cur[t]? = cs[t]?) -> OnesE cs ->
  w.heap[vb]? = some (.cells nb el (0, 0)) -> nb.size = 2 -> OnesE nb.toList -> vb ≠ g ->
  Calls P f #[.slice (some ⟨g, 0, none⟩) n c, .int .i64 i, .slice (some ⟨vb, 0, none⟩) 1 1] w fun e w' => e = .returned (.slice (some ⟨g, 0, none⟩) (n + 1) c) /\ w' = (w.drew.setCells g ((i + 1) * 2) (cs.drop (i * 2))).setCells g (i * 2) nb.toList
 grow : ∀ (n i c : Nat) (cs : List Value) (vb : Nat) (nb : Array Value) (w : World) (g : Nat), i < n -> n <= c -> c < n + 1 -> n <= 10000000 -> cs.length = n * 2 -> (∀ t x, cs[t]? = some x -> w.cell? ⟨g, t, none⟩ = some x) -> OnesE cs ->
  w.heap[vb]? = some (.cells nb el (0, 0)) -> nb.size = 2 -> OnesE nb.toList ->
  Calls P f #[.slice (some ⟨g, 0, none⟩) n c, .int .i64 i, .slice (some ⟨vb, 0, none⟩) 1 1] w fun e w' => ∃ G cur', e = .returned (.slice (some ⟨w.heap.size, 0, none⟩) (n + 1) G) /\ w'.heap[w.heap.size]? = some (.cells cur' el (0, 0)) /\ cur'.size = G * 2 /\ n + 1 <= G /\ G <= maxLen /\
   (∀ t, t < (n + 1) * 2 -> cur'[t]? = (cs.take (i * 2) ++ nb.toList ++ cs.drop (i * 2))[t]?) /\ Tch No w w'
 body : ∃ fn, P.funcs[f]? = some fn /\ fn.body.isSome = true
def insOut (el : TypeId) (len k : Nat) (a b : AO) : Option AO := if k < len /\ len <= 1000000 /\ a.fz = false /\ a.ty = el /\ len * 2 <= a.cs.length /\ b.fz = false /\ b.ty = el /\ b.opn = false /\ b.cs.length = 2 then some ⟨el, (a.cs.take (len * 2)).take (k * 2) ++ b.cs ++ (a.cs.take (len * 2)).drop (k * 2), true, .ok⟩ else none
noncomputable def insOrc (fid : FuncId) (el : TypeId) (orc : Orc) : Orc := fun f args H n => if f = fid then
  match args with
  | [.v (.c (.sl i 0 len (.op 2))), .v (.c (.int .i64 (.ofNat k))), .v (.c (.sl j 0 1 (.ex 1)))] => match hg H i, hg H j with
   | some a, some b => if i ≠ j /\ i < n then (match insOut el len k a b with
    | some o => (Ef.apT n H (.mv (one i ||| one j) i o)).map fun H' => (.v (.c (.sl n 0 (len + 1) (.op 2))), H', n + 1, one i ||| one j, one i)
    | none => none) else none
   | _, _ => none
  | _ => orc f args H n
 else orc f args H n
theorem blk_setsE {b : Nat} {e : TypeId} : ∀ (vs : List Value) (o : Nat) (w : World) (cur : Array Value), w.heap[b]? = some (.cells cur e (0, 0)) -> o + vs.length <= cur.size ->
  ∃ cur' : Array Value, (w.setCells b o vs).heap[b]? = some (.cells cur' e (0, 0)) /\ cur'.size = cur.size /\ ∀ t, cur'[t]? = if o <= t /\ t < o + vs.length then vs[t - o]? else cur[t]?
 | [], o, w, cur, h, _ => ⟨cur, h, rfl, fun t => by rw [if_neg (by simp only [List.length_nil]; omega)]⟩
 | v :: r, o, w, cur, h, hl => by
  simp only [List.length_cons] at hl
  obtain ⟨cur', h1, h2, h3⟩ := blk_setsE r (o + 1) (w.setCell ⟨b, o, none⟩ v) _ (blk_set h o v) (by rw [Array.size_setIfInBounds]; omega)
  refine ⟨cur', h1, by rw [h2, Array.size_setIfInBounds], fun t => ?_⟩
  rw [h3, List.length_cons]
  by_cases h4 : o + 1 <= t /\ t < o + 1 + r.length
  ·rw [if_pos h4, if_pos (by omega), show t - o = (t - (o + 1)) + 1 by omega, List.getElem?_cons_succ]
  ·rw [if_neg h4, Array.getElem?_setIfInBounds]
   by_cases h5 : o = t
   ·subst h5
    rw [if_pos rfl, if_pos (by omega), if_pos (by omega)]
    simp
   ·rw [if_neg h5, if_neg (by omega)]
theorem tch_setsE {F : Nat -> Prop} {b : Nat} (hF : F b) : ∀ (vs : List Value) (o : Nat) (w : World), Tch F w (w.setCells b o vs)
 | [], _, w => Tch.refl F w
 | v :: r, o, w => (Tch.setCell (F := F) w ⟨b, o, none⟩ v (fun _ => hF)).trans (tch_setsE hF r (o + 1) _) (fun _ _ h => h)
theorem insOrc_ok {P : Program} {fid : FuncId} {el : TypeId} {orc : Orc} (hi : InsK P fid el) (ho : OrcOK P orc) : OrcOK P (insOrc fid el orc) := by
 refine ⟨fun f args H n s H' n' F W h => ?_, fun f args H n r h => ?_⟩
 ·unfold insOrc at h
  split at h
  ·rename_i hf
   subst hf
   split at h
   ·rename_i i len k j
    split at h
    ·rename_i a b ha hb
     split at h
     ·rename_i hij
      split at h
      ·rename_i o hout
       rw [Option.map_eq_some_iff] at h
       obtain ⟨H1, h1, h2⟩ := h
       simp only [Prod.mk.injEq] at h2
       obtain ⟨rfl, rfl, rfl, rfl, rfl⟩ := h2
       rw [apT_ok h1]
       have hFi : tb (one i ||| one j) i = true := by rw [tb_or, tb_one]; rfl
       have hFj : tb (one i ||| one j) j = true := by rw [tb_or, tb_one, Bool.or_true]
       refine ⟨inv_ef (e := .mv (one i ||| one j) i o) (by simp [Ef.chk, ha, hFi, hij.2]), fun σ D w vals hargs hs hdom hD => ?_⟩
       unfold insOut at hout
       split at hout
       ·rename_i hc
        cases hout
        obtain ⟨hkl, hl1, hfa, hta, hla, hfb, htb, hob, hlb⟩ := hc
        match vals, hargs with
        | [v1, v2, v3], ⟨r1, r2, r3, _⟩ =>
         obtain ⟨hDi, c, e1, hlc, hcm, hct⟩ := r1
         rw [Nat.zero_add] at hct
         have e2 : v2 = .int .i64 (k : Int) := r2
         obtain ⟨hDj, e3⟩ := r3
         subst e1; subst e2; subst e3
         have hDn : ¬ D n := hD n (Nat.le_refl _) (Nat.lt_succ_self n)
         obtain ⟨_, hOa⟩ := obj_of hs hFi ha
         obtain ⟨_, hOb⟩ := obj_of hs hFj hb
         obtain ⟨ca, fa, a1, a0, a2, a3, a4, a5⟩ := hOa.ok hfa
         obtain ⟨cb, fb, b1, b0, b2, b3, b4, b5⟩ := hOb.ok hfb
         have := a0 hfa; subst this
         have := b0 hfb; subst this
         subst hta
         rw [htb] at b1
         have hA := (cells_of (i := i) a5 (by omega)).take (len * 2)
         have hB := cells_of (i := j) b5 (by omega)
         rw [List.take_take, Nat.min_eq_left hla] at hA
         have hcbs : cb.size = 2 := by rw [b2, <- b4 hob, hlb]
         have hBt : cb.toList.take b.cs.length = cb.toList := by rw [hlb]; apply List.take_of_length_le; simp [hcbs]
         rw [hBt] at hB
         have hne : (σ j).b ≠ (σ i).b := fun e => hij.1 (hs.inj i j (some_of (rst_some.2 ⟨hFi, ha⟩)) (some_of (rst_some.2 ⟨hFj, hb⟩)) e.symm)
         have hl : (ca.toList.take (len * 2)).length = len * 2 := by simp; omega
         have hcells : ∀ t, t < len * 2 -> ca[t]? = (ca.toList.take (len * 2))[t]? := fun t ht => by rw [List.getElem?_take, if_pos ht, Array.getElem?_toList]
         have hnew := ((hA.take (k * 2)).append hB).append (hA.drop (k * 2))
         have hnl : ((ca.toList.take (len * 2)).take (k * 2) ++ cb.toList ++ (ca.toList.take (len * 2)).drop (k * 2)).length = (len + 1) * 2 := by
          simp only [List.length_append, List.length_take, List.length_drop, hl, Array.length_toList, hcbs]; omega
         -- what is left to be shown, wherever the row lies
         have fin : ∀ (g c' : Nat) (cur' : Array Value) (w' : World), w'.heap[g]? = some (.cells cur' a.ty (0, 0)) -> cur'.size = c' * 2 -> len + 1 <= c' -> c' <= maxLen -> (∀ t, t < (len + 1) * 2 -> cur'[t]? = ((ca.toList.take (len * 2)).take (k * 2) ++ cb.toList ++ (ca.toList.take (len * 2)).drop (k * 2))[t]?) -> Tch (fun q => q = (σ i).b) w w' -> (w.heap.size <= g ∨ g = (σ i).b) ->
           ∃ v σ', Ending.returned (.slice (some ⟨g, 0, none⟩) (len + 1) c') = .returned v /\ RS σ' (more D n (n + 1)) (.v (.c (.sl n 0 (len + 1) (.op 2)))) v /\ Out σ D w (rst (tb (one i ||| one j)) (hg H)) (aft (tb (one i ||| one j)) n (n + 1) ((Ef.mv (one i ||| one j) i ⟨a.ty, (a.cs.take (len * 2)).take (k * 2) ++ b.cs ++ (a.cs.take (len * 2)).drop (k * 2), true, .ok⟩).ap n (hg H))) n (n + 1) (tb (one i)) σ' w' := by
          intro g c' cur' w' g1 g2 g3 g4 g5 g6 g7
          have hsm : ∀ q, D q -> at_ σ n ⟨g, cur'.size⟩ q = σ q := fun q hq => at_other (fun e => by subst e; exact hDn hq)
          refine ⟨_, at_ σ n ⟨g, cur'.size⟩, rfl, ⟨.inr ⟨Nat.le_refl _, Nat.lt_succ_self _⟩, c', by rw [at_same]; rfl, g3, g4, by rw [at_same, Nat.zero_add]; exact g2.symm⟩, ?_⟩
          have hO := out_mv (F := one i ||| one j) (i := i) (k := ⟨g, cur'.size⟩) (ob := ⟨a.ty, (a.cs.take (len * 2)).take (k * 2) ++ b.cs ++ (a.cs.take (len * 2)).drop (k * 2), true, .ok⟩) (w' := w') hs hDn hFi (by rw [ha]; rfl) g6 g7 ?_
          ·rw [Ef.W_eq] at hO; exact hO
          ·have hnew' := RL.ext (D' := more D n (n + 1)) hnew hsm (fun _ h => .inl h)
           have hll := hnew'.length
           refine ⟨cur', (0, 0), by rw [at_same]; exact g1, fun _ => rfl, by rw [at_same], ?_, (fun h => by cases h), fun q cc e => ?_⟩
           ·rw [at_same]; simp only; rw [<- hll, hnl, g2]; exact Nat.mul_le_mul_right _ g3
           ·obtain ⟨v, v1, v2⟩ := hnew'.get e
            have hlt := (List.getElem?_eq_some_iff.1 v1).1
            exact ⟨v, by rw [g5 q (by omega)]; exact v1, v2⟩
         by_cases hroom : len + 1 <= c
         ·refine (hi.shift len k c (ca.toList.take (len * 2)) (σ j).b cb w (σ i).b ca hkl hroom hcm (by omega) a1 (by omega) hl hcells hA.ones b1 hcbs hB.ones hne).mono ?_
          rintro e w' ⟨rfl, rfl⟩
          obtain ⟨c1, d1, d2, d3⟩ := blk_setsE ((ca.toList.take (len * 2)).drop (k * 2)) ((k + 1) * 2) w.drew ca a1 (by rw [List.length_drop, hl]; omega)
          obtain ⟨c2, f1, f2, f3⟩ := blk_setsE cb.toList (k * 2) _ c1 d1 (by rw [d2, Array.length_toList, hcbs]; omega)
          refine fin _ c c2 _ f1 (by omega) hroom hcm (fun t ht => ?_) ?_ (.inr rfl)
          ·rw [f3 t]
           by_cases q1 : t < k * 2
           ·rw [if_neg (by omega), d3 t, if_neg (by omega), hcells t (by omega), List.append_assoc, List.getElem?_append_left (by rw [List.length_take, hl]; omega)]
            conv => rhs; rw [List.getElem?_take, if_pos q1]
           ·by_cases q2 : t < (k + 1) * 2
            ·rw [if_pos ⟨by omega, by rw [Array.length_toList, hcbs]; omega⟩, List.getElem?_append_left (by rw [List.length_append, List.length_take, hl, Array.length_toList, hcbs]; omega), List.getElem?_append_right (by rw [List.length_take, hl]; omega), List.length_take, hl, Nat.min_eq_left (by omega)]
            ·rw [if_neg (by rw [Array.length_toList, hcbs]; omega), d3 t, if_pos ⟨by omega, by rw [List.length_drop, hl]; omega⟩, List.getElem?_append_right (by rw [List.length_append, List.length_take, hl, Array.length_toList, hcbs]; omega), List.length_append, List.length_take, hl, Array.length_toList, hcbs, Nat.min_eq_left (by omega)]
             congr 1; omega
          ·exact ((Tch.drew w).no.trans (tch_setsE (F := fun q => q = (σ i).b) rfl _ _ _) (fun _ _ h => h)).trans (tch_setsE (F := fun q => q = (σ i).b) rfl _ _ _) (fun _ _ h => h)
         ·refine (hi.grow len k c (ca.toList.take (len * 2)) (σ j).b cb w (σ i).b hkl hlc (by omega) (by omega) hl (fun t x e => ?_) hA.ones b1 hcbs hB.ones).mono ?_
          ·rw [List.getElem?_take] at e
           split at e
           ·rw [cell_of_row w _ t ca a.ty (0, 0) a1]; simpa using e
           ·cases e
          ·rintro e w' ⟨G, cur', rfl, d1, d2, d3, d4, d5, d6⟩
           exact fin _ G cur' w' d1 d2 d3 d4 d5 d6.no (.inl (Nat.le_refl _))
       ·cases hout
      ·cases h
     ·cases h
    ·cases h
   ·exact ho.1 _ _ _ _ _ _ _ _ _ h
  ·exact ho.1 _ _ _ _ _ _ _ _ _ h
 ·unfold insOrc at h
  split at h
  ·rename_i hf; subst hf; exact hi.body
  ·exact ho.2 _ _ _ _ _ h
end Ev
namespace Ev
open Go Go.RowKit Go.Maps
variable [Env]
theorem insEnd : InsK Tryz.prog 445 93 :=
 ⟨fun n i c cs vb nb w g cur => ins_end_shift n i c cs vb nb w g cur, fun n i c cs vb nb w g => ins_end_grow n i c cs vb nb w g, ⟨_, Tryz.func445, rfl⟩⟩
theorem ins_ok {orc : Orc} (ho : OrcOK Tryz.prog orc) : OrcOK Tryz.prog (insOrc 445 93 orc) := insOrc_ok insEnd ho
end Ev
section
open Go.RowKit Go.Maps
theorem eltSome : ElT 193 192 2 24 := elt_of Tryz.underlying193 (z := .agg #[.string ⟨#[]⟩, .int .i64 0]) (by kernel_rfl) (by kernel_rfl) (by decide) (by decide)
section
variable (w0 : World) (n i c : Nat) (cs : List Value) (vb : Nat) (nb : Array Value) (w : World)
theorem ins_some_shift (g : Nat) (cur : Array Value) (hi : i < n) (hc1 : n + 1 <= c) (hc2 : c <= maxLen) (hn : n <= 10000000) (hg : w.heap[g]? = some (.cells cur 192 (0, 0))) (hcur : cur.size = c * 2) (hcl : cs.length = n * 2) (hcs : ∀ t, t < n * 2 -> cur[t]? = cs[t]?) (h1 : Ones cs)
  (hv : w.heap[vb]? = some (.cells nb 192 (0, 0))) (hnb : nb.size = 2) (h1n : Ones nb.toList) (hne : vb ≠ g) :
  Calls Tryz.prog 114 #[.slice (some ⟨g, 0, none⟩) n c, .int .i64 i, .slice (some ⟨vb, 0, none⟩) 1 1] w fun e w' => e = .returned (.slice (some ⟨g, 0, none⟩) (n + 1) c) /\ w' = (w.drew.setCells g ((i + 1) * 2) (cs.drop (i * 2))).setCells g (i * 2) nb.toList := by
 have hml : c <= 9223372036854775807 := by unfold maxLen at hc2; omega
 have hov : ∀ lb cb, (callFunc 199 #[.slice (some ⟨vb, 0, none⟩) 1 1, .slice (some ⟨g, (i + 1) * 2, none⟩) lb cb]).run Tryz.prog w = .ok (.value (.bool false)) w := fun lb cb => by
  rw [run_callFunc_extern Tryz.func199 (by kernel_rfl) (by kernel_rfl) (by kernel_rfl) (e := Extern.SlicesOverlaps.overlaps #[193, 193] #[4]) (by kernel_rfl),
   Lib.run_overlaps_apart w 193 4 192 eltSome.und 2 Tryz.sizeOf192 ⟨vb, 0, none⟩ ⟨g, (i + 1) * 2, none⟩ 1 1 lb cb hne 192 192 2 (c * 2) (by simp [World.shape?, hv, hnb]) (by simp [World.shape?, hg, hcur]) (by omega) (blk_free hv 0) (blk_free hv 2)]
  rfl
 have hdl : (cs.drop (i * 2)).length = (n - i) * 2 := by rw [List.length_drop, hcl, Nat.sub_mul]
 have hcp1 : ∀ ty dc sc, (Builtin.copy_ #[193, 193] ty #[.slice (some ⟨g, (i + 1) * 2, none⟩) (n - i) dc, .slice (some ⟨g, i * 2, none⟩) (n + 1 - i) sc]).run Tryz.prog w.drew = .ok (goInt (Nat.min (n + 1 - i) (n - i))) (w.drew.setCells g ((i + 1) * 2) (cs.drop (i * 2))) := fun ty dc sc =>
  run_copy_many w.drew eltSome ty g ((i + 1) * 2) (n - i) dc ⟨g, i * 2, none⟩ (n + 1 - i) sc (cs.drop (i * 2)) (by rw [hdl, show Nat.min (n + 1 - i) (n - i) = n - i by simp only [Nat.min_def]; split <;> omega])
   (fun j v hj => by
    rw [addr_add]
    rw [List.getElem?_drop] at hj
    have hjl := (List.getElem?_eq_some_iff.1 hj).1
    show w.cell? _ = _
    rw [blk_cell hg, hcs _ (by omega)]; exact hj)
   (fun j hj => by show (w.cell? _).isSome = true; rw [blk_cell hg, Array.getElem?_eq_getElem (by rw [hdl] at hj; have := Nat.sub_mul n i 2; omega)]; rfl) (fun j hj => blk_free hg _) (h1.drop _)
 obtain ⟨W1, hW1⟩ : ∃ W1, W1 = w.drew.setCells g ((i + 1) * 2) (cs.drop (i * 2)) := ⟨_, rfl⟩
 obtain ⟨cur1, q1, q2, q3⟩ := blk_sets (cs.drop (i * 2)) ((i + 1) * 2) w.drew cur hg (by rw [hdl, hcur, <- Nat.add_mul]; exact Nat.mul_le_mul_right _ (by omega))
 rw [<- hW1] at q1
 have hv1 : W1.heap[vb]? = some (.cells nb 192 (0, 0)) := by rw [hW1]; exact blk_tch (Tch.setCells (F := fun k => k = g) (b := g) rfl _ _ w.drew) hv hne
 have hcp2 : ∀ (W : World), (∀ x, W.cell? x = W1.cell? x) -> (∀ x, W.frozen? x = W1.frozen? x) -> ∀ ty dc, (Builtin.copy_ #[193, 193] ty #[.slice (some ⟨g, i * 2, none⟩) (n + 1 - i) dc, .slice (some ⟨vb, 0, none⟩) 1 1]).run Tryz.prog W = .ok (goInt (Nat.min 1 (n + 1 - i))) (W.setCells g (i * 2) nb.toList) := fun W hWc hWf ty dc =>
  run_copy_many W eltSome ty g (i * 2) (n + 1 - i) dc ⟨vb, 0, none⟩ 1 1 nb.toList (by rw [Array.length_toList, hnb, show Nat.min 1 (n + 1 - i) = 1 by simp only [Nat.min_def]; split <;> omega])
   (fun j v hj => by rw [addr_add, hWc, blk_cell hv1, Nat.zero_add]; simpa using hj)
   (fun j hj => by rw [Array.length_toList, hnb] at hj; rw [hWc, blk_cell q1, Array.getElem?_eq_getElem (by rw [q2, hcur]; omega)]; rfl) (fun j hj => by rw [hWf]; exact blk_free q1 _) h1n
 rw [<- hW1] at hcp1
 have mixed : Tryz.prog.follows .mixedOrders = true := by kernel_rfl
 have hz2 : ¬ ((i : Int) = (n : Int)) := by omega
 have hw1 : IntKind.i64.wrap ((i : Int) + 1) = (i : Int) + 1 := by rw [IntKind.wrap_i64]; omega
 have hb1 : (0 : Int) <= (i : Int) + 1 := by omega
 have hin : i <= n := by omega
 have htn : ((i : Int) + 1).toNat = i + 1 := by omega
 have hb2 : ¬ (c = i + 1) := by omega
 have hb3 : (i : Int) <= (n : Int) + 1 := by omega
 have hb4 : ¬ (c = i) := by omega
 clear hg hcur hcl hcs h1 hv hnb h1n q1 q2 q3 hv1 hdl
 go_enter Tryz.func114, Tryz.ntmps114
 go_wp2_with (simp only [hov])
 go_region_law_o (refine step_copy_runI rfl _ _ 193 193 rfl _ _ (by simp [Act.eval, Act.put]) (by simp [Act.eval, Act.put]) (hcp1 _ _ _) ?_)
 go_wp2_with (at_builtin; refine wpList_copy_runI _ rfl _ _ 193 193 rfl _ _ rfl rfl (hcp2 _ (fun _ => rfl) (fun _ => rfl) _ _) ?_)
 go_ret
 exact ⟨rfl, rfl⟩
theorem ins_some_grow (g : Nat) (hi : i < n) (hc1 : n <= c) (hroom : c < n + 1) (hn : n <= 10000000) (hcl : cs.length = n * 2) (hcs : ∀ t x, cs[t]? = some x -> w.cell? ⟨g, t, none⟩ = some x) (h1 : Ones cs)
  (hv : w.heap[vb]? = some (.cells nb 192 (0, 0))) (hnb : nb.size = 2) (h1n : Ones nb.toList) :
  Calls Tryz.prog 114 #[.slice (some ⟨g, 0, none⟩) n c, .int .i64 i, .slice (some ⟨vb, 0, none⟩) 1 1] w fun e w' => ∃ G cur', e = .returned (.slice (some ⟨w.heap.size, 0, none⟩) (n + 1) G) /\ w'.heap[w.heap.size]? = some (.cells cur' 192 (0, 0)) /\ cur'.size = G * 2 /\ n + 1 <= G /\ G <= maxLen /\
   (∀ t, t < (n + 1) * 2 -> cur'[t]? = (cs.take (i * 2) ++ nb.toList ++ cs.drop (i * 2))[t]?) /\ Tch No w w' := by
 obtain ⟨i0, hi0, hz0, hzs, hzb⟩ := info_parts (show (Tryz.prog.info? 192).map (fun i => (i.zero, i.size, i.bytes)) = some (some (Value.agg #[.string ⟨#[]⟩, .int .i64 0]), 2, 24) by kernel_rfl)
 have hgb : g < w.heap.size := block_lt_of_cell (hcs 0 _ (List.getElem?_eq_getElem (by omega)))
 have hvw : vb < w.heap.size := blk_lt hv
 have hkk : (n : Int) + 1 - (i : Int) = ((n + 1 - i : Nat) : Int) := by omega
 have hik : i + (n + 1 - i) = n + 1 := by omega
 have hold : (Builtin.firstCells i0.size i (.slice (some ⟨g, 0, none⟩) i c)).run Tryz.prog w.drew = .ok (cs.take (i * 2)).toArray w.drew := by
  rw [hzs]
  exact run_firstCells_some w.drew 2 i ⟨g, 0, none⟩ i c (cs.take (i * 2)) (by rw [List.length_take]; omega) (fun j v hj => by
   rw [addr_add, Nat.zero_add]
   rw [List.getElem?_take] at hj
   split at hj
   ·exact hcs j v hj
   ·cases hj)
 have hrz : ∀ ty, (Builtin.append_ #[193, 3] ty #[.slice (some ⟨g, 0, none⟩) i c, .int .i64 ((n : Int) + 1 - (i : Int))]).run Tryz.prog w =
   .ok (.slice (some ⟨w.heap.size, 0, none⟩) (n + 1) (grownCap w (n + 1) c 192)) (w.drew.alloc (.cells ((cs.take (i * 2)).toArray ++ Builtin.zeroCells (Value.agg #[.string ⟨#[]⟩, .int .i64 0]).cells (n + 1 - i) ++ Builtin.zeroCells (Value.agg #[.string ⟨#[]⟩, .int .i64 0]).cells (grownCap w (n + 1) c 192 - (n + 1))) 192)) := fun ty => by
  have h := Lib.run_append_grow_zeros w 193 3 ty 192 i0 _ .i64 .i64 eltSome.und Tryz.underlying3 hi0 hz0 (some ⟨g, 0, none⟩) i c (cs.take (i * 2)) hold (n + 1 - i) (by omega) (by omega) (by omega) (by omega) (by rw [hzb]; omega) (by rw [hzb, hik]; exact growslice_fits (by omega) (by omega))
  rw [hik] at h
  rw [hkk]
  exact h
 obtain ⟨G, hG⟩ : ∃ G, G = grownCap w (n + 1) c 192 := ⟨_, rfl⟩
 obtain ⟨ROW, hROW⟩ : ∃ ROW : Array Value, ROW = (cs.take (i * 2)).toArray ++ Builtin.zeroCells (Value.agg #[.string ⟨#[]⟩, .int .i64 0]).cells (n + 1 - i) ++ Builtin.zeroCells (Value.agg #[.string ⟨#[]⟩, .int .i64 0]).cells (G - (n + 1)) := ⟨_, rfl⟩
 rw [<- hG] at hrz
 rw [<- hROW] at hrz
 have hGn : n + 1 <= G := by rw [hG]; exact grownCap_ge w _ _ _
 have hGm : G <= maxLen := by rw [hG]; exact grownCap_le_maxLen w (n + 1) c 192 (by unfold maxLen; omega)
 have hG63 : G <= 9223372036854775807 := by unfold maxLen at hGm; omega
 have htl : (cs.take (i * 2)).length = i * 2 := by rw [List.length_take, hcl]; omega
 have hRl : ROW.size = G * 2 := by
  rw [hROW]
  simp only [Array.size_append, List.size_toArray, htl, Builtin.zeroCells, Array.size_map, Array.size_range, Value.cells, List.size_toArray, List.length_cons, List.length_nil]
  omega
 have hRf : ∀ t, t < i * 2 -> ROW[t]? = cs[t]? := fun t ht => by
  rw [hROW, Array.append_assoc, Array.getElem?_append_left (by rw [List.size_toArray, htl]; exact ht), List.getElem?_toArray, List.getElem?_take, if_pos ht]
 obtain ⟨ws, hws⟩ : ∃ ws, w.heap.size = ws := ⟨_, rfl⟩
 rw [hws] at hrz hgb hvw
 rw [hws]
 obtain ⟨W1, hW1⟩ : ∃ W1, W1 = w.drew.alloc (.cells ROW 192) := ⟨_, rfl⟩
 have hN : W1.heap[ws]? = some (.cells ROW 192 (0, 0)) := by rw [hW1, <- hws]; exact blk_new w.drew _
 have T1 : Tch No w W1 := by rw [hW1]; exact (Tch.drew w).trans0 (Tch.alloc _ _)
 have hO : ∀ t x, cs[t]? = some x -> W1.cell? ⟨g, t, none⟩ = some x := fun t x hx => T1.cell (hcs t x hx) (fun h => h)
 have hv1 : W1.heap[vb]? = some (.cells nb 192 (0, 0)) := blk_tch T1 hv (fun h => h)
 rw [<- hW1] at hrz
 have hdl : (cs.drop (i * 2)).length = (n - i) * 2 := by rw [List.length_drop, hcl, Nat.sub_mul]
 have hcpA : ∀ (W : World), (∀ x, W.cell? x = W1.cell? x) -> (∀ x, W.frozen? x = W1.frozen? x) -> ∀ ty dc, (Builtin.copy_ #[193, 193] ty #[.slice (some ⟨ws, i * 2, none⟩) (n + 1 - i) dc, .slice (some ⟨vb, 0, none⟩) 1 1]).run Tryz.prog W = .ok (goInt (Nat.min 1 (n + 1 - i))) (W.setCells ws (i * 2) nb.toList) := fun W hWc hWf ty dc =>
  run_copy_many W eltSome ty ws (i * 2) (n + 1 - i) dc ⟨vb, 0, none⟩ 1 1 nb.toList (by rw [Array.length_toList, hnb, show Nat.min 1 (n + 1 - i) = 1 by simp only [Nat.min_def]; split <;> omega])
   (fun j v hj => by rw [addr_add, hWc, blk_cell hv1, Nat.zero_add]; simpa using hj)
   (fun j hj => by rw [Array.length_toList, hnb] at hj; rw [hWc, blk_cell hN, Array.getElem?_eq_getElem (by rw [hRl]; omega)]; rfl) (fun j hj => by rw [hWf]; exact blk_free hN _) h1n
 obtain ⟨cur1, q1, q2, q3⟩ := blk_sets nb.toList (i * 2) W1 ROW hN (by rw [Array.length_toList, hnb, hRl]; omega)
 have hcpB : ∀ (W : World), (∀ x, W.cell? x = (W1.setCells ws (i * 2) nb.toList).cell? x) -> (∀ x, W.frozen? x = (W1.setCells ws (i * 2) nb.toList).frozen? x) -> ∀ ty dc sc, (Builtin.copy_ #[193, 193] ty #[.slice (some ⟨ws, (i + 1) * 2, none⟩) (n - i) dc, .slice (some ⟨g, i * 2, none⟩) (n - i) sc]).run Tryz.prog W = .ok (goInt (Nat.min (n - i) (n - i))) (W.setCells ws ((i + 1) * 2) (cs.drop (i * 2))) := fun W hWc hWf ty dc sc =>
  run_copy_many W eltSome ty ws ((i + 1) * 2) (n - i) dc ⟨g, i * 2, none⟩ (n - i) sc (cs.drop (i * 2)) (by rw [hdl, show Nat.min (n - i) (n - i) = n - i from Nat.min_self _])
   (fun j v hj => by
    rw [List.getElem?_drop] at hj
    rw [addr_add, hWc]
    exact (Tch.setCells (F := fun k => k = ws) (b := ws) rfl nb.toList (i * 2) W1).cell (hO _ _ hj) (by show ¬ g = ws; omega))
   (fun j hj => by rw [hWc, blk_cell q1, Array.getElem?_eq_getElem (by rw [q2, hRl]; rw [hdl] at hj; have := Nat.sub_mul n i 2; omega)]; rfl) (fun j hj => by rw [hWf]; exact blk_free q1 _) (h1.drop _)
 have HFIN : Hid (∃ cur' : Array Value, ((((w.alloc (.cells ROW 192)).drew.setCells ws (i * 2) nb.toList).drew).setCells ws ((i + 1) * 2) (cs.drop (i * 2))).heap[ws]? = some (.cells cur' 192 (0, 0)) /\ cur'.size = G * 2 /\ (∀ t, t < (n + 1) * 2 -> cur'[t]? = (cs.take (i * 2) ++ nb.toList ++ cs.drop (i * 2))[t]?) /\ Tch No w ((((w.alloc (.cells ROW 192)).drew.setCells ws (i * 2) nb.toList).drew).setCells ws ((i + 1) * 2) (cs.drop (i * 2)))) := by
  obtain ⟨cur1, q1, q2, q3⟩ := blk_sets (b := ws) (e := 192) nb.toList (i * 2) ((w.alloc (.cells ROW 192)).drew) ROW (by rw [<- hws]; exact blk_new w _) (by rw [Array.length_toList, hnb, hRl]; omega)
  obtain ⟨cur2, r1, r2, r3⟩ := blk_sets (cs.drop (i * 2)) ((i + 1) * 2) (((w.alloc (.cells ROW 192)).drew.setCells ws (i * 2) nb.toList).drew) cur1 q1 (by rw [hdl, q2, hRl]; have := Nat.sub_mul n i 2; omega)
  refine ⟨cur2, r1, by rw [r2, q2, hRl], fun t ht => ?_, ?_⟩
  ·rw [r3 t, q3 t]
   exact ins_cells hcl (by rw [Array.length_toList, hnb]) (by omega) ROW hRf t ht
  ·exact (((((Tch.alloc w _).trans0 (Tch.drew _)).fresh (F := fun k => k = ws) (Tch.setCells (F := fun k => k = ws) (b := ws) rfl _ _ _) (fun k h => by omega))).trans0 (Tch.drew _)).fresh (F := fun k => k = ws) (Tch.setCells (F := fun k => k = ws) (b := ws) rfl _ _ _) (fun k h => by omega)
 clear q1 q2 q3
 subst hW1
 have hE1 : ∀ x, ((w.alloc (.cells ROW 192)).drew).cell? x = (w.drew.alloc (.cells ROW 192)).cell? x := fun x => rfl
 have hE2 : ∀ x, ((w.alloc (.cells ROW 192)).drew).frozen? x = (w.drew.alloc (.cells ROW 192)).frozen? x := fun x => rfl
 have hF1 : ∀ x, (((w.alloc (.cells ROW 192)).drew.setCells ws (i * 2) nb.toList).drew).cell? x = ((w.drew.alloc (.cells ROW 192)).setCells ws (i * 2) nb.toList).cell? x := fun x => rfl
 have hF2 : ∀ x, (((w.alloc (.cells ROW 192)).drew.setCells ws (i * 2) nb.toList).drew).frozen? x = ((w.drew.alloc (.cells ROW 192)).setCells ws (i * 2) nb.toList).frozen? x := fun x => rfl
 have mixed : Tryz.prog.follows .mixedOrders = true := by kernel_rfl
 have hz2 : ¬ ((i : Int) = (n : Int)) := by omega
 have hz3 : (c : Int) < (n : Int) + 1 := by omega
 have hw1 : IntKind.i64.wrap ((i : Int) + 1) = (i : Int) + 1 := by rw [IntKind.wrap_i64]; omega
 have hb1 : (0 : Int) <= (i : Int) + 1 := by omega
 have hin : i <= n := by omega
 have htn : ((i : Int) + 1).toNat = i + 1 := by omega
 have hb3 : (i : Int) <= (n : Int) := by omega
 have hGi : ¬ (G = i) := by omega
 have hGim : ¬ (G = i + 1) := by omega
 have hci : ¬ (c = i) := by omega
 clear hkk hik hold hROW hG hRl hRf hN T1 hO hv1 htl hdl hcs hcl h1 h1n hv hnb hws hi0 hz0 hzs hzb
 go_enter Tryz.func114, Tryz.ntmps114
 go_wp2_with (first
  | (at_builtin; refine Lib.wpList_append_run _ rfl _ _ _ _ rfl _ _ rfl rfl _ _ (hrz _) ?_)
  | (at_builtin; refine wpList_copy_runI _ rfl _ _ 193 193 rfl _ _ rfl rfl (hcpA _ hE1 hE2 _ _) ?_))
 go_region_law_o (refine step_copy_runI rfl _ _ 193 193 rfl (.slice (some ⟨ws, (i + 1) * 2, none⟩) (n - i) (G - (i + 1))) (.slice (some ⟨g, i * 2, none⟩) (n - i) (c - i)) (by simp [Act.eval, Act.put]) (by simp [Act.eval, Act.put]) (hcpB _ hF1 hF2 3 (G - (i + 1)) (c - i)) ?_)
 go_wp2
 go_ret
 obtain ⟨cur', s1, s2, s3, s4⟩ := HFIN.out
 exact ⟨G, cur', rfl, s1, s2, hGn, hGm, s3, s4⟩
end
end
namespace Ev
open Go Go.RowKit Go.Maps
variable [Env]
theorem insSome : InsK Tryz.prog 114 192 :=
 ⟨fun n i c cs vb nb w g cur => ins_some_shift n i c cs vb nb w g cur, fun n i c cs vb nb w g => ins_some_grow n i c cs vb nb w g, ⟨_, Tryz.func114, rfl⟩⟩
theorem insSome_ok {orc : Orc} (ho : OrcOK Tryz.prog orc) : OrcOK Tryz.prog (insOrc 114 192 orc) := insOrc_ok insSome ho
end Ev
end Go.Proofs.YtohodhkdmnokdaaGreat
