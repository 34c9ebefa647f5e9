/- Part 34 of what the proof of StoreOver rests on. No condition. -/
import Derived.Test.YtelaljoebdpicaaGreatPStoreOver15
import Derived.Test.YtelaljoebdpicaaGreatPStoreOver18
import Derived.Test.YtelaljoebdpicaaGreatPStoreOver33
namespace Go.Proofs.YtelaljoebdpicaaGreat
set_option maxRecDepth 100000
set_option maxHeartbeats 60000000
set_option linter.unusedVariables false
set_option linter.unusedSimpArgs false
set_option linter.unusedSectionVars false
section
open Go.RowKit Go.Maps
theorem w_stAgg {T : TypeId} {n : Nat} (hsz : Ev.szOf Tryz.prog T = some n) {o : Oper} {a : Act} {w : World} {K : Act -> World -> Prop} {Q : Exit -> Act -> World -> Prop} {b : Nat} {x y : Operand} {A : Array Value} {l : List Value}
  (ho : o.op = .store T x y) (hp : a.eval x = .pointer (some ⟨b, 0, none⟩)) (hA : w.heap[b]? = some (.cells A T (0, 0))) (hs : A.size = n) (hv : a.eval y = .agg l.toArray) (hl : l.length = n) (hone : ∀ u ∈ l, u.oneCell' = true)
  (h : ∀ z w', w'.heap[b]? = some (.cells l.toArray T (0, 0)) -> Tch (fun q => q = b) w w' -> K (a.put o.dst z) w') : Oper.wp Tryz.prog o a w K Q := by
 have hst := run_storeCells_cells (P := Tryz.prog) b 0 l 0 w (by intro j hj; rw [Nat.zero_add, blk_cell hA j]; simp; omega) (by intro j hj; exact blk_free hA _) hone
 obtain ⟨cur, g1, g2, g3⟩ := blk_sets l 0 w A hA (by omega)
 have hcur : cur = l.toArray := by
  apply Array.ext_getElem?
  intro i
  rw [g3 i]
  simp only [Nat.zero_le, Nat.zero_add, Nat.sub_zero, true_and, List.getElem?_toArray]
  split
  ·rfl
  ·rw [List.getElem?_eq_none (by omega), Array.getElem?_eq_none (by omega)]
 have hr : (execOp a.eval o).run Tryz.prog w = .ok .skip (w.setCells b 0 l) := by
  have hst2 : (storeCells ⟨b, 0, none⟩ l).run Tryz.prog w = .ok () (w.setCells b 0 l) := by simpa using hst
  unfold execOp
  rw [ho]
  simp [hp, hv, Value.cells, Instr.storeAt, Instr.sureAddr, storeVar, Sem.run_bind, Ev.run_sz hsz, hl, hst2]
 unfold Oper.wp
 rw [hr]
 exact h _ _ (by rw [<- hcur]; exact g1) (Tch.setCells (F := fun k => k = b) rfl l 0 w)
theorem szRec : Ev.szOf Tryz.prog 37 = some 6 := by kernel_rfl
def SV (n : Nat) (x : Value) (W : World) : Prop := ∃ s, OkSt s /\ StW (Tch (fun k => k < n) W) x s
def RV (n : Nat) (x : Value) (W : World) : Prop := ∃ r, OkRec r /\ RecW (Tch (fun k => k < n) W) x r
theorem recw_keep {F : Nat -> Prop} {n : Nat} {x : Value} {r : RecM} {W W' : World} (h : RecW (Tch (fun k => k < n) W) x r) (t : Tch F W W') (hF : ∀ k, F k -> k < n) : RecW (Tch (fun k => k < n) W') x r := by
 obtain ⟨vp, vu, e, h2⟩ := h
 exact ⟨vp, vu, e, fun X tx => h2 X ((t.mono (fun k _ e => hF k e)).trans tx (fun _ _ e => e))⟩
theorem sv_keep {F : Nat -> Prop} {n : Nat} {x : Value} {W W' : World} (h : SV n x W) (t : Tch F W W') (hF : ∀ k, F k -> k < n) : SV n x W' := by
 obtain ⟨s, h1, h2⟩ := h
 exact ⟨s, h1, h2.mono (fun X tx => (t.mono (fun k _ e => hF k e)).trans tx (fun _ _ e => e))⟩
theorem rv_keep {F : Nat -> Prop} {n : Nat} {x : Value} {W W' : World} (h : RV n x W) (t : Tch F W W') (hF : ∀ k, F k -> k < n) : RV n x W' := by
 obtain ⟨s, h1, h2⟩ := h
 exact ⟨s, h1, recw_keep h2 t hF⟩
theorem stb_sv (n : Nat) : Stb (SV n) := fun x w w' t h => sv_keep h t (fun _ e => e.elim)
theorem stb_rv (n : Nat) : Stb (RV n) := fun x w w' t h => rv_keep h t (fun _ e => e.elim)
theorem sv_list {n : Nat} {x : Value} {W : World} (h : SV n x W) : ∃ l : List Value, x = .agg l.toArray /\ l.length = 9 /\ ∀ u ∈ l, u.oneCell' = true := by
 obtain ⟨s, _, h2⟩ := h
 obtain ⟨am, cm, aw, cw, ae, ce, ao, co, an, cn, rfl⟩ := stw_vals h2 (Tch.refl _ _)
 refine ⟨_, rfl, rfl, fun u hu => ?_⟩
 simp only [List.mem_cons, List.not_mem_nil, or_false] at hu
 rcases hu with rfl | rfl | rfl | rfl | rfl | rfl | rfl | rfl | rfl <;> rfl
theorem rv_list {n : Nat} {x : Value} {W : World} (h : RV n x W) : ∃ l : List Value, x = .agg l.toArray /\ l.length = 6 /\ ∀ u ∈ l, u.oneCell' = true := by
 obtain ⟨r, _, vp, vu, rfl, h2⟩ := h
 have g := h2 W (Tch.refl _ _)
 refine ⟨_, rfl, rfl, fun u hu => ?_⟩
 have o1 := CellsAt.one g.1
 have o2 := CellsAt.one g.2
 simp only [List.mem_cons, List.not_mem_nil, or_false] at hu
 rcases hu with rfl | rfl | rfl | rfl | rfl | rfl
 ·rfl
 ·rfl
 ·rfl
 ·rfl
 ·exact o1
 ·exact o2
theorem state_sv {w : World} {v : Value} {s : StM} (h : ArgSt w v s) (n : Nat) : ∀ W, Tch No w W -> n <= W.heap.size -> Calls Tryz.prog 13 #[v] W fun e w' => ∃ v', e = .returned v' /\ SV n v' w' /\ Tch No W w' := fun W t hn =>
 (lstate_any s v W (h.keep t)).mono (by
  rintro e w' ⟨v', s', rfl, h1, h2, h3⟩
  exact ⟨v', rfl, ⟨s', h1, h3.mono (fun X tx => tx.mono (fun k _ e => Nat.lt_of_lt_of_le e hn))⟩, h2⟩)
theorem record_rv {w : World} {v : Value} {r : RecM} (h : ArgRec w v r) (n : Nat) : ∀ W, Tch No w W -> n <= W.heap.size -> Calls Tryz.prog 20 #[v] W fun e w' => ∃ v', e = .returned v' /\ RV n v' w' /\ Tch No W w' := fun W t hn =>
 (lrec_any r v W (h.keep t)).mono (by
  rintro e w' ⟨vp, vu, rfl, h2, h3, h4⟩
  refine ⟨_, rfl, ⟨cutRec r, cutRec_ok h, vp, vu, rfl, fun X tx => ⟨?_, ?_⟩⟩, h2⟩
  ·exact CellsAt.ofRow (own_tch h3.1 tx (fun b hb e => by have := h3.2 b hb; omega))
  ·exact CellsAt.ofRow (own_tch h4.1 tx (fun b hb e => by have := h4.2 b hb; omega)))
end
namespace Ev
open Go Go.RowKit Go.Maps
theorem pmix : Tryz.prog.follows .mixedOrders = true := by kernel_rfl
theorem pname : named Tryz.prog = true := by kernel_rfl
theorem pregs : progOk Tryz.prog = true := by kernel_rfl
theorem pok : POk Tryz.prog := ⟨pmix, pname, pregs⟩
end Ev
namespace Ev
open Go Go.RowKit Go.Maps
structure InsK (P : Program) (f : FuncId) (el : TypeId) : Prop where
 shift : ∀ (n i c : Nat) (cs : List Value) (vb : Nat) (nb : Array Value) (w : World) (g : Nat) (cur : Array Value), i < n -> n + 1 <= c -> c <= maxLen -> n <= 10000000 -> w.heap[g]? = some (.cells cur el (0, 0)) -> cur.size = c * 2 -> cs.length = n * 2 -> (∀ t, t < n * 2 -> cur[t]? = cs[t]?) -> Ones cs ->
  w.heap[vb]? = some (.cells nb el (0, 0)) -> nb.size = 2 -> Ones nb.toList -> vb ≠ g ->
  Calls P f #[.slice (some ⟨g, 0, none⟩) n c, .int .i64 i, .slice (some ⟨vb, 0, none⟩) 1 1] w fun e w' => e = .returned (.slice (some ⟨g, 0, none⟩) (n + 1) c) /\ w' = (w.drew.setCells g ((i + 1) * 2) (cs.drop (i * 2))).setCells g (i * 2) nb.toList
 grow : ∀ (n i c : Nat) (cs : List Value) (vb : Nat) (nb : Array Value) (w : World) (g : Nat), i < n -> n <= c -> c < n + 1 -> n <= 10000000 -> cs.length = n * 2 -> (∀ t x, cs[t]? = some x -> w.cell? ⟨g, t, none⟩ = some x) -> Ones cs ->
  w.heap[vb]? = some (.cells nb el (0, 0)) -> nb.size = 2 -> Ones nb.toList ->
  Calls P f #[.slice (some ⟨g, 0, none⟩) n c, .int .i64 i, .slice (some ⟨vb, 0, none⟩) 1 1] w fun e w' => ∃ G cur', e = .returned (.slice (some ⟨w.heap.size, 0, none⟩) (n + 1) G) /\ w'.heap[w.heap.size]? = some (.cells cur' el (0, 0)) /\ cur'.size = G * 2 /\ n + 1 <= G /\ G <= maxLen /\
   (∀ t, t < (n + 1) * 2 -> cur'[t]? = (cs.take (i * 2) ++ nb.toList ++ cs.drop (i * 2))[t]?) /\ Tch No w w'
 body : ∃ fn, P.funcs[f]? = some fn /\ fn.body.isSome = true
def insOut (el : TypeId) (len k : Nat) (a b : AO) : Option AO := if k < len /\ len <= 1000000 /\ a.fz = false /\ a.ty = el /\ len * 2 <= a.cs.length /\ b.fz = false /\ b.ty = el /\ b.opn = false /\ b.cs.length = 2 then some ⟨el, (a.cs.take (len * 2)).take (k * 2) ++ b.cs ++ (a.cs.take (len * 2)).drop (k * 2), true, .ok⟩ else none
def insOrc (fid : FuncId) (el : TypeId) (orc : Orc) : Orc := fun f args H n => if f = fid then
  match args with
  | [.v (.c (.sl i 0 len (.op 2))), .v (.c (.int .i64 (.ofNat k))), .v (.c (.sl j 0 1 (.ex 1)))] => match hg H i, hg H j with
   | some a, some b => if i ≠ j /\ i < n then (match insOut el len k a b with
    | some o => (Ef.apT n H (.mv (one i ||| one j) i o)).map fun H' => (.v (.c (.sl n 0 (len + 1) (.op 2))), H', n + 1, one i ||| one j, one i)
    | none => none) else none
   | _, _ => none
  | _ => orc f args H n
 else orc f args H n
theorem insOrc_ok {P : Program} {fid : FuncId} {el : TypeId} {orc : Orc} (hi : InsK P fid el) (ho : OrcOK P orc) : OrcOK P (insOrc fid el orc) := by
 refine ⟨fun f args H n s H' n' F W h => ?_, fun f args H n r h => ?_⟩
 ·unfold insOrc at h
  split at h
  ·rename_i hf
   subst hf
   split at h
   ·rename_i i len k j
    split at h
    ·rename_i a b ha hb
     split at h
     ·rename_i hij
      split at h
      ·rename_i o hout
       rw [Option.map_eq_some_iff] at h
       obtain ⟨H1, h1, h2⟩ := h
       simp only [Prod.mk.injEq] at h2
       obtain ⟨rfl, rfl, rfl, rfl, rfl⟩ := h2
       rw [apT_ok h1]
       have hFi : tb (one i ||| one j) i = true := by rw [tb_or, tb_one]; rfl
       have hFj : tb (one i ||| one j) j = true := by rw [tb_or, tb_one, Bool.or_true]
       refine ⟨inv_ef (e := .mv (one i ||| one j) i o) (by simp [Ef.chk, ha, hFi, hij.2]), fun σ D w vals hargs hs hdom hD => ?_⟩
       unfold insOut at hout
       split at hout
       ·rename_i hc
        cases hout
        obtain ⟨hkl, hl1, hfa, hta, hla, hfb, htb, hob, hlb⟩ := hc
        match vals, hargs with
        | [v1, v2, v3], ⟨r1, r2, r3, _⟩ =>
         obtain ⟨hDi, c, e1, hlc, hcm, hct⟩ := r1
         rw [Nat.zero_add] at hct
         have e2 : v2 = .int .i64 (k : Int) := r2
         obtain ⟨hDj, e3⟩ := r3
         subst e1; subst e2; subst e3
         have hDn : ¬ D n := hD n (Nat.le_refl _) (Nat.lt_succ_self n)
         obtain ⟨_, hOa⟩ := obj_of hs hFi ha
         obtain ⟨_, hOb⟩ := obj_of hs hFj hb
         obtain ⟨ca, fa, a1, a0, a2, a3, a4, a5⟩ := hOa.ok hfa
         obtain ⟨cb, fb, b1, b0, b2, b3, b4, b5⟩ := hOb.ok hfb
         have := a0 hfa; subst this
         have := b0 hfb; subst this
         subst hta
         rw [htb] at b1
         have hA := (cells_of (i := i) a5 (by omega)).take (len * 2)
         have hB := cells_of (i := j) b5 (by omega)
         rw [List.take_take, Nat.min_eq_left hla] at hA
         have hcbs : cb.size = 2 := by rw [b2, <- b4 hob, hlb]
         have hBt : cb.toList.take b.cs.length = cb.toList := by rw [hlb]; apply List.take_of_length_le; simp [hcbs]
         rw [hBt] at hB
         have hne : (σ j).b ≠ (σ i).b := fun e => hij.1 (hs.inj i j (some_of (rst_some.2 ⟨hFi, ha⟩)) (some_of (rst_some.2 ⟨hFj, hb⟩)) e.symm)
         have hl : (ca.toList.take (len * 2)).length = len * 2 := by simp; omega
         have hcells : ∀ t, t < len * 2 -> ca[t]? = (ca.toList.take (len * 2))[t]? := fun t ht => by rw [List.getElem?_take, if_pos ht, Array.getElem?_toList]
         have hnew := ((hA.take (k * 2)).append hB).append (hA.drop (k * 2))
         have hnl : ((ca.toList.take (len * 2)).take (k * 2) ++ cb.toList ++ (ca.toList.take (len * 2)).drop (k * 2)).length = (len + 1) * 2 := by
          simp only [List.length_append, List.length_take, List.length_drop, hl, Array.length_toList, hcbs]; omega
         -- what is left to be shown, wherever the row lies
         have fin : ∀ (g c' : Nat) (cur' : Array Value) (w' : World), w'.heap[g]? = some (.cells cur' a.ty (0, 0)) -> cur'.size = c' * 2 -> len + 1 <= c' -> c' <= maxLen -> (∀ t, t < (len + 1) * 2 -> cur'[t]? = ((ca.toList.take (len * 2)).take (k * 2) ++ cb.toList ++ (ca.toList.take (len * 2)).drop (k * 2))[t]?) -> Tch (fun q => q = (σ i).b) w w' -> (w.heap.size <= g ∨ g = (σ i).b) ->
           ∃ v σ', Ending.returned (.slice (some ⟨g, 0, none⟩) (len + 1) c') = .returned v /\ RS σ' (more D n (n + 1)) (.v (.c (.sl n 0 (len + 1) (.op 2)))) v /\ Out σ D w (rst (tb (one i ||| one j)) (hg H)) (aft (tb (one i ||| one j)) n (n + 1) ((Ef.mv (one i ||| one j) i ⟨a.ty, (a.cs.take (len * 2)).take (k * 2) ++ b.cs ++ (a.cs.take (len * 2)).drop (k * 2), true, .ok⟩).ap n (hg H))) n (n + 1) (tb (one i)) σ' w' := by
          intro g c' cur' w' g1 g2 g3 g4 g5 g6 g7
          have hsm : ∀ q, D q -> at_ σ n ⟨g, cur'.size⟩ q = σ q := fun q hq => at_other (fun e => by subst e; exact hDn hq)
          refine ⟨_, at_ σ n ⟨g, cur'.size⟩, rfl, ⟨.inr ⟨Nat.le_refl _, Nat.lt_succ_self _⟩, c', by rw [at_same]; rfl, g3, g4, by rw [at_same, Nat.zero_add]; exact g2.symm⟩, ?_⟩
          have hO := out_mv (F := one i ||| one j) (i := i) (k := ⟨g, cur'.size⟩) (ob := ⟨a.ty, (a.cs.take (len * 2)).take (k * 2) ++ b.cs ++ (a.cs.take (len * 2)).drop (k * 2), true, .ok⟩) (w' := w') hs hDn hFi (by rw [ha]; rfl) g6 g7 ?_
          ·rw [Ef.W_eq] at hO; exact hO
          ·have hnew' := RL.ext (D' := more D n (n + 1)) hnew hsm (fun _ h => .inl h)
           have hll := hnew'.length
           refine ⟨cur', (0, 0), by rw [at_same]; exact g1, fun _ => rfl, by rw [at_same], ?_, (fun h => by cases h), fun q cc e => ?_⟩
           ·rw [at_same]; simp only; rw [<- hll, hnl, g2]; exact Nat.mul_le_mul_right _ g3
           ·obtain ⟨v, v1, v2⟩ := hnew'.get e
            have hlt := (List.getElem?_eq_some_iff.1 v1).1
            exact ⟨v, by rw [g5 q (by omega)]; exact v1, v2⟩
         by_cases hroom : len + 1 <= c
         ·refine (hi.shift len k c (ca.toList.take (len * 2)) (σ j).b cb w (σ i).b ca hkl hroom hcm (by omega) a1 (by omega) hl hcells hA.ones b1 hcbs hB.ones hne).mono ?_
          rintro e w' ⟨rfl, rfl⟩
          obtain ⟨c1, d1, d2, d3⟩ := blk_sets ((ca.toList.take (len * 2)).drop (k * 2)) ((k + 1) * 2) w.drew ca a1 (by rw [List.length_drop, hl]; omega)
          obtain ⟨c2, f1, f2, f3⟩ := blk_sets cb.toList (k * 2) _ c1 d1 (by rw [d2, Array.length_toList, hcbs]; omega)
          refine fin _ c c2 _ f1 (by omega) hroom hcm (fun t ht => ?_) ?_ (.inr rfl)
          ·rw [f3 t]
           by_cases q1 : t < k * 2
           ·rw [if_neg (by omega), d3 t, if_neg (by omega), hcells t (by omega), List.append_assoc, List.getElem?_append_left (by rw [List.length_take, hl]; omega)]
            conv => rhs; rw [List.getElem?_take, if_pos q1]
           ·by_cases q2 : t < (k + 1) * 2
            ·rw [if_pos ⟨by omega, by rw [Array.length_toList, hcbs]; omega⟩, List.getElem?_append_left (by rw [List.length_append, List.length_take, hl, Array.length_toList, hcbs]; omega), List.getElem?_append_right (by rw [List.length_take, hl]; omega), List.length_take, hl, Nat.min_eq_left (by omega)]
            ·rw [if_neg (by rw [Array.length_toList, hcbs]; omega), d3 t, if_pos ⟨by omega, by rw [List.length_drop, hl]; omega⟩, List.getElem?_append_right (by rw [List.length_append, List.length_take, hl, Array.length_toList, hcbs]; omega), List.length_append, List.length_take, hl, Array.length_toList, hcbs, Nat.min_eq_left (by omega)]
             congr 1; omega
          ·exact ((Tch.drew w).no.trans (Tch.setCells (F := fun q => q = (σ i).b) rfl _ _ _) (fun _ _ h => h)).trans (Tch.setCells (F := fun q => q = (σ i).b) rfl _ _ _) (fun _ _ h => h)
         ·refine (hi.grow len k c (ca.toList.take (len * 2)) (σ j).b cb w (σ i).b hkl hlc (by omega) (by omega) hl (fun t x e => ?_) hA.ones b1 hcbs hB.ones).mono ?_
          ·rw [List.getElem?_take] at e
           split at e
           ·rw [cell_of_row w _ t ca a.ty (0, 0) a1]; simpa using e
           ·cases e
          ·rintro e w' ⟨G, cur', rfl, d1, d2, d3, d4, d5, d6⟩
           exact fin _ G cur' w' d1 d2 d3 d4 d5 d6.no (.inl (Nat.le_refl _))
       ·cases hout
      ·cases h
     ·cases h
    ·cases h
   ·exact ho.1 _ _ _ _ _ _ _ _ _ h
  ·exact ho.1 _ _ _ _ _ _ _ _ _ h
 ·unfold insOrc at h
  split at h
  ·rename_i hf; subst hf; exact hi.body
  ·exact ho.2 _ _ _ _ _ h
theorem insEnd : InsK Tryz.prog 189 57 :=
 ⟨fun n i c cs vb nb w g cur => ins_end_shift n i c cs vb nb w g cur, fun n i c cs vb nb w g => ins_end_grow n i c cs vb nb w g, ⟨_, Tryz.func189, rfl⟩⟩
end Ev
section
open Go.RowKit Go.Maps
theorem begun10_any (w : World) : Calls Tryz.prog 12 #[] w fun e w' => e = .returned (.bool true) /\ Tch No w w' := Ev.closed (orc := Ev.insOrc 189 57 Ev.noOrc) (N := 100) (k := 60) (Ev.insOrc_ok Ev.insEnd Ev.noOrc_ok) Ev.pok (by kernel_rfl) w
end
end Go.Proofs.YtelaljoebdpicaaGreat
