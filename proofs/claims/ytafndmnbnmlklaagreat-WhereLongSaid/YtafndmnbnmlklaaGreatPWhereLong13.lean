/- Part 13 of what the proof of WhereLong rests on. No condition. -/
import Derived.Test.YtafndmnbnmlklaaGreatPWhereLong01
import Derived.Test.YtafndmnbnmlklaaGreatPWhereLong02
import Derived.Test.YtafndmnbnmlklaaGreatPWhereLong03
import Derived.Test.YtafndmnbnmlklaaGreatPWhereLong04
import Derived.Test.YtafndmnbnmlklaaGreatPWhereLong12
namespace Go.Proofs.YtafndmnbnmlklaaGreat
set_option maxRecDepth 100000
set_option maxHeartbeats 60000000
set_option linter.unusedVariables false
set_option linter.unusedSimpArgs false
set_option linter.unusedSectionVars false
namespace Ev
open Go Go.RowKit Go.Maps
structure InsK (P : Program) (f : FuncId) (el : TypeId) : Prop where
 shift : ∀ (n i c : Nat) (cs : List Value) (vb : Nat) (nb : Array Value) (w : World) (g : Nat) (cur : Array Value), i < n -> n + 1 <= c -> c <= maxLen -> n <= 10000000 -> w.heap[g]? = some (.cells cur el (0, 0)) -> cur.size = c * 2 -> cs.length = n * 2 -> (∀ t, t < n * 2 -> cur[t]? = cs[t]?) -> Ones cs ->
  w.heap[vb]? = some (.cells nb el (0, 0)) -> nb.size = 2 -> Ones nb.toList -> vb ≠ g ->
  Calls P f #[.slice (some ⟨g, 0, none⟩) n c, .int .i64 i, .slice (some ⟨vb, 0, none⟩) 1 1] w fun e w' => e = .returned (.slice (some ⟨g, 0, none⟩) (n + 1) c) /\ w' = (w.drew.setCells g ((i + 1) * 2) (cs.drop (i * 2))).setCells g (i * 2) nb.toList
 grow : ∀ (n i c : Nat) (cs : List Value) (vb : Nat) (nb : Array Value) (w : World) (g : Nat), i < n -> n <= c -> c < n + 1 -> n <= 10000000 -> cs.length = n * 2 -> (∀ t x, cs[t]? = some x -> w.cell? ⟨g, t, none⟩ = some x) -> Ones cs ->
  w.heap[vb]? = some (.cells nb el (0, 0)) -> nb.size = 2 -> Ones nb.toList ->
  Calls P f #[.slice (some ⟨g, 0, none⟩) n c, .int .i64 i, .slice (some ⟨vb, 0, none⟩) 1 1] w fun e w' => ∃ G cur', e = .returned (.slice (some ⟨w.heap.size, 0, none⟩) (n + 1) G) /\ w'.heap[w.heap.size]? = some (.cells cur' el (0, 0)) /\ cur'.size = G * 2 /\ n + 1 <= G /\ G <= maxLen /\
   (∀ t, t < (n + 1) * 2 -> cur'[t]? = (cs.take (i * 2) ++ nb.toList ++ cs.drop (i * 2))[t]?) /\ Tch No w w'
 body : ∃ fn, P.funcs[f]? = some fn /\ fn.body.isSome = true
def insOut (el : TypeId) (len k : Nat) (a b : AO) : Option AO := if k < len /\ len <= 1000000 /\ a.fz = false /\ a.ty = el /\ len * 2 <= a.cs.length /\ b.fz = false /\ b.ty = el /\ b.opn = false /\ b.cs.length = 2 then some ⟨el, (a.cs.take (len * 2)).take (k * 2) ++ b.cs ++ (a.cs.take (len * 2)).drop (k * 2), true, .ok⟩ else none
def insOrc (fid : FuncId) (el : TypeId) (orc : Orc) : Orc := fun f args H n => if f = fid then
  match args with
  | [.v (.c (.sl i 0 len (.op 2))), .v (.c (.int .i64 (.ofNat k))), .v (.c (.sl j 0 1 (.ex 1)))] => match hg H i, hg H j with
   | some a, some b => if i ≠ j /\ i < n then (match insOut el len k a b with
    | some o => (Ef.apT n H (.mv (one i ||| one j) i o)).map fun H' => (.v (.c (.sl n 0 (len + 1) (.op 2))), H', n + 1, one i ||| one j, one i)
    | none => none) else none
   | _, _ => none
  | _ => orc f args H n
 else orc f args H n
theorem insOrc_ok {P : Program} {fid : FuncId} {el : TypeId} {orc : Orc} (hi : InsK P fid el) (ho : OrcOK P orc) : OrcOK P (insOrc fid el orc) := by
 refine ⟨fun f args H n s H' n' F W h => ?_, fun f args H n r h => ?_⟩
 ·unfold insOrc at h
  split at h
  ·rename_i hf
   subst hf
   split at h
   ·rename_i i len k j
    split at h
    ·rename_i a b ha hb
     split at h
     ·rename_i hij
      split at h
      ·rename_i o hout
       rw [Option.map_eq_some_iff] at h
       obtain ⟨H1, h1, h2⟩ := h
       simp only [Prod.mk.injEq] at h2
       obtain ⟨rfl, rfl, rfl, rfl, rfl⟩ := h2
       rw [apT_ok h1]
       have hFi : tb (one i ||| one j) i = true := by rw [tb_or, tb_one]; rfl
       have hFj : tb (one i ||| one j) j = true := by rw [tb_or, tb_one, Bool.or_true]
       refine ⟨inv_ef (e := .mv (one i ||| one j) i o) (by simp [Ef.chk, ha, hFi, hij.2]), fun σ D w vals hargs hs hdom hD => ?_⟩
       unfold insOut at hout
       split at hout
       ·rename_i hc
        cases hout
        obtain ⟨hkl, hl1, hfa, hta, hla, hfb, htb, hob, hlb⟩ := hc
        match vals, hargs with
        | [v1, v2, v3], ⟨r1, r2, r3, _⟩ =>
         obtain ⟨hDi, c, e1, hlc, hcm, hct⟩ := r1
         rw [Nat.zero_add] at hct
         have e2 : v2 = .int .i64 (k : Int) := r2
         obtain ⟨hDj, e3⟩ := r3
         subst e1; subst e2; subst e3
         have hDn : ¬ D n := hD n (Nat.le_refl _) (Nat.lt_succ_self n)
         obtain ⟨_, hOa⟩ := obj_of hs hFi ha
         obtain ⟨_, hOb⟩ := obj_of hs hFj hb
         obtain ⟨ca, fa, a1, a0, a2, a3, a4, a5⟩ := hOa.ok hfa
         obtain ⟨cb, fb, b1, b0, b2, b3, b4, b5⟩ := hOb.ok hfb
         have := a0 hfa; subst this
         have := b0 hfb; subst this
         subst hta
         rw [htb] at b1
         have hA := (cells_of (i := i) a5 (by omega)).take (len * 2)
         have hB := cells_of (i := j) b5 (by omega)
         rw [List.take_take, Nat.min_eq_left hla] at hA
         have hcbs : cb.size = 2 := by rw [b2, <- b4 hob, hlb]
         have hBt : cb.toList.take b.cs.length = cb.toList := by rw [hlb]; apply List.take_of_length_le; simp [hcbs]
         rw [hBt] at hB
         have hne : (σ j).b ≠ (σ i).b := fun e => hij.1 (hs.inj i j (some_of (rst_some.2 ⟨hFi, ha⟩)) (some_of (rst_some.2 ⟨hFj, hb⟩)) e.symm)
         have hl : (ca.toList.take (len * 2)).length = len * 2 := by simp; omega
         have hcells : ∀ t, t < len * 2 -> ca[t]? = (ca.toList.take (len * 2))[t]? := fun t ht => by rw [List.getElem?_take, if_pos ht, Array.getElem?_toList]
         have hnew := ((hA.take (k * 2)).append hB).append (hA.drop (k * 2))
         have hnl : ((ca.toList.take (len * 2)).take (k * 2) ++ cb.toList ++ (ca.toList.take (len * 2)).drop (k * 2)).length = (len + 1) * 2 := by
          simp only [List.length_append, List.length_take, List.length_drop, hl, Array.length_toList, hcbs]; omega
         -- what is left to be shown, wherever the row lies
         have fin : ∀ (g c' : Nat) (cur' : Array Value) (w' : World), w'.heap[g]? = some (.cells cur' a.ty (0, 0)) -> cur'.size = c' * 2 -> len + 1 <= c' -> c' <= maxLen -> (∀ t, t < (len + 1) * 2 -> cur'[t]? = ((ca.toList.take (len * 2)).take (k * 2) ++ cb.toList ++ (ca.toList.take (len * 2)).drop (k * 2))[t]?) -> Tch (fun q => q = (σ i).b) w w' -> (w.heap.size <= g ∨ g = (σ i).b) ->
           ∃ v σ', Ending.returned (.slice (some ⟨g, 0, none⟩) (len + 1) c') = .returned v /\ RS σ' (more D n (n + 1)) (.v (.c (.sl n 0 (len + 1) (.op 2)))) v /\ Out σ D w (rst (tb (one i ||| one j)) (hg H)) (aft (tb (one i ||| one j)) n (n + 1) ((Ef.mv (one i ||| one j) i ⟨a.ty, (a.cs.take (len * 2)).take (k * 2) ++ b.cs ++ (a.cs.take (len * 2)).drop (k * 2), true, .ok⟩).ap n (hg H))) n (n + 1) (tb (one i)) σ' w' := by
          intro g c' cur' w' g1 g2 g3 g4 g5 g6 g7
          have hsm : ∀ q, D q -> at_ σ n ⟨g, cur'.size⟩ q = σ q := fun q hq => at_other (fun e => by subst e; exact hDn hq)
          refine ⟨_, at_ σ n ⟨g, cur'.size⟩, rfl, ⟨.inr ⟨Nat.le_refl _, Nat.lt_succ_self _⟩, c', by rw [at_same]; rfl, g3, g4, by rw [at_same, Nat.zero_add]; exact g2.symm⟩, ?_⟩
          have hO := out_mv (F := one i ||| one j) (i := i) (k := ⟨g, cur'.size⟩) (ob := ⟨a.ty, (a.cs.take (len * 2)).take (k * 2) ++ b.cs ++ (a.cs.take (len * 2)).drop (k * 2), true, .ok⟩) (w' := w') hs hDn hFi (by rw [ha]; rfl) g6 g7 ?_
          ·rw [Ef.W_eq] at hO; exact hO
          ·have hnew' := RL.ext (D' := more D n (n + 1)) hnew hsm (fun _ h => .inl h)
           have hll := hnew'.length
           refine ⟨cur', (0, 0), by rw [at_same]; exact g1, fun _ => rfl, by rw [at_same], ?_, (fun h => by cases h), fun q cc e => ?_⟩
           ·rw [at_same]; simp only; rw [<- hll, hnl, g2]; exact Nat.mul_le_mul_right _ g3
           ·obtain ⟨v, v1, v2⟩ := hnew'.get e
            have hlt := (List.getElem?_eq_some_iff.1 v1).1
            exact ⟨v, by rw [g5 q (by omega)]; exact v1, v2⟩
         by_cases hroom : len + 1 <= c
         ·refine (hi.shift len k c (ca.toList.take (len * 2)) (σ j).b cb w (σ i).b ca hkl hroom hcm (by omega) a1 (by omega) hl hcells hA.ones b1 hcbs hB.ones hne).mono ?_
          rintro e w' ⟨rfl, rfl⟩
          obtain ⟨c1, d1, d2, d3⟩ := blk_sets ((ca.toList.take (len * 2)).drop (k * 2)) ((k + 1) * 2) w.drew ca a1 (by rw [List.length_drop, hl]; omega)
          obtain ⟨c2, f1, f2, f3⟩ := blk_sets cb.toList (k * 2) _ c1 d1 (by rw [d2, Array.length_toList, hcbs]; omega)
          refine fin _ c c2 _ f1 (by omega) hroom hcm (fun t ht => ?_) ?_ (.inr rfl)
          ·rw [f3 t]
           by_cases q1 : t < k * 2
           ·rw [if_neg (by omega), d3 t, if_neg (by omega), hcells t (by omega), List.append_assoc, List.getElem?_append_left (by rw [List.length_take, hl]; omega)]
            conv => rhs; rw [List.getElem?_take, if_pos q1]
           ·by_cases q2 : t < (k + 1) * 2
            ·rw [if_pos ⟨by omega, by rw [Array.length_toList, hcbs]; omega⟩, List.getElem?_append_left (by rw [List.length_append, List.length_take, hl, Array.length_toList, hcbs]; omega), List.getElem?_append_right (by rw [List.length_take, hl]; omega), List.length_take, hl, Nat.min_eq_left (by omega)]
            ·rw [if_neg (by rw [Array.length_toList, hcbs]; omega), d3 t, if_pos ⟨by omega, by rw [List.length_drop, hl]; omega⟩, List.getElem?_append_right (by rw [List.length_append, List.length_take, hl, Array.length_toList, hcbs]; omega), List.length_append, List.length_take, hl, Array.length_toList, hcbs, Nat.min_eq_left (by omega)]
             congr 1; omega
          ·exact ((Tch.drew w).no.trans (Tch.setCells (F := fun q => q = (σ i).b) rfl _ _ _) (fun _ _ h => h)).trans (Tch.setCells (F := fun q => q = (σ i).b) rfl _ _ _) (fun _ _ h => h)
         ·refine (hi.grow len k c (ca.toList.take (len * 2)) (σ j).b cb w (σ i).b hkl hlc (by omega) (by omega) hl (fun t x e => ?_) hA.ones b1 hcbs hB.ones).mono ?_
          ·rw [List.getElem?_take] at e
           split at e
           ·rw [cell_of_row w _ t ca a.ty (0, 0) a1]; simpa using e
           ·cases e
          ·rintro e w' ⟨G, cur', rfl, d1, d2, d3, d4, d5, d6⟩
           exact fin _ G cur' w' d1 d2 d3 d4 d5 d6.no (.inl (Nat.le_refl _))
       ·cases hout
      ·cases h
     ·cases h
    ·cases h
   ·exact ho.1 _ _ _ _ _ _ _ _ _ h
  ·exact ho.1 _ _ _ _ _ _ _ _ _ h
 ·unfold insOrc at h
  split at h
  ·rename_i hf; subst hf; exact hi.body
  ·exact ho.2 _ _ _ _ _ h
theorem insEnd : InsK Tryz.prog 223 71 :=
 ⟨fun n i c cs vb nb w g cur => ins_end_shift n i c cs vb nb w g cur, fun n i c cs vb nb w g => ins_end_grow n i c cs vb nb w g, ⟨_, Tryz.func223, rfl⟩⟩
end Ev
section
open Go.RowKit Go.Maps
theorem begun10_any (w : World) : Calls Tryz.prog 16 #[] w fun e w' => e = .returned (.bool true) /\ Tch No w w' := Ev.closed (orc := Ev.insOrc 223 71 Ev.noOrc) (N := 100) (k := 60) (Ev.insOrc_ok Ev.insEnd Ev.noOrc_ok) Ev.pok (by kernel_rfl) w
end
namespace Ev
open Go Go.RowKit Go.Maps
theorem out_still {F n W : Nat} {H : Heap} {σ : Nat -> Blk} {D : Nat -> Prop} {w w' : World} (hs : Sat σ D (rst (tb F) H) w) (t : Tch No w w') : Out σ D w (rst (tb F) H) (aft (tb F) n n H) n n (tb W) σ w' := by
 have key : ∀ i x, aft (tb F) n n H i = some x -> rst (tb F) H i = some x := fun i x e => by
  obtain ⟨h1, h2⟩ := aft_some.1 e
  exact rst_some.2 ⟨h1.resolve_right (by omega), h2⟩
 refine ⟨fun _ _ => rfl, ⟨fun i ob e => ?_, fun i j hi hj e => ?_⟩, t.mono (fun _ _ h => h.elim), fun i _ hh => ?_, fun i h1 h2 => by omega⟩
 ·obtain ⟨h1, h2⟩ := hs.obj i ob (key i ob e)
  exact ⟨.inl h1, h2.ext rfl (t.block _ h2.lt (fun h => h)) (fun _ _ => rfl) (fun _ h => .inl h)⟩
 ·obtain ⟨x, hx⟩ := Option.isSome_iff_exists.1 hi
  obtain ⟨y, hy⟩ := Option.isSome_iff_exists.1 hj
  exact hs.inj i j (some_of (key i x hx)) (some_of (key j y hy)) e
 ·obtain ⟨x, hx⟩ := Option.isSome_iff_exists.1 hh
  exact some_of (key i x hx)
def valOrc (fid : FuncId) (fn : List S -> Option S) (orc : Orc) : Orc := fun f args H n => if f = fid then (match fn args with | some s => some (s, H, n, 0, 0) | none => none) else orc f args H n
theorem valOrc_ok {P : Program} {fid : FuncId} {fn : List S -> Option S} {orc : Orc} (hb : ∃ f, P.funcs[fid]? = some f /\ f.body.isSome = true)
  (h : ∀ args s, fn args = some s -> ∀ σ D w vals, RSL σ D args vals -> Calls P fid vals.toArray w fun e w' => ∃ v, e = .returned v /\ RS σ D s v /\ Tch No w w') (ho : OrcOK P orc) : OrcOK P (valOrc fid fn orc) := by
 refine ⟨fun f args H n s H' n' F W e => ?_, fun f args H n r e => ?_⟩
 ·unfold valOrc at e
  split at e
  ·rename_i hf
   subst hf
   split at e
   ·rename_i s0 hs0
    simp only [Option.some.injEq, Prod.mk.injEq] at e
    obtain ⟨rfl, rfl, rfl, rfl, rfl⟩ := e
    refine ⟨⟨Nat.le_refl _, fun _ _ _ => rfl, fun h => h, fun i _ h => by rw [tb_0] at h; cases h⟩, fun σ D w vals hargs hs hdom hD => ?_⟩
    refine (h _ _ hs0 σ D w vals hargs).mono ?_
    rintro e w' ⟨v, rfl, h1, h2⟩
    exact ⟨v, σ, rfl, h1.ext (fun _ _ => rfl) (fun _ h => .inl h), out_still hs h2⟩
   ·cases e
  ·exact ho.1 _ _ _ _ _ _ _ _ _ e
 ·unfold valOrc at e
  split at e
  ·rename_i hf; subst hf; exact hb
  ·exact ho.2 _ _ _ _ _ e
def yesS (l : List S) : Option S := match l with | [] => some (.v (.c (.bool true))) | _ => none
def orcZ : Orc := valOrc 16 yesS (insOrc 223 71 noOrc)
theorem orcZ_ok : OrcOK Tryz.prog orcZ := valOrc_ok ⟨_, Tryz.func16, rfl⟩ (fun args s h σ D w vals hv => by
 cases args with
 | cons a l => cases h
 | nil =>
  cases h
  cases vals with
  | cons v l => exact hv.elim
  | nil => exact (begun10_any w).mono (by rintro e w' ⟨rfl, t⟩; exact ⟨_, rfl, rfl, t⟩)) (insOrc_ok insEnd noOrc_ok)
end Ev
section
open Go.RowKit Go.Maps
theorem begun26_any (w : World) : Calls Tryz.prog 32 #[] w fun e w' => e = .returned (.bool true) /\ Tch No w w' := Ev.closed (orc := Ev.orcZ) (N := 100) (k := 60) Ev.orcZ_ok Ev.pok (by kernel_rfl) w
end
section
open Go.RowKit Go.Maps
structure PlM where
 id : Int
 how : Int
 tx : Int
def encPl (p : PlM) : List Value := [.int .i64 p.id, .int .i64 p.how, .int .i64 p.tx]
def standsM (m : MsgM) : Int × Int := if m.who = 0 then (if 3 <= m.cnt then (3, 0) else (1, 0)) else (2, m.who)
def placeM (ms : List MsgM) (id : Int) : PlM := match ms.find? (fun m => m.id == id) with
 | some m => ⟨id, (standsM m).1, (standsM m).2⟩
 | none => ⟨id, 4, 0⟩
def allPl (b : Int) (ms : List MsgM) (n : Nat) : List PlM := (List.range n).map (fun (j : Nat) => placeM ms (makeM b ((j : Int) + 1)))
def allM (s : StM) : List PlM := if 10000 < s.nid then [] else allPl s.broker s.ms (s.nid - 1).toNat
theorem allPl_len (b : Int) (ms : List MsgM) (n : Nat) : (allPl b ms n).length = n := by simp [allPl]
theorem allPl_succ (b : Int) (ms : List MsgM) (n : Nat) : allPl b ms (n + 1) = allPl b ms n ++ [placeM ms (makeM b ((n : Int) + 1))] := by
 unfold allPl
 rw [List.range_succ, List.map_append]
 rfl
theorem place_hit {ms : List MsgM} {id : Int} {k : Nat} (hk : k < ms.length) (e : ms[k].id = id) (h : ∀ i (hi : i < ms.length), i < k -> ms[i].id ≠ id) : placeM ms id = ⟨id, (standsM ms[k]).1, (standsM ms[k]).2⟩ := by
 unfold placeM
 have : ms.find? (fun m => m.id == id) = some ms[k] := by
  rw [List.find?_eq_some_iff_getElem]
  refine ⟨by simp [e], k, hk, rfl, fun j hj => ?_⟩
  simp [h j (by omega) hj]
 rw [this]
theorem place_miss {ms : List MsgM} {id : Int} (h : ∀ i (hi : i < ms.length), ms[i].id ≠ id) : placeM ms id = ⟨id, 4, 0⟩ := by
 unfold placeM
 have : ms.find? (fun m => m.id == id) = none := by
  rw [List.find?_eq_none]
  intro x hx
  obtain ⟨i, hi, rfl⟩ := List.getElem_of_mem hx
  simp [h i hi]
 rw [this]
theorem eltPl : ElT 56 61 3 24 := elt_of Tryz.underlying56 (z := .agg #[.int .i64 0, .int .i64 0, .int .i64 0]) (by kernel_rfl) (by kernel_rfl) (by decide) (by decide)
theorem wall1_any (m : MsgM) (b : Nat) (id : Int) (w : World) (hc : w.cell? ⟨b, 0, none⟩ = some (.int .i64 id)) :
  Calls Tryz.prog 100 #[.agg #[.int .i64 m.id, .string ⟨m.q.toArray⟩, .string ⟨m.b.toArray⟩, .int .i64 m.seq, .int .i64 m.cnt, .int .i64 m.who], .pointer (some ⟨b, 0, none⟩)] w fun e w' => e = .returned (.bool (m.id == id)) /\ Tch No w w' := by
 have hc2 := cal hc
 go_enter Tryz.func100, Tryz.ntmps100
 go_wp2_with fail
 go_ret
 exact ⟨rfl, Tch.alloc _ _⟩
theorem pbox_cell (w : World) (cs : Array Value) (t : TypeId) (fr : Nat × Nat) (j : Nat) (v : Value) (h : cs[j]? = some v) (p : TchW (w.alloc (.cells cs t fr))) : p.wo.cell? ⟨w.heap.size, j, none⟩ = some v := p.cell ((blk_cell (blk_new _ _) j).trans h)
theorem wstands_any (i : Int) (q b : ByteArray) (sq c by_ : Int) (w : World) :
  Calls Tryz.prog 101 #[.agg #[.int .i64 i, .string q, .string b, .int .i64 sq, .int .i64 c, .int .i64 by_]] w fun e w' => e = .returned (.tuple #[.int .i64 (standsM ⟨i, q.data.toList, b.data.toList, sq, c, by_⟩).1, .int .i64 (standsM ⟨i, q.data.toList, b.data.toList, sq, c, by_⟩).2]) /\ Tch No w w' := by
 by_cases h0 : by_ = 0
 ·have HD := Lib.hid (fun W => odead_any i q b sq c 0 W)
  have HE : Hid (standsM ⟨i, q.data.toList, b.data.toList, sq, c, by_⟩ = if 3 <= c then (3, 0) else (1, 0)) := by rw [Hid, standsM, if_pos h0]
  rw [HE.out]
  subst h0
  clear HE
  by_cases h1 : 3 <= c
  ·rw [if_pos h1]
   simp only [h1, decide_true, Bool.and_self] at HD
   clear h1
   go_enter Tryz.func101, Tryz.ntmps101
   go_wp2_with fail
   refine (HD.out _).mono ?_
   rintro e w1 ⟨rfl, T1⟩
   go_wp2_with fail
   refine bodyPost_ret (v := .tuple #[.int .i64 3, .int .i64 0]) (by simp [results, Tryz.results101, go_sem]) rfl ?_
   exact ⟨rfl, (Tch.alloc _ _).trans0 T1⟩
  ·rw [if_neg h1]
   simp only [h1, decide_false, Bool.and_false] at HD
   clear h1
   go_enter Tryz.func101, Tryz.ntmps101
   go_wp2_with fail
   refine (HD.out _).mono ?_
   rintro e w1 ⟨rfl, T1⟩
   go_wp2_with fail
   refine bodyPost_ret (v := .tuple #[.int .i64 1, .int .i64 0]) (by simp [results, Tryz.results101, go_sem]) rfl ?_
   exact ⟨rfl, (Tch.alloc _ _).trans0 T1⟩
 ·have hb : (by_ != 0) = true := by simp [h0]
  rw [show standsM ⟨i, q.data.toList, b.data.toList, sq, c, by_⟩ = (2, by_) from by rw [standsM, if_neg h0]]
  go_enter Tryz.func101, Tryz.ntmps101
  have e5 := fun p => pbox_cell w #[.int .i64 i, .string q, .string b, .int .i64 sq, .int .i64 c, .int .i64 by_] 50 (0, 0) 5 (.int .i64 by_) rfl p
  go_wp2_with fail
  refine wp_region_qt (by kernel_rfl) (by kernel_rfl) ?_
  repeat (go_big_quiet_step (fail))
  with_reducible refine wpQuiet_nil ?_
  rintro _ ⟨pq, rfl⟩
  go_wp2_with fail
  refine bodyPost_ret (v := .tuple #[.int .i64 2, .int .i64 by_]) (by simp [results, Tryz.results101, go_sem]) rfl ?_
  exact ⟨rfl, (Tch.alloc _ _).trans0 pq.t⟩
theorem wall_idx (l : List MsgM) (v : Value) (w : World) (h : CellsAt w v l.length 6 (l.flatMap encMsg)) (b : Nat) (id : Int) (hc : w.cell? ⟨b, 0, none⟩ = some (.int .i64 id)) :
  Calls Tryz.prog 99 #[v, .func (.func 100) #[] #[.pointer (some ⟨b, 0, none⟩)]] w fun e w' => e = .returned (.int .i64 (atI (fun m : MsgM => m.id) l id)) /\ Tch No w w' := by
 have he : ∀ x, (encMsg x).length = 6 := fun _ => rfl
 have hcs : ∀ i (hi : i < l.length), (l.flatMap encMsg)[i * 6 + 0]? = some (.int .i64 (l[i].id)) /\ (l.flatMap encMsg)[i * 6 + 1]? = some (.string ⟨(l[i].q).toArray⟩) /\ (l.flatMap encMsg)[i * 6 + 2]? = some (.string ⟨(l[i].b).toArray⟩) /\ (l.flatMap encMsg)[i * 6 + 3]? = some (.int .i64 (l[i].seq)) /\ (l.flatMap encMsg)[i * 6 + 4]? = some (.int .i64 (l[i].cnt)) /\ (l.flatMap encMsg)[i * 6 + 5]? = some (.int .i64 (l[i].who)) := fun i hi =>
  ⟨flat_get encMsg 6 he l i 0 hi (by decide), flat_get encMsg 6 he l i 1 hi (by decide), flat_get encMsg 6 he l i 2 hi (by decide), flat_get encMsg 6 he l i 3 hi (by decide), flat_get encMsg 6 he l i 4 hi (by decide), flat_get encMsg 6 he l i 5 hi (by decide)⟩
 have hI := idx_msg 100 #[.pointer (some ⟨b, 0, none⟩)] (enters_of Tryz.func100 rfl rfl) (fun i => if h : i < l.length then l[i].id == id else false) (fun i => if h : i < l.length then l[i].id else 0) (fun i => if h : i < l.length then ⟨(l[i].q).toArray⟩ else ⟨#[]⟩) (fun i => if h : i < l.length then ⟨(l[i].b).toArray⟩ else ⟨#[]⟩) (fun i => if h : i < l.length then l[i].seq else 0) (fun i => if h : i < l.length then l[i].cnt else 0) (fun i => if h : i < l.length then l[i].who else 0) _ l.length v w h (fun i hi => by
   simp only [dif_pos hi]
   exact hcs i hi) (fun k hk W t => by
   simp only [dif_pos hk]
   exact wall1_any l[k] b id W (t.cell hc (fun h => h)))
 refine hI.mono ?_
 rintro e w1 ⟨⟨r, rfl, hr⟩, t1⟩
 refine ⟨?_, t1⟩
 rcases hr with ⟨rfl, h0⟩ | ⟨k, hk, rfl, h1, h2⟩
 ·rw [atI_miss (fun i hi => by
   have := h0 i hi
   simp only [dif_pos hi] at this
   simpa using this)]
 ·simp only [dif_pos hk] at h1
  rw [atI_hit hk (by simpa using h1) (fun i hi hik => by
   have := h2 i hik
   simp only [dif_pos hi] at this
   simpa using this)]
end
section
open Go.RowKit Go.Maps
theorem px_sz (w : World) : (Go.sizeOf 61).run Tryz.prog w = .ok 3 w := by
 have h : (Tryz.prog.info? 61).map (·.size) = some 3 := by kernel_rfl
 rw [Option.map_eq_some_iff] at h
 obtain ⟨i, h1, h2⟩ := h
 simp [sizeOf, typeInfo, h1, h2]
theorem px_ag (w : World) : (isAgg 61).run Tryz.prog w = .ok true w := by
 unfold isAgg
 rw [Sem.run_bind, run_underlying Tryz.underlying61 w]
 rfl
def plV (p : PlM) : Array Value := #[.int .i64 p.id, .int .i64 p.how, .int .i64 p.tx]
def PX (b : Nat) (p : PlM) (w : World) : Prop := w.heap[b]? = some (.cells (plV p) 61 (0, 0))
variable {b : Nat} {p : PlM} {w : World} {a : Act} {K : Act -> World -> Prop} {Q : Exit -> Act -> World -> Prop} {o : Oper} {ops : Array Oper} {rest : List Oper} {k : Nat} {ty : TypeId} {pos : String} {af : Array Edge} {v : Value}
theorem PX.keep {w' : World} (h : PX b p w) (t : Tch No w w') : PX b p w' := blk_tch t h (fun h => h)
theorem PX.cell (h : PX b p w) (j : Nat) {v : Value} (hv : (plV p)[j]? = some v) : w.cell? ⟨b, j, none⟩ = some v := (blk_cell h j).trans hv
theorem PX.load (h : PX b p w) {A : Array Value} {d : Nat} (hA : plV p = A) (ha : a.eval (.tmp k) = .pointer (some ⟨b, 0, none⟩)) (hK : wpList Tryz.prog ops Q rest (a.put (some d) (.agg A)) w) :
  wpList Tryz.prog ops Q (⟨some d, .load 61 (.tmp k), ty, pos, af, none⟩ :: rest) a w := by
 subst hA
 refine wpList_plain rfl fun K hK2 => ?_
 have hl := run_loadCells_list (P := Tryz.prog) w ⟨b, 0, none⟩ (plV p).toList (fun j x hx => by have h3 := blk_cell h j; have e : (⟨b, 0, none⟩ : Addr).add j = ⟨b, j, none⟩ := (by unfold Addr.add; split <;> simp_all); rw [e, h3]; simpa using hx)
 have hlen : (plV p).toList.length = 3 := rfl
 rw [hlen] at hl
 unfold Oper.wp execOp
 simp only [ha]
 simp [Instr.loadAt, Instr.sureAddr, loadVar, Sem.run_bind, px_ag, px_sz, hl]
 exact hK2 _ _ hK
theorem PX.new {w2 : World} {Z : Array Value} {j : Nat} (hb : w2.heap.size = b) (hZ : Z.size = 3)
  (ha : a.eval (.tmp k) = .pointer (some ⟨b, 0, none⟩)) (hv : a.eval (.tmp j) = .agg (plV p)) (hK : ∀ wz, Hid (PX b p wz) -> Hid (Tch No w2 wz) -> wpList Tryz.prog ops Q rest a wz) :
  wpList Tryz.prog ops Q (⟨none, .store 61 (.tmp k) (.tmp j), ty, pos, af, none⟩ :: rest) a (w2.alloc (.cells Z 61 (0, 0))) := by
 have ta := Tch.alloc w2 (.cells Z 61 (0, 0))
 have h2 : (w2.alloc (.cells Z 61 (0, 0))).heap[b]? = some (.cells Z 61 (0, 0)) := by rw [<- hb]; exact blk_new _ _
 obtain ⟨w7, hw7⟩ : ∃ x, w2.alloc (.cells Z 61 (0, 0)) = x := ⟨_, rfl⟩
 rw [hw7] at ta h2 ⊢
 refine wpList_plain rfl fun K hK2 => ?_
 obtain ⟨l, hl⟩ : ∃ l : List Value, (plV p).toList = l := ⟨_, rfl⟩
 have hl3 : l.length = 3 := by rw [<- hl]; rfl
 have hone : ∀ u ∈ l, u.oneCell' = true := by
  rw [<- hl]
  intro u hu
  simp only [plV, List.mem_cons, List.not_mem_nil, or_false] at hu
  rcases hu with rfl | rfl | rfl <;> rfl
 have hst := run_storeCells_cells (P := Tryz.prog) b 0 l 0 w7 (by intro j hj; rw [Nat.zero_add, blk_cell h2 j]; simp; omega) (by intro j hj; exact blk_free h2 _) hone
 obtain ⟨cur, g1, g2, g3⟩ := blk_sets l 0 w7 Z h2 (by omega)
 have hcur : cur = plV p := by
  apply Array.ext_getElem?
  intro i
  rw [g3 i]
  simp only [Nat.zero_le, Nat.zero_add, Nat.sub_zero, true_and]
  split
  ·rw [<- hl, Array.getElem?_toList]
  ·rw [Array.getElem?_eq_none (by omega), Array.getElem?_eq_none (by rw [show (plV p).size = 3 from rfl]; omega)]
 have hv2 : a.eval (.tmp j) = .agg l.toArray := by rw [hv, <- hl]
 have hex : (execOp a.eval ⟨none, .store 61 (.tmp k) (.tmp j), ty, pos, af, none⟩).run Tryz.prog w7 = .ok .skip (w7.setCells b 0 l) := by
  unfold execOp
  simp [ha, hv2, Value.cells, Instr.storeAt, Instr.sureAddr, storeVar, Sem.run_bind, px_sz, hl3, hst]
 unfold Oper.wp
 rw [hex]
 exact hK2 _ _ (hK _ (by rw [Hid, PX, g1, hcur]) (ta.fresh (Tch.setCells (F := fun k => k = b) rfl l 0 w7) (fun i e => by rw [e, <- hb]; exact Nat.le_refl _)))
theorem PX.st1 (h : PX b p w) (x : Int) {y : Operand} (ha : a.eval (.tmp k) = .pointer (some ⟨b, 1, none⟩)) (hy : a.eval y = (.int .i64 x))
  (hK : ∀ wz, Hid (PX b { p with how := x } wz) -> Hid (Tch (fun q => q = b) w wz) -> wpList Tryz.prog ops Q rest a wz) :
  wpList Tryz.prog ops Q (⟨none, .store 3 (.tmp k) y, ty, pos, af, none⟩ :: rest) a w :=
 wpList_plain rfl fun K hK2 => w_stint (.tmp k) y rfl rfl ha hy rfl ((blk_cell h 1).trans rfl) (blk_free h 1) (fun z => hK2 _ _ (hK _ (blk_set h 1 _) (Tch.setCell (F := fun q => q = b) _ _ _ (fun _ => rfl))))
theorem PX.st2 (h : PX b p w) (x : Int) {y : Operand} (ha : a.eval (.tmp k) = .pointer (some ⟨b, 2, none⟩)) (hy : a.eval y = (.int .i64 x))
  (hK : ∀ wz, Hid (PX b { p with tx := x } wz) -> Hid (Tch (fun q => q = b) w wz) -> wpList Tryz.prog ops Q rest a wz) :
  wpList Tryz.prog ops Q (⟨none, .store 2 (.tmp k) y, ty, pos, af, none⟩ :: rest) a w :=
 wpList_plain rfl fun K hK2 => w_stint64 (.tmp k) y rfl rfl ha hy rfl ((blk_cell h 2).trans rfl) (blk_free h 2) (fun z => hK2 _ _ (hK _ (blk_set h 2 _) (Tch.setCell (F := fun q => q = b) _ _ _ (fun _ => rfl))))
end
section
open Go.RowKit Go.Maps
theorem ones_pl (l : List PlM) : Ones (l.flatMap encPl) := ones_flat (fun x u hu => by
 simp only [encPl, List.mem_cons, List.not_mem_nil, or_false] at hu
 rcases hu with rfl | rfl | rfl <;> rfl) _
theorem ones_pl1 (a b c : Int) : Ones [.int .i64 a, .int .i64 b, .int .i64 c] := ones_pl [⟨a, b, c⟩]
theorem wall_any (s : StM) (hb : I64 s.broker) (hn : I64 s.nid) (v : Value) (w : World) (h : IsSt w v s) :
  Calls Tryz.prog 33 #[v] w fun e w' => ∃ v', e = .returned v' /\ CellsAt w' v' (allM s).length 3 ((allM s).flatMap encPl) /\ Tch No w w' := by
 obtain ⟨am, cm, aw, cw, ae, ce, ao, co, an, cn, rfl, hms, hws, hes, hos, hns⟩ := h.shape
 simp only [stV]
 have HMS := Lib.hid hms
 clear hms hws hes hos hns h
 have HALL := Lib.hid (rfl : allM s = allM s)
 obtain ⟨L, hL⟩ : ∃ L, allM s = L := ⟨_, rfl⟩
 rw [hL] at HALL ⊢
 have HL := Lib.hid hL
 clear hL HALL
 obtain ⟨bk, ni, ns, tx, ms, ws, es, os, nos⟩ := s
 simp only at hb hn HMS HL ⊢
 obtain ⟨nm, hnm⟩ : ∃ n, ms.length = n := ⟨_, rfl⟩
 have HNM := Lib.hid hnm
 rw [hnm] at HMS ⊢
 generalize ws.length = nw
 generalize es.length = ne
 generalize os.length = no
 generalize nos.length = nn
 have HBK := Lib.hid hb
 have hn2 := hn
 unfold I64 at hn2
 have HNI := Lib.hid hn
 obtain ⟨b1, hb1⟩ : ∃ x, w.heap.size = x := ⟨_, rfl⟩
 obtain ⟨w1, hw1⟩ : ∃ x, w.alloc (.cells #[.int .i64 bk, .int .i64 ni, .int .i64 ns, .int .i64 tx, .slice am nm cm, .slice aw nw cw, .slice ae ne ce, .slice ao no co, .slice an nn cn] 29 (0, 0)) = x := ⟨_, rfl⟩
 have TW1 : Hid (Tch No w w1) := by rw [<- hw1]; exact Tch.alloc _ _
 have HB1 : Hid (w1.heap[b1]? = some (.cells #[.int .i64 bk, .int .i64 ni, .int .i64 ns, .int .i64 tx, .slice am nm cm, .slice aw nw cw, .slice ae ne ce, .slice ao no co, .slice an nn cn] 29 (0, 0))) := by rw [<- hw1, <- hb1]; exact blk_new _ _
 have x1 : w1.cell? ⟨b1, 1, none⟩ = some (.int .i64 ni) := (blk_cell HB1.out 1).trans rfl
 clear hb hn hnm
 go_enter Tryz.func33, Tryz.ntmps33
 by_cases hbig : 10000 < ni
 ·have HE : Hid (L = []) := by rw [Hid, <- HL.out, allM, if_pos hbig]
  go_wp2_with fail
  go_ret
  refine ⟨_, rfl, ?_, TW1.out⟩
  rw [HE.out]
  exact CellsAt.nil _ _
 ·obtain ⟨N, hN⟩ : ∃ N, (ni - 1).toNat = N := ⟨_, rfl⟩
  have HE : Hid (L = allPl bk ms N) := by rw [Hid, <- HL.out, allM, if_neg hbig, hN]
  have HN : Hid (N <= 9999) := by rw [Hid]; omega
  go_wp2_with fail
  clear x1 hw1 hb1
  go_loopg [3, 4] N (fun kx s3 s4 wr => ∃ j : Nat, s4 = .int .i64 ((j : Int) + 1) /\ j <= N /\ N - j <= kx /\ Hid (OwnN w1 61 3 (allPl bk ms j).length ((allPl bk ms j).flatMap encPl) s3 wr) /\ Hid (Tch No w1 wr))
  case atStart => exact ⟨0, rfl, Nat.zero_le _, by omega, ⟨own_nil _ _ _, fun b hb => by simp [Value.ownBlock] at hb⟩, Tch.refl _ _⟩
  case round =>
   obtain ⟨j, rfl, hj, hgj, HOW, TW⟩ := hrel
   have x1 := TW.out.cell ((blk_cell HB1.out 1).trans rfl : w1.cell? ⟨b1, 1, none⟩ = some (.int .i64 ni)) (fun h => h)
   have x0 := TW.out.cell ((blk_cell HB1.out 0).trans rfl : w1.cell? ⟨b1, 0, none⟩ = some (.int .i64 bk)) (fun h => h)
   by_cases hlt : j < N
   ·obtain ⟨id, hid⟩ : ∃ x, makeM bk ((j : Int) + 1) = x := ⟨_, rfl⟩
    have HID := Lib.hid hid
    have HMK : Hid (∀ W, Calls Tryz.prog 98 #[.int .i64 bk, .int .i64 ((j : Int) + 1)] W fun e w' => e = .returned (.int .i64 id) /\ W = w') := fun W => by
     rw [<- hid]
     exact kmake_any _ _ HBK.out (by unfold I64; omega) W
    clear hid
    have HLE : Hid ((allPl bk ms j).length <= 9999) := by rw [Hid, allPl_len]; omega
    go_wp2_with fail
    refine (HMK.out _).mono ?_
    rintro e _ ⟨rfl, rfl⟩
    go_upto_region 8 with (refine PX.new (p := ⟨id, 4, 0⟩) rfl rfl rfl rfl ?_; intro w5 HB5 T5)
    obtain ⟨b5, hb5⟩ : ∃ x, wr.heap.size = x := ⟨_, rfl⟩
    rw [hb5] at HB5 ⊢
    have x4 := (TW.out.trans0 T5.out).cell ((blk_cell HB1.out 4).trans rfl : w1.cell? ⟨b1, 4, none⟩ = some (.slice am nm cm)) (fun h => h)
    obtain ⟨ai, hai⟩ : ∃ x, atI (fun m : MsgM => m.id) ms id = x := ⟨_, rfl⟩
    have HAI := Lib.hid hai
    have HIX : Hid (Calls Tryz.prog 99 #[.slice am nm cm, .func (.func 100) #[] #[.pointer (some ⟨b5, 0, none⟩)]] w5 fun e w' => e = .returned (.int .i64 ai) /\ Tch No w5 w') := by
     have h1 := HMS.out.keep (TW1.out.trans0 (TW.out.trans0 T5.out))
     have h2 := wall_idx ms _ w5 h1 b5 id (HB5.out.cell 0 rfl)
     rw [hai] at h2
     exact h2
    have HNI5 : Hid (b5 < w5.heap.size /\ wr.heap.size = b5) := ⟨blk_lt HB5.out, hb5⟩
    clear hai hb5 x0 x1
    rcases atI_cases (fun m : MsgM => m.id) ms id with ⟨_, hmiss⟩ | ⟨k, hk, hhit, hke, _, hkb⟩
    ·have hneg : ai = -1 := by rw [<- HAI.out]; exact hmiss
     have HP : Hid (placeM ms id = ⟨id, 4, 0⟩) := place_miss (fun i hi e => by
      have h1 := atI_has (fun m : MsgM => m.id) ms id
      rw [hmiss, hasP_iff.2 ⟨ms[i], List.getElem_mem _, e⟩] at h1
      simp at h1)
     subst hneg
     clear hmiss
     go_wp2_with fail
     refine HIX.out.mono ?_
     rintro e w6 ⟨rfl, t6⟩
     have T6 : Hid (Tch No wr w6) := T5.out.trans0 t6
     have HB6 := Lib.hid (HB5.out.keep t6)
     have HAP : Hid (∀ W, Tch No wr W -> OwnN w1 61 3 (allPl bk ms j).length ((allPl bk ms j).flatMap encPl) u3 W) := fun W t => stb_own _ _ _ t HOW.out
     go_wp2_with (first | (refine PX.load (A := #[.int .i64 id, .int .i64 4, .int .i64 0]) HB6.out rfl rfl ?_) | (at_builtin; refine wpList_appE eltPl _ rfl _ _ rfl _ _ _ rfl (HAP.out _ (T6.out.trans0 (Tch.alloc _ _))).1 _ 1 _ rfl (cells_lit2 (by simp) _ _ 3 _ rfl rfl) (ones_pl1 _ _ _) (by have := HLE.out; omega) ?_; rintro a' n' cap' w' HA hn'))
     go_roundg (N - (j + 1))
     case measure => omega
     case rel =>
      have hO := HA.on (TW.out.trans0 (T6.out.trans0 (Tch.alloc _ _))) HOW.out.2
      refine ⟨j + 1, by go_num, by omega, by omega, ⟨?_, hO.2⟩, hO.1⟩
      have hown := HA.own
      have hn2 : n' = (allPl bk ms j).length + 1 := hn'
      rw [allPl_succ, HID.out, HP.out, List.length_append, List.flatMap_append]
      subst hn2
      exact hown
    ·have hk2 : k < nm := by rw [<- HNM.out]; exact hk
     have hai2 : ai = (k : Int) := by rw [<- HAI.out]; exact hhit
     have HP : Hid (placeM ms id = ⟨id, (standsM ms[k]).1, (standsM ms[k]).2⟩) := place_hit hk hke hkb
     have hel : ∃ mb mo, am = some ⟨mb, mo, none⟩ /\ ∀ W, Tch No w W -> W.cell? ⟨mb, mo + k * 6, none⟩ = some (.int .i64 ms[k].id) /\ W.cell? ⟨mb, mo + k * 6 + 1, none⟩ = some (strV ms[k].q) /\ W.cell? ⟨mb, mo + k * 6 + 2, none⟩ = some (strV ms[k].b) /\ W.cell? ⟨mb, mo + k * 6 + 3, none⟩ = some (.int .i64 ms[k].seq) /\ W.cell? ⟨mb, mo + k * 6 + 4, none⟩ = some (.int .i64 ms[k].cnt) /\ W.cell? ⟨mb, mo + k * 6 + 5, none⟩ = some (.int .i64 ms[k].who) := by
      have hm : CellsAt w (.slice am nm cm) ms.length 6 (ms.flatMap encMsg) := HMS.out
      obtain ⟨mb, mo, cap2, h1, h2⟩ := CellsAt.elem (enc := encMsg) (m := 6) (fun _ => rfl) hm hk
      injection h1 with h1 _ _
      exact ⟨mb, mo, h1, fun W tw => ⟨tw.cell (h2 0 _ (by decide) rfl) (fun h => h), tw.cell (h2 1 _ (by decide) rfl) (fun h => h), tw.cell (h2 2 _ (by decide) rfl) (fun h => h), tw.cell (h2 3 _ (by decide) rfl) (fun h => h), tw.cell (h2 4 _ (by decide) rfl) (fun h => h), tw.cell (h2 5 _ (by decide) rfl) (fun h => h)⟩⟩
     obtain ⟨mb, mo, rfl, hel2⟩ := hel
     obtain ⟨m, hm⟩ : ∃ m, ms[k] = m := ⟨_, rfl⟩
     rw [hm] at HP hel2
     have HST0 := fun W => wstands_any m.id ⟨m.q.toArray⟩ ⟨m.b.toArray⟩ m.seq m.cnt m.who W
     have hmm : (⟨m.id, (⟨m.q.toArray⟩ : ByteArray).data.toList, (⟨m.b.toArray⟩ : ByteArray).data.toList, m.seq, m.cnt, m.who⟩ : MsgM) = m := by cases m; simp
     rw [hmm] at HST0
     obtain ⟨h9, hh9⟩ : ∃ x, (standsM m).1 = x := ⟨_, rfl⟩
     obtain ⟨t9, ht9⟩ : ∃ x, (standsM m).2 = x := ⟨_, rfl⟩
     rw [hh9, ht9] at HST0 HP
     clear hh9 ht9 hmm hm hke hkb hhit
     obtain ⟨x0, x1, x2, x3, x5, x6⟩ := m
     simp only [strV] at HST0 hel2
     obtain ⟨q1, hq1⟩ : ∃ q : ByteArray, (⟨x1.toArray⟩ : ByteArray) = q := ⟨_, rfl⟩
     obtain ⟨q2, hq2⟩ : ∃ q : ByteArray, (⟨x2.toArray⟩ : ByteArray) = q := ⟨_, rfl⟩
     rw [hq1, hq2] at HST0 hel2
     have HST := Lib.hid HST0
     have HEL := Lib.hid hel2
     clear HST0 hel2 hq1 hq2 hk
     subst hai2
     go_wp2_with fail
     refine HIX.out.mono ?_
     rintro e w6 ⟨rfl, t6⟩
     have T6 : Hid (Tch No wr w6) := T5.out.trans0 t6
     have HB6 := Lib.hid (HB5.out.keep t6)
     obtain ⟨y0, y1, y2, y3, y4, y5⟩ := HEL.out w6 (TW1.out.trans0 (TW.out.trans0 T6.out))
     have x4' := t6.cell x4 (fun h => h)
     clear x4 t6
     go_wp2_with fail
     refine (HST.out _).mono ?_
     rintro e w7 ⟨rfl, t7⟩
     have T7 : Hid (Tch No wr w7) := T6.out.trans0 t7
     have HB7 := Lib.hid (HB6.out.keep t7)
     clear y0 y1 y2 y3 y4 y5 x4' t7
     have HAP : Hid (∀ W, Tch No wr W -> OwnN w1 61 3 (allPl bk ms j).length ((allPl bk ms j).flatMap encPl) u3 W) := fun W t => stb_own _ _ _ t HOW.out
     go_wp2_with (first | (refine PX.st1 HB7.out h9 rfl rfl ?_; intro w8 HB8 S8) | (refine PX.st2 HB8.out t9 rfl rfl ?_; intro w9 HB9 S9; have T9 : Hid (Tch No wr w9) := T7.out.fresh (S8.out.trans S9.out (fun _ _ e => e)) (fun i e => by rw [e, HNI5.out.2]; exact Nat.le_refl _)) | (refine PX.load (A := #[.int .i64 id, .int .i64 h9, .int .i64 t9]) HB9.out rfl rfl ?_) | (at_builtin; refine wpList_appE eltPl _ rfl _ _ rfl _ _ _ rfl (HAP.out _ (T9.out.trans0 (Tch.alloc _ _))).1 _ 1 _ rfl (cells_lit2 (by simp) _ _ 3 _ rfl rfl) (ones_pl1 _ _ _) (by have := HLE.out; omega) ?_; rintro a' n' cap' w' HA hn'))
     go_roundg (N - (j + 1))
     case measure => omega
     case rel =>
      have hO := HA.on (TW.out.trans0 (T9.out.trans0 (Tch.alloc _ _))) HOW.out.2
      refine ⟨j + 1, by go_num, by omega, by omega, ⟨?_, hO.2⟩, hO.1⟩
      have hown := HA.own
      have hn2 : n' = (allPl bk ms j).length + 1 := hn'
      rw [allPl_succ, HID.out, HP.out, List.length_append, List.flatMap_append]
      subst hn2
      exact hown
   ·obtain rfl : j = N := by omega
    go_wp2_with fail
    go_ret
    refine ⟨_, rfl, ?_, TW1.out.trans0 TW.out⟩
    rw [HE.out]
    exact CellsAt.ofRow HOW.out.1
end
end Go.Proofs.YtafndmnbnmlklaaGreat
