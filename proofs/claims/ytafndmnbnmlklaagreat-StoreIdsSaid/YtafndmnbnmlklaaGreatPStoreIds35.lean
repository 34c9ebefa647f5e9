/- Part 35 of what the proof of StoreIds rests on. No condition. -/
import Derived.Test.YtafndmnbnmlklaaGreatPStoreIds10
import Derived.Test.YtafndmnbnmlklaaGreatPStoreIds12
import Derived.Test.YtafndmnbnmlklaaGreatPStoreIds34
namespace Go.Proofs.YtafndmnbnmlklaaGreat
set_option maxRecDepth 100000
set_option maxHeartbeats 60000000
set_option linter.unusedVariables false
set_option linter.unusedSimpArgs false
set_option linter.unusedSectionVars false
namespace Ev
open Go Go.RowKit Go.Maps
structure InsK (P : Program) (f : FuncId) (el : TypeId) : Prop where
 shift : ∀ (n i c : Nat) (cs : List Value) (vb : Nat) (nb : Array Value) (w : World) (g : Nat) (cur : Array Value), i < n -> n + 1 <= c -> c <= maxLen -> n <= 10000000 -> w.heap[g]? = some (.cells cur el (0, 0)) -> cur.size = c * 2 -> cs.length = n * 2 -> (∀ t, t < n * 2 -> cur[t]? = cs[t]?) -> Ones cs ->
  w.heap[vb]? = some (.cells nb el (0, 0)) -> nb.size = 2 -> Ones nb.toList -> vb ≠ g ->
  Calls P f #[.slice (some ⟨g, 0, none⟩) n c, .int .i64 i, .slice (some ⟨vb, 0, none⟩) 1 1] w fun e w' => e = .returned (.slice (some ⟨g, 0, none⟩) (n + 1) c) /\ w' = (w.drew.setCells g ((i + 1) * 2) (cs.drop (i * 2))).setCells g (i * 2) nb.toList
 grow : ∀ (n i c : Nat) (cs : List Value) (vb : Nat) (nb : Array Value) (w : World) (g : Nat), i < n -> n <= c -> c < n + 1 -> n <= 10000000 -> cs.length = n * 2 -> (∀ t x, cs[t]? = some x -> w.cell? ⟨g, t, none⟩ = some x) -> Ones cs ->
  w.heap[vb]? = some (.cells nb el (0, 0)) -> nb.size = 2 -> Ones nb.toList ->
  Calls P f #[.slice (some ⟨g, 0, none⟩) n c, .int .i64 i, .slice (some ⟨vb, 0, none⟩) 1 1] w fun e w' => ∃ G cur', e = .returned (.slice (some ⟨w.heap.size, 0, none⟩) (n + 1) G) /\ w'.heap[w.heap.size]? = some (.cells cur' el (0, 0)) /\ cur'.size = G * 2 /\ n + 1 <= G /\ G <= maxLen /\
   (∀ t, t < (n + 1) * 2 -> cur'[t]? = (cs.take (i * 2) ++ nb.toList ++ cs.drop (i * 2))[t]?) /\ Tch No w w'
 body : ∃ fn, P.funcs[f]? = some fn /\ fn.body.isSome = true
def insOut (el : TypeId) (len k : Nat) (a b : AO) : Option AO := if k < len /\ len <= 1000000 /\ a.fz = false /\ a.ty = el /\ len * 2 <= a.cs.length /\ b.fz = false /\ b.ty = el /\ b.opn = false /\ b.cs.length = 2 then some ⟨el, (a.cs.take (len * 2)).take (k * 2) ++ b.cs ++ (a.cs.take (len * 2)).drop (k * 2), true, .ok⟩ else none
def insOrc (fid : FuncId) (el : TypeId) (orc : Orc) : Orc := fun f args H n => if f = fid then
  match args with
  | [.v (.c (.sl i 0 len (.op 2))), .v (.c (.int .i64 (.ofNat k))), .v (.c (.sl j 0 1 (.ex 1)))] => match hg H i, hg H j with
   | some a, some b => if i ≠ j /\ i < n then (match insOut el len k a b with
    | some o => (Ef.apT n H (.mv (one i ||| one j) i o)).map fun H' => (.v (.c (.sl n 0 (len + 1) (.op 2))), H', n + 1, one i ||| one j, one i)
    | none => none) else none
   | _, _ => none
  | _ => orc f args H n
 else orc f args H n
theorem insOrc_ok {P : Program} {fid : FuncId} {el : TypeId} {orc : Orc} (hi : InsK P fid el) (ho : OrcOK P orc) : OrcOK P (insOrc fid el orc) := by
 refine ⟨fun f args H n s H' n' F W h => ?_, fun f args H n r h => ?_⟩
 ·unfold insOrc at h
  split at h
  ·rename_i hf
   subst hf
   split at h
   ·rename_i i len k j
    split at h
    ·rename_i a b ha hb
     split at h
     ·rename_i hij
      split at h
      ·rename_i o hout
       rw [Option.map_eq_some_iff] at h
       obtain ⟨H1, h1, h2⟩ := h
       simp only [Prod.mk.injEq] at h2
       obtain ⟨rfl, rfl, rfl, rfl, rfl⟩ := h2
       rw [apT_ok h1]
       have hFi : tb (one i ||| one j) i = true := by rw [tb_or, tb_one]; rfl
       have hFj : tb (one i ||| one j) j = true := by rw [tb_or, tb_one, Bool.or_true]
       refine ⟨inv_ef (e := .mv (one i ||| one j) i o) (by simp [Ef.chk, ha, hFi, hij.2]), fun σ D w vals hargs hs hdom hD => ?_⟩
       unfold insOut at hout
       split at hout
       ·rename_i hc
        cases hout
        obtain ⟨hkl, hl1, hfa, hta, hla, hfb, htb, hob, hlb⟩ := hc
        match vals, hargs with
        | [v1, v2, v3], ⟨r1, r2, r3, _⟩ =>
         obtain ⟨hDi, c, e1, hlc, hcm, hct⟩ := r1
         rw [Nat.zero_add] at hct
         have e2 : v2 = .int .i64 (k : Int) := r2
         obtain ⟨hDj, e3⟩ := r3
         subst e1; subst e2; subst e3
         have hDn : ¬ D n := hD n (Nat.le_refl _) (Nat.lt_succ_self n)
         obtain ⟨_, hOa⟩ := obj_of hs hFi ha
         obtain ⟨_, hOb⟩ := obj_of hs hFj hb
         obtain ⟨ca, fa, a1, a0, a2, a3, a4, a5⟩ := hOa.ok hfa
         obtain ⟨cb, fb, b1, b0, b2, b3, b4, b5⟩ := hOb.ok hfb
         have := a0 hfa; subst this
         have := b0 hfb; subst this
         subst hta
         rw [htb] at b1
         have hA := (cells_of (i := i) a5 (by omega)).take (len * 2)
         have hB := cells_of (i := j) b5 (by omega)
         rw [List.take_take, Nat.min_eq_left hla] at hA
         have hcbs : cb.size = 2 := by rw [b2, <- b4 hob, hlb]
         have hBt : cb.toList.take b.cs.length = cb.toList := by rw [hlb]; apply List.take_of_length_le; simp [hcbs]
         rw [hBt] at hB
         have hne : (σ j).b ≠ (σ i).b := fun e => hij.1 (hs.inj i j (some_of (rst_some.2 ⟨hFi, ha⟩)) (some_of (rst_some.2 ⟨hFj, hb⟩)) e.symm)
         have hl : (ca.toList.take (len * 2)).length = len * 2 := by simp; omega
         have hcells : ∀ t, t < len * 2 -> ca[t]? = (ca.toList.take (len * 2))[t]? := fun t ht => by rw [List.getElem?_take, if_pos ht, Array.getElem?_toList]
         have hnew := ((hA.take (k * 2)).append hB).append (hA.drop (k * 2))
         have hnl : ((ca.toList.take (len * 2)).take (k * 2) ++ cb.toList ++ (ca.toList.take (len * 2)).drop (k * 2)).length = (len + 1) * 2 := by
          simp only [List.length_append, List.length_take, List.length_drop, hl, Array.length_toList, hcbs]; omega
         -- what is left to be shown, wherever the row lies
         have fin : ∀ (g c' : Nat) (cur' : Array Value) (w' : World), w'.heap[g]? = some (.cells cur' a.ty (0, 0)) -> cur'.size = c' * 2 -> len + 1 <= c' -> c' <= maxLen -> (∀ t, t < (len + 1) * 2 -> cur'[t]? = ((ca.toList.take (len * 2)).take (k * 2) ++ cb.toList ++ (ca.toList.take (len * 2)).drop (k * 2))[t]?) -> Tch (fun q => q = (σ i).b) w w' -> (w.heap.size <= g ∨ g = (σ i).b) ->
           ∃ v σ', Ending.returned (.slice (some ⟨g, 0, none⟩) (len + 1) c') = .returned v /\ RS σ' (more D n (n + 1)) (.v (.c (.sl n 0 (len + 1) (.op 2)))) v /\ Out σ D w (rst (tb (one i ||| one j)) (hg H)) (aft (tb (one i ||| one j)) n (n + 1) ((Ef.mv (one i ||| one j) i ⟨a.ty, (a.cs.take (len * 2)).take (k * 2) ++ b.cs ++ (a.cs.take (len * 2)).drop (k * 2), true, .ok⟩).ap n (hg H))) n (n + 1) (tb (one i)) σ' w' := by
          intro g c' cur' w' g1 g2 g3 g4 g5 g6 g7
          have hsm : ∀ q, D q -> at_ σ n ⟨g, cur'.size⟩ q = σ q := fun q hq => at_other (fun e => by subst e; exact hDn hq)
          refine ⟨_, at_ σ n ⟨g, cur'.size⟩, rfl, ⟨.inr ⟨Nat.le_refl _, Nat.lt_succ_self _⟩, c', by rw [at_same]; rfl, g3, g4, by rw [at_same, Nat.zero_add]; exact g2.symm⟩, ?_⟩
          have hO := out_mv (F := one i ||| one j) (i := i) (k := ⟨g, cur'.size⟩) (ob := ⟨a.ty, (a.cs.take (len * 2)).take (k * 2) ++ b.cs ++ (a.cs.take (len * 2)).drop (k * 2), true, .ok⟩) (w' := w') hs hDn hFi (by rw [ha]; rfl) g6 g7 ?_
          ·rw [Ef.W_eq] at hO; exact hO
          ·have hnew' := RL.ext (D' := more D n (n + 1)) hnew hsm (fun _ h => .inl h)
           have hll := hnew'.length
           refine ⟨cur', (0, 0), by rw [at_same]; exact g1, fun _ => rfl, by rw [at_same], ?_, (fun h => by cases h), fun q cc e => ?_⟩
           ·rw [at_same]; simp only; rw [<- hll, hnl, g2]; exact Nat.mul_le_mul_right _ g3
           ·obtain ⟨v, v1, v2⟩ := hnew'.get e
            have hlt := (List.getElem?_eq_some_iff.1 v1).1
            exact ⟨v, by rw [g5 q (by omega)]; exact v1, v2⟩
         by_cases hroom : len + 1 <= c
         ·refine (hi.shift len k c (ca.toList.take (len * 2)) (σ j).b cb w (σ i).b ca hkl hroom hcm (by omega) a1 (by omega) hl hcells hA.ones b1 hcbs hB.ones hne).mono ?_
          rintro e w' ⟨rfl, rfl⟩
          obtain ⟨c1, d1, d2, d3⟩ := blk_sets ((ca.toList.take (len * 2)).drop (k * 2)) ((k + 1) * 2) w.drew ca a1 (by rw [List.length_drop, hl]; omega)
          obtain ⟨c2, f1, f2, f3⟩ := blk_sets cb.toList (k * 2) _ c1 d1 (by rw [d2, Array.length_toList, hcbs]; omega)
          refine fin _ c c2 _ f1 (by omega) hroom hcm (fun t ht => ?_) ?_ (.inr rfl)
          ·rw [f3 t]
           by_cases q1 : t < k * 2
           ·rw [if_neg (by omega), d3 t, if_neg (by omega), hcells t (by omega), List.append_assoc, List.getElem?_append_left (by rw [List.length_take, hl]; omega)]
            conv => rhs; rw [List.getElem?_take, if_pos q1]
           ·by_cases q2 : t < (k + 1) * 2
            ·rw [if_pos ⟨by omega, by rw [Array.length_toList, hcbs]; omega⟩, List.getElem?_append_left (by rw [List.length_append, List.length_take, hl, Array.length_toList, hcbs]; omega), List.getElem?_append_right (by rw [List.length_take, hl]; omega), List.length_take, hl, Nat.min_eq_left (by omega)]
            ·rw [if_neg (by rw [Array.length_toList, hcbs]; omega), d3 t, if_pos ⟨by omega, by rw [List.length_drop, hl]; omega⟩, List.getElem?_append_right (by rw [List.length_append, List.length_take, hl, Array.length_toList, hcbs]; omega), List.length_append, List.length_take, hl, Array.length_toList, hcbs, Nat.min_eq_left (by omega)]
             congr 1; omega
          ·exact ((Tch.drew w).no.trans (Tch.setCells (F := fun q => q = (σ i).b) rfl _ _ _) (fun _ _ h => h)).trans (Tch.setCells (F := fun q => q = (σ i).b) rfl _ _ _) (fun _ _ h => h)
         ·refine (hi.grow len k c (ca.toList.take (len * 2)) (σ j).b cb w (σ i).b hkl hlc (by omega) (by omega) hl (fun t x e => ?_) hA.ones b1 hcbs hB.ones).mono ?_
          ·rw [List.getElem?_take] at e
           split at e
           ·rw [cell_of_row w _ t ca a.ty (0, 0) a1]; simpa using e
           ·cases e
          ·rintro e w' ⟨G, cur', rfl, d1, d2, d3, d4, d5, d6⟩
           exact fin _ G cur' w' d1 d2 d3 d4 d5 d6.no (.inl (Nat.le_refl _))
       ·cases hout
      ·cases h
     ·cases h
    ·cases h
   ·exact ho.1 _ _ _ _ _ _ _ _ _ h
  ·exact ho.1 _ _ _ _ _ _ _ _ _ h
 ·unfold insOrc at h
  split at h
  ·rename_i hf; subst hf; exact hi.body
  ·exact ho.2 _ _ _ _ _ h
theorem insEnd : InsK Tryz.prog 223 71 :=
 ⟨fun n i c cs vb nb w g cur => ins_end_shift n i c cs vb nb w g cur, fun n i c cs vb nb w g => ins_end_grow n i c cs vb nb w g, ⟨_, Tryz.func223, rfl⟩⟩
end Ev
section
open Go.RowKit Go.Maps
theorem begun10_any (w : World) : Calls Tryz.prog 16 #[] w fun e w' => e = .returned (.bool true) /\ Tch No w w' := Ev.closed (orc := Ev.insOrc 223 71 Ev.noOrc) (N := 100) (k := 60) (Ev.insOrc_ok Ev.insEnd Ev.noOrc_ok) Ev.pok (by kernel_rfl) w
end
section
open Go.RowKit Go.Maps
def stg : List Nat -> Array Bool -> Nat
 | [], _ => 0
 | e :: r, listed => if listed.getD e true = true then stg r listed + 1 else 0
theorem stg_all {listed : Array Bool} : ∀ {es : List Nat}, (∀ e ∈ es, listed.getD e true = true) -> stg es listed = es.length
 | [], _ => rfl
 | e :: r, h => by
  rw [stg, if_pos (h e List.mem_cons_self), stg_all (fun x hx => h x (List.mem_cons_of_mem _ hx)), List.length_cons]
theorem stg_congr {l1 l2 : Array Bool} : ∀ {es : List Nat}, (∀ e ∈ es, l1.getD e true = l2.getD e true) -> stg es l1 = stg es l2
 | [], _ => rfl
 | e :: r, h => by
  rw [stg, stg, h e List.mem_cons_self, stg_congr (fun x hx => h x (List.mem_cons_of_mem _ hx))]
theorem stg_split : ∀ (es : List Nat) (listed : Array Bool), ∃ p r, es = p ++ r /\ stg es listed = p.length /\ (∀ e ∈ p, listed.getD e true = true) /\ ∀ e ∈ r.head?, listed.getD e true = false
 | [], _ => ⟨[], [], rfl, rfl, fun e h => (by cases h), fun e h => (by cases h)⟩
 | e :: r, listed => by
  by_cases h : listed.getD e true = true
  ·obtain ⟨p, r', h1, h2, h3, h4⟩ := stg_split r listed
   refine ⟨e :: p, r', by rw [h1]; rfl, by rw [stg, if_pos h, h2]; rfl, fun x hx => ?_, h4⟩
   rcases List.mem_cons.1 hx with rfl | hx
   ·exact h
   ·exact h3 x hx
  ·refine ⟨[], e :: r, rfl, by rw [stg, if_neg h]; rfl, fun x hx => (by cases hx), fun x hx => ?_⟩
   have : e = x := by simpa using hx
   subst this
   simpa using h
theorem stg_next {listed : Array Bool} {i : Nat} {r : List Nat} : ∀ {p : List Nat}, (∀ e ∈ p, listed.getD e true = true) -> listed.getD i true = true -> (∀ e ∈ r.head?, listed.getD e true = false) -> stg (p ++ i :: r) listed = p.length + 1
 | [], _, h2, h3 => by
  rw [List.nil_append, stg, if_pos h2]
  cases r with
  | nil => rfl
  | cons f r' =>
   have := h3 f rfl
   rw [stg, if_neg (by rw [this]; decide)]; rfl
 | e :: p, h1, h2, h3 => by
  rw [List.cons_append, stg, if_pos (h1 e List.mem_cons_self), stg_next (fun x hx => h1 x (List.mem_cons_of_mem _ hx)) h2 h3, List.length_cons]
theorem anc_lt {rows : List LRow} {ds : List Nat} {anc need kill later : Nat -> List Nat} (S : ISpec rows ds anc need kill later) : ∀ n i, i <= n -> i < rows.length -> ∀ k ∈ anc i, k < i
 | 0, i, hi, hl, k, hk => by
  rcases S.ancs i hl k hk with h | ⟨m, hm, _⟩
  ·exact S.less i hl k h
  ·have := S.less i hl m hm; omega
 | n + 1, i, hi, hl, k, hk => by
  rcases S.ancs i hl k hk with h | ⟨m, hm, hkm⟩
  ·exact S.less i hl k h
  ·have h1 := S.less i hl m hm
   have := anc_lt S n m (by omega) (by omega) k hkm
   omega
theorem anc_irr {rows : List LRow} {ds : List Nat} {anc need kill later : Nat -> List Nat} (S : ISpec rows ds anc need kill later) {i : Nat} (hi : i < rows.length) (h : i ∈ anc i) : False := by
 have := anc_lt S i i (Nat.le_refl _) hi i h
 omega
def eschk (n : Nat) (anc : Nat -> List Nat) : List Nat -> Bool
 | [] => true
 | e :: r => decide (e < n) && r.all (fun f => (anc f).contains e) && eschk n anc r
theorem eschk_spec {n : Nat} {anc : Nat -> List Nat} : ∀ {es : List Nat}, eschk n anc es = true -> (∀ e ∈ es, e < n) /\ ∀ p r, es = p ++ r -> ∀ e ∈ p, ∀ f ∈ r, e ∈ anc f
 | [], _ => ⟨fun e h => (by cases h), fun p r h e he => by
  have : p = [] := (List.append_eq_nil_iff.1 h.symm).1
  subst this; cases he⟩
 | x :: es, h => by
  simp only [eschk, Bool.and_eq_true, decide_eq_true_eq, List.all_eq_true, List.contains_iff_mem] at h
  obtain ⟨⟨h1, h2⟩, h3⟩ := h
  obtain ⟨g1, g2⟩ := eschk_spec h3
  refine ⟨fun e he => ?_, fun p r hpr e he f hf => ?_⟩
  ·rcases List.mem_cons.1 he with rfl | he
   ·exact h1
   ·exact g1 e he
  ·cases p with
   | nil => cases he
   | cons y p' =>
    rw [List.cons_append] at hpr
    injection hpr with hx hpr
    subst hx
    rcases List.mem_cons.1 he with rfl | he
    ·exact h2 f (by rw [hpr]; exact List.mem_append_right _ hf)
    ·exact g2 p' r hpr e he f hf
section
variable {P : Program} {ops : Array Oper} {Q : Exit -> Act -> World -> Prop}
def stchk (n : Nat) (anc : Nat -> List Nat) (es : List Nat) (stgs : Nat -> List Nat) : Bool :=
 (List.range n).all fun i => es.contains i || (List.range (es.length + 1)).all fun k => (es.take k).any (fun e => (anc e).contains i) || ((es.drop k).head?.elim false (fun e => (anc i).contains e) || (stgs i).contains k)
theorem stchk_spec {n : Nat} {anc : Nat -> List Nat} {es : List Nat} {stgs : Nat -> List Nat} (h : stchk n anc es stgs = true) : ∀ i, i < n -> i ∉ es -> ∀ p r, es = p ++ r -> (∀ e ∈ p, i ∉ anc e) -> (∀ e ∈ r.head?, e ∉ anc i) -> p.length ∈ stgs i := by
 intro i hi hie p r hpr h1 h2
 unfold stchk at h
 simp only [List.all_eq_true, List.mem_range, Bool.or_eq_true, List.contains_iff_mem, List.any_eq_true] at h
 have hp : es.take p.length = p := by rw [hpr, List.take_left' rfl]
 have hr : es.drop p.length = r := by rw [hpr, List.drop_left' rfl]
 have hle : p.length < es.length + 1 := by rw [hpr, List.length_append]; omega
 have h3 := ((h i hi).resolve_left hie) p.length hle
 rw [hp, hr] at h3
 rcases h3 with ⟨e, he, h3⟩ | h3 | h3
 ·exact (h1 e he h3).elim
 ·cases r with
  | nil => cases h3
  | cons e r' =>
   exact (h2 e rfl (List.contains_iff_mem.1 h3)).elim
 ·exact h3
end
end
section
open Go.RowKit Go.Maps
section
variable {P : Program} {ops : Array Oper} {Q : Exit -> Act -> World -> Prop}
theorem any_inv5 (a0 : Act) (eL : Nat) (es : List Nat) (C : Nat -> World -> Prop) (R : Nat -> Value -> World -> Prop) (wd : List Nat) (ds : List Nat) (rows : List LRow) (anc need kill later : Nat -> List Nat)
  (hrows : ops.toList.map (lrow ops) = rows) (hck : ichk rows ds anc need kill later = true) (hds : ∀ d ∈ ds, d < a0.tmps.size) (hpure : ∀ j, j ∉ wd -> ∀ x w w', R j x w -> R j x w')
  (hL : eL < rows.length) (hLa : ∀ j, j < rows.length -> j ≠ eL -> j ∈ anc eL) (hes : ∀ e ∈ es, e < rows.length) (hesL : ∀ e ∈ es, e ≠ eL) (hch : ∀ p r, es = p ++ r -> ∀ e ∈ p, ∀ f ∈ r, e ∈ anc f)
  (hstep : ∀ i, i < rows.length -> i ≠ eL -> i ∉ es -> ∀ p r, es = p ++ r -> (∀ e ∈ p, i ∉ anc e) -> (∀ e ∈ r.head?, e ∉ anc i) -> IStep P ops Q a0 ds (C p.length) R wd need kill later i)
  (hstepe : ∀ p e r, es = p ++ e :: r -> IStep2 P ops Q a0 ds (fun _ => True) (C p.length) (C (p.length + 1)) R wd need kill later e)
  (hend : ∀ o a w, ops[eL]? = some o -> Fr a0 ds a -> C es.length w -> (∀ j, j < rows.length -> j ≠ eL -> (∀ i, i < rows.length -> i ≠ eL -> j ∉ kill i) -> R j (slotV ops a j) w) -> ∀ K : Act -> World -> Prop, (∀ v w', Q .normal (a.put o.dst v) w' -> K (a.put o.dst v) w') -> if Region.wanted o (yielded ops a.tmps) = true then Oper.wp P o a w K Q else K (a.put o.dst undef) w) :
  ∀ (m : Nat) (listed : Array Bool) (a : Act) (w : World), listed.getD eL true = false -> listed.size = ops.size -> (∀ i, i < ops.size -> listed.getD i true = true -> ∀ e ∈ lon rows i, listed.getD e true = true) ->
   (List.range ops.size).countP (fun i => !listed.getD i true) = m ->
   Fr a0 ds a -> C (stg es listed) w -> (∀ j, j < ops.size -> listed.getD j true = true -> (∀ i, i < ops.size -> listed.getD i true = true -> j ∉ kill i) -> R j (slotV ops a j) w) -> wpAny P .any ops Q m listed a w := by
 have S := ichk_spec hck
 have hlen : rows.length = ops.size := by rw [<- hrows]; simp
 have hrow : ∀ i o, ops[i]? = some o -> rows[i]? = some (lrow ops o) := fun i o ho => by rw [<- hrows, List.getElem?_map, Array.getElem?_toList, ho]; rfl
 have hready : ∀ (listed : Array Bool) i, listed.size = ops.size -> i < ops.size -> listed.getD i true = false -> (∀ e ∈ lon rows i, listed.getD e true = true) -> i ∈ Region.ready .any ops listed := by
  intro listed i hs hi h1 h2
  obtain ⟨o, ho⟩ : ∃ o, ops[i]? = some o := ⟨_, Array.getElem?_eq_getElem hi⟩
  unfold Region.ready
  rw [List.mem_filter]
  refine ⟨List.mem_range.2 hi, ?_⟩
  rw [h1, ho]
  simp only [Option.map_some, Option.getD_some, Bool.not_false, Bool.true_and, Array.all_eq_true_iff_forall_mem]
  intro e he
  cases hb : Region.binds .any e with
  | false => rfl
  | true =>
   have hm : e.on ∈ lon rows i := by unfold lon; rw [hrow i o ho]; exact lon_mem.2 ⟨e, he, hb, rfl⟩
   have h3 := h2 _ hm
   have h4 := S.less i (by omega) _ hm
   rw [Array.getD_eq_getD_getElem?, Array.getElem?_eq_getElem (by omega)] at h3 ⊢
   simpa using h3
 have hready2 : ∀ (listed : Array Bool) i, listed.size = ops.size -> i ∈ Region.ready .any ops listed -> i < ops.size /\ listed.getD i true = false /\ ∀ e ∈ lon rows i, listed.getD e true = true := by
  intro listed i hs hi
  unfold Region.ready at hi
  rw [List.mem_filter] at hi
  obtain ⟨h1, h2⟩ := hi
  have h1 := List.mem_range.1 h1
  obtain ⟨o, ho⟩ : ∃ o, ops[i]? = some o := ⟨_, Array.getElem?_eq_getElem h1⟩
  rw [ho] at h2
  simp only [Option.map_some, Option.getD_some, Bool.and_eq_true, Bool.not_eq_true', Array.all_eq_true_iff_forall_mem] at h2
  refine ⟨h1, h2.1, fun e he => ?_⟩
  have h5 := S.less i (by omega) e he
  unfold lon at he
  rw [hrow i o ho] at he
  obtain ⟨ed, hed, hb, rfl⟩ := lon_mem.1 he
  have h3 := h2.2 ed hed
  rw [hb] at h3
  rw [Array.getD_eq_getD_getElem?, Array.getElem?_eq_getElem (by omega)] at h3 ⊢
  simpa using h3
 have hanc : ∀ (listed : Array Bool), (∀ i, i < ops.size -> listed.getD i true = true -> ∀ e ∈ lon rows i, listed.getD e true = true) -> ∀ n i, i <= n -> i < ops.size -> listed.getD i true = true -> ∀ k ∈ anc i, listed.getD k true = true := by
  intro listed hcl n
  induction n with
  | zero =>
   intro i hi hio hl k hk
   rcases S.ancs i (by omega) k hk with h | ⟨m, hm, _⟩
   ·exact hcl i hio hl k h
   ·have := S.less i (by omega) m hm; omega
  | succ n ihn =>
   intro i hi hio hl k hk
   rcases S.ancs i (by omega) k hk with h | ⟨m, hm, hkm⟩
   ·exact hcl i hio hl k h
   ·have := S.less i (by omega) m hm
    exact ihn m (by omega) (by omega) (hcl i hio hl m hm) k hkm
 have hdone : ∀ (l2 : Array Bool), l2.size = ops.size -> (∀ i, i < ops.size -> l2.getD i true = true) -> Region.ready .any ops l2 = [] := by
  intro l2 hs2 hall
  cases hr : Region.ready .any ops l2 with
  | nil => rfl
  | cons x xs =>
   obtain ⟨g1, g2, _⟩ := hready2 l2 x hs2 (by rw [hr]; exact List.mem_cons_self)
   rw [hall x g1] at g2; cases g2
 intro m
 induction m with
 | zero =>
  intro listed a w hLf hs hcl hm hf hC hR
  rw [List.countP_eq_zero] at hm
  have := hm eL (List.mem_range.2 (by omega))
  rw [hLf] at this
  exact (this rfl).elim
 | succ m ih =>
  intro listed a w hLf hs hcl hm hf hC hR
  refine ⟨fun h0 => ?_, fun i hi => ?_⟩
  ·exfalso
   have hex : ∃ i, i < ops.size /\ listed.getD i true = false := by
    have hp : 0 < (List.range ops.size).countP (fun i => !listed.getD i true) := by omega
    obtain ⟨i, h1, h2⟩ := List.countP_pos_iff.1 hp
    exact ⟨i, List.mem_range.1 h1, by simpa using h2⟩
   have hmin : ∀ n i, i <= n -> i < ops.size -> listed.getD i true = false -> False := by
    intro n
    induction n with
    | zero =>
     intro i hi hio hl
     have := hready listed i hs hio hl (fun e he => by have := S.less i (by omega) e he; omega)
     rw [h0] at this; cases this
    | succ n ihn =>
     intro i hi hio hl
     have := hready listed i hs hio hl (fun e he => by
      have hlt := S.less i (by omega) e he
      cases hle : listed.getD e true with
      | true => rfl
      | false => exact (ihn e (by omega) (by omega) hle).elim)
     rw [h0] at this; cases this
   obtain ⟨i, h1, h2⟩ := hex
   exact hmin i i (Nat.le_refl _) h1 h2
  ·obtain ⟨h1, h2, h3⟩ := hready2 listed i hs hi
   obtain ⟨o, ho⟩ : ∃ o, ops[i]? = some o := ⟨_, Array.getElem?_eq_getElem h1⟩
   refine wpOp_step ho (fun K hK => ?_)
   have hget : ∀ j, j ≠ i -> (listed.setIfInBounds i true).getD j true = listed.getD j true := fun j hj => by
    rw [Array.getD_eq_getD_getElem?, Array.getD_eq_getD_getElem?, Array.getElem?_setIfInBounds_ne (fun e => hj e.symm)]
   have hgeti : (listed.setIfInBounds i true).getD i true = true := by
    rw [Array.getD_eq_getD_getElem?, Array.getElem?_setIfInBounds]; simp [hs, h1]
   have hld : ldst rows i = o.dst := by unfold ldst; rw [hrow i o ho]; rfl
   have hslot : ∀ v, slotV ops (a.put o.dst v) i = (match o.dst with | some _ => v | none => undef) := by
    intro v
    unfold slotV
    rw [ho]
    simp only [Option.bind_some]
    cases hd : o.dst with
    | none => rfl
    | some d =>
     simp only
     exact iev_eq (by rw [hf.size]; exact hds d (S.dst i (by omega) d (by rw [hld, hd])))
   have hsloj : ∀ v j, j < ops.size -> j ≠ i -> slotV ops (a.put o.dst v) j = slotV ops a j := by
    intro v j hj hji
    obtain ⟨oj, hoj⟩ : ∃ o, ops[j]? = some o := ⟨_, Array.getElem?_eq_getElem hj⟩
    unfold slotV
    rw [hoj]
    simp only [Option.bind_some]
    cases hd : o.dst with
    | none => cases oj.dst <;> rfl
    | some d =>
     cases hdj : oj.dst with
     | none => rfl
     | some dj =>
      simp only
      refine iev_ne (fun e => ?_)
      have := S.other i (by omega) d (by rw [hld, hd]) j (by omega) hji
      apply this
      unfold ldst
      rw [hrow j oj hoj]
      show oj.dst = some d
      rw [hdj, e]
   have hlow : ∀ e, e < ops.size -> listed.getD e true = true -> i ∉ anc e := fun e he hl hm => by
    have := hanc listed hcl e e (Nat.le_refl _) he hl i hm
    rw [h2] at this; cases this
   have hup : ∀ e ∈ anc i, listed.getD e true = true := fun e hm => by
    rcases S.ancs i (by omega) e hm with h | ⟨q, hq, hqm⟩
    ·exact h3 e h
    ·have hql := S.less i (by omega) q hq
     exact hanc listed hcl q q (Nat.le_refl _) (by omega) (h3 q hq) e hqm
   by_cases hiL : i = eL
   ·subst hiL
    have hal : ∀ j, j < ops.size -> j ≠ i -> listed.getD j true = true := fun j hj hji => hup j (hLa j (by omega) hji)
    have hst : stg es listed = es.length := stg_all (fun e he => hal e (by have := hes e he; omega) (hesL e he))
    rw [hst] at hC
    refine hend o a w ho hf hC (fun j hj hji hk => hR j (by omega) (hal j (by omega) hji) (fun q hq hlq => hk q (by omega) (fun e => by subst e; rw [h2] at hlq; cases hlq))) K (fun v w' hq => hK _ _ ?_)
    refine wpAny_done (hdone _ (by simpa using hs) (fun j hj => ?_)) hq _
    by_cases hji : j = i
    ·subst hji; exact hgeti
    ·rw [hget j hji]; exact hal j hj hji
   obtain ⟨p, r, hpr, hp1, hp2, hp3⟩ := stg_split es listed
   have hst : IStep2 P ops Q a0 ds (fun _ => True) (C (stg es listed)) (C (stg es (listed.setIfInBounds i true))) R wd need kill later i := by
    by_cases hie : i ∈ es
    ·have hir : i ∈ r := by
      rw [hpr] at hie
      rcases List.mem_append.1 hie with h | h
      ·have := hp2 i h; rw [h2] at this; cases this
      ·exact h
     cases r with
     | nil => cases hir
     | cons f r' =>
      have hf1 := hp3 f rfl
      have hif : i = f := by
       rcases List.mem_cons.1 hir with h | h
       ·exact h
       ·have hm := hch (p ++ [f]) r' (by rw [hpr]; simp) f (by simp) i h
        have := hup f hm
        rw [hf1] at this; cases this
      subst hif
      have hnew : stg es (listed.setIfInBounds i true) = p.length + 1 := by
       rw [hpr]
       refine stg_next (fun e he => ?_) hgeti (fun f' hf' => ?_)
       ·by_cases e' : e = i
        ·subst e'; exact hgeti
        ·rw [hget e e']; exact hp2 e he
       ·cases r' with
        | nil => cases hf'
        | cons g r'' =>
         have hgf : g = f' := by simpa using hf'
         subst hgf
         have hm := hch (p ++ [i]) (g :: r'') (by rw [hpr]; simp) i (by simp) g (by simp)
         have hne : g ≠ i := fun e => by
          have h1' := S.less
          subst e
          exact anc_irr S (by omega) hm
         rw [hget g hne]
         cases hl : listed.getD g true with
         | false => rfl
         | true =>
          have := hanc listed hcl g g (Nat.le_refl _) (by have := hes g (by rw [hpr]; simp); omega) hl i hm
          rw [h2] at this; cases this
      rw [hp1, hnew]
      exact hstepe p i r' hpr
    ·have hsame : stg es (listed.setIfInBounds i true) = stg es listed := stg_congr (fun e he => hget e (fun h => hie (h ▸ he)))
     rw [hsame, hp1]
     exact istep2_of (hstep i (by omega) hiL hie p r hpr (fun e he => hlow e (by have := hes e (by rw [hpr]; exact List.mem_append_left _ he); omega) (hp2 e he)) (fun e he hm => by
      have g1 := hp3 e he
      have g2 := hup e hm
      rw [g1] at g2; cases g2))
   refine hst o a w ho hf trivial hC (fun k hk => ?_) K (fun v w' c1 c2 c3 => hK _ _ ?_)
   ·have hkl := h3 k (S.needs i (by omega) k hk)
    refine hR k (by have := S.less i (by omega) k (S.needs i (by omega) k hk); omega) hkl (fun j hj hlj hkj => ?_)
    rcases S.kills j (by omega) k hkj i (by omega) hk with e | e
    ·subst e; rw [h2] at hlj; cases hlj
    ·have := hanc listed hcl j j (Nat.le_refl _) hj hlj i e
     rw [h2] at this; cases this
   ·refine ih (listed.setIfInBounds i true) _ w' (by rw [hget eL (fun e => hiL e.symm)]; exact hLf) (by simpa using hs) ?_ ?_ (hf.put S.nodup (fun e he => S.dst i (by omega) e (by rw [hld, he])) v) c1 ?_
    ·intro j hj hlj e he
     by_cases hji : j = i
     ·subst hji
      have hne : e ≠ j := fun e2 => by have := S.less j (by omega) e he; omega
      rw [hget e hne]; exact h3 e he
     ·rw [hget j hji] at hlj
      by_cases hei : e = i
      ·subst hei; exact hgeti
      ·rw [hget e hei]; exact hcl j hj hlj e he
    ·have hmem : i ∈ List.range ops.size := List.mem_range.2 h1
     have key : ∀ (l : List Nat), l.Nodup -> i ∈ l -> l.countP (fun j => !listed.getD j true) = l.countP (fun j => !(listed.setIfInBounds i true).getD j true) + 1 := by
      intro l hn hil
      induction l with
      | nil => cases hil
      | cons x l ihl =>
       rw [List.nodup_cons] at hn
       rw [List.countP_cons, List.countP_cons]
       rcases List.mem_cons.1 hil with rfl | hil
       ·have hsame : l.countP (fun j => !listed.getD j true) = l.countP (fun j => !(listed.setIfInBounds i true).getD j true) := by
         apply List.countP_congr
         intro j hj
         have : j ≠ i := fun e => hn.1 (e ▸ hj)
         rw [hget j this]
        rw [hsame, h2, hgeti]
        simp
       ·have hxi : x ≠ i := fun e => hn.1 (e ▸ hil)
        rw [ihl hn.2 hil, hget x hxi]
        omega
     have := key _ List.nodup_range hmem
     omega
    ·intro j hj hlj hk
     by_cases hji : j = i
     ·subst hji; rw [hslot]; exact c2
     ·rw [hget j hji] at hlj
      rw [hsloj v j hj hji]
      have hRj := hR j hj hlj (fun i' hi' hli' => hk i' hi' (by
       by_cases e : i' = i
       ·subst e; exact hgeti
       ·rw [hget i' e]; exact hli'))
      by_cases hwd : j ∈ wd
      case neg => exact hpure j hwd _ _ _ hRj
      refine c3 j hwd hji (hk i h1 hgeti) (fun hlat => ?_) _ hRj
      have := hanc listed hcl j j (Nat.le_refl _) hj hlj i (S.laters i (by omega) j hlat).1
      rw [h2] at this; cases this
theorem last_by {a0 : Act} {ds : List Nat} {eL : Nat} {Cn : World -> Prop} {RR : Act -> World -> Prop} (o : Oper) (ho : ops[eL]? = some o) (hg : o.guard = none)
  (h : ∀ a w, Fr a0 ds a -> Cn w -> RR a w -> ∀ K : Act -> World -> Prop, (∀ v w', Q .normal (a.put o.dst v) w' -> K (a.put o.dst v) w') -> Oper.wp P o a w K Q) :
  ∀ o' a w, ops[eL]? = some o' -> Fr a0 ds a -> Cn w -> RR a w -> ∀ K : Act -> World -> Prop, (∀ v w', Q .normal (a.put o'.dst v) w' -> K (a.put o'.dst v) w') -> if Region.wanted o' (yielded ops a.tmps) = true then Oper.wp P o' a w K Q else K (a.put o'.dst undef) w := by
 intro o' a w ho' hf hC hR K hK
 obtain rfl : o' = o := Option.some.inj (ho'.symm.trans ho)
 rw [if_pos (iwanted_no hg)]
 exact h a w hf hC hR K hK
def lastchk (n : Nat) (anc : Nat -> List Nat) (es : List Nat) (eL : Nat) : Bool :=
 decide (eL < n) && ((List.range n).all fun j => j == eL || (anc eL).contains j) && es.all (fun e => e != eL)
theorem lastchk_spec {n : Nat} {anc : Nat -> List Nat} {es : List Nat} {eL : Nat} (h : lastchk n anc es eL = true) : eL < n /\ (∀ j, j < n -> j ≠ eL -> j ∈ anc eL) /\ ∀ e ∈ es, e ≠ eL := by
 simp only [lastchk, Bool.and_eq_true, decide_eq_true_eq, List.all_eq_true, List.mem_range, Bool.or_eq_true, beq_iff_eq, List.contains_iff_mem, bne_iff_ne] at h
 exact ⟨h.1.1, fun j hj hn => (h.1.2 j hj).resolve_left hn, fun e he => h.2 e he⟩
theorem wp_region_inv5 {id : Nat} {l : List Oper} {a0 : Act} {w : World} (eL : Nat) (es : List Nat) (C : Nat -> World -> Prop) (R : Nat -> Value -> World -> Prop) (wd : List Nat) (ds : List Nat) (rows : List LRow) (anc need kill later : Nat -> List Nat)
  (hm : P.follows .mixedOrders = true) (hrows : l.map (lrow l.toArray) = rows) (hck : ichk rows ds anc need kill later = true) (hds : ds.all (fun d => decide (d < a0.tmps.size)) = true) (hC : C 0 w.drew) (hesk : eschk rows.length anc es = true) (hL : lastchk rows.length anc es eL = true) (hpure : ∀ j, j ∉ wd -> ∀ x w w', R j x w -> R j x w')
  (hstep : ∀ i, i < rows.length -> i ≠ eL -> i ∉ es -> ∀ p r, es = p ++ r -> (∀ e ∈ p, i ∉ anc e) -> (∀ e ∈ r.head?, e ∉ anc i) -> IStep P l.toArray Q a0 ds (C p.length) R wd need kill later i)
  (hstepe : ∀ p e r, es = p ++ e :: r -> IStep2 P l.toArray Q a0 ds (fun _ => True) (C p.length) (C (p.length + 1)) R wd need kill later e)
  (hend : ∀ o a w, l.toArray[eL]? = some o -> Fr a0 ds a -> C es.length w -> (∀ j, j < rows.length -> j ≠ eL -> (∀ i, i < rows.length -> i ≠ eL -> j ∉ kill i) -> R j (slotV l.toArray a j) w) -> ∀ K : Act -> World -> Prop, (∀ v w', Q .normal (a.put o.dst v) w' -> K (a.put o.dst v) w') -> if Region.wanted o (yielded l.toArray a.tmps) = true then Oper.wp P o a w K Q else K (a.put o.dst undef) w) : (Code.region id l.toArray true).wp P Q a0 w := by
 refine wp_region_any hm ?_
 have hlen : rows.length = l.length := by rw [<- hrows]; simp
 obtain ⟨he1, he2⟩ := eschk_spec hesk
 refine any_inv5 a0 eL es C R wd ds rows anc need kill later (by simpa using hrows) hck (fun d hd => by simpa using List.all_eq_true.1 hds d hd) hpure (lastchk_spec hL).1 (lastchk_spec hL).2.1 he1 (lastchk_spec hL).2.2 he2 hstep hstepe hend _ _ a0 w.drew ?_ (by simp) ?_ ?_ (Fr.start _ _) ?_ ?_
 ·have := (lastchk_spec hL).1
  rw [Array.getD_eq_getD_getElem?, Array.getElem?_replicate, if_pos (by rw [List.size_toArray]; omega)]; rfl
 ·intro i hi hl
  rw [Array.getD_eq_getD_getElem?, Array.getElem?_replicate, if_pos hi] at hl
  cases hl
 ·rw [List.countP_eq_length.2]
  ·simp
  ·intro i hi
   have hi := List.mem_range.1 hi
   rw [Array.getD_eq_getD_getElem?, Array.getElem?_replicate, if_pos hi]; rfl
 ·have h0 : stg es (Array.replicate l.toArray.size false) = 0 := by
   cases es with
   | nil => rfl
   | cons e r =>
    have := he1 e List.mem_cons_self
    rw [stg, if_neg]
    rw [Array.getD_eq_getD_getElem?, Array.getElem?_replicate, if_pos (by rw [List.size_toArray]; omega)]
    exact Bool.false_ne_true
  rw [h0]; exact hC
 ·intro j hj hl
  rw [Array.getD_eq_getD_getElem?, Array.getElem?_replicate, if_pos hj] at hl
  cases hl
theorem wp_region_inv6 {id : Nat} {l : List Oper} {a0 : Act} {w : World} (eL : Nat) (es : List Nat) (stgs : Nat -> List Nat) (C : Nat -> World -> Prop) (R : Nat -> Value -> World -> Prop) (wd : List Nat) (ds : List Nat) (rows : List LRow) (anc need kill later : Nat -> List Nat)
  (hm : P.follows .mixedOrders = true) (hrows : l.map (lrow l.toArray) = rows) (hck : ichk rows ds anc need kill later = true) (hds : ds.all (fun d => decide (d < a0.tmps.size)) = true) (hesk : eschk rows.length anc es = true) (hL : lastchk rows.length anc es eL = true) (hst : stchk rows.length anc es stgs = true) (hC : C 0 w.drew) (hpure : ∀ j, j ∉ wd -> ∀ x w w', R j x w -> R j x w')
  (hstep : ∀ i, i < rows.length -> i ≠ eL -> ∀ k, k ∈ stgs i -> IStep P l.toArray Q a0 ds (C k) R wd need kill later i)
  (hstepe : ∀ k, k < es.length -> IStep2 P l.toArray Q a0 ds (fun _ => True) (C k) (C (k + 1)) R wd need kill later (es.getD k 0))
  (hend : ∀ o a w, l.toArray[eL]? = some o -> Fr a0 ds a -> C es.length w -> (∀ j, j < rows.length -> j ≠ eL -> (∀ i, i < rows.length -> i ≠ eL -> j ∉ kill i) -> R j (slotV l.toArray a j) w) -> ∀ K : Act -> World -> Prop, (∀ v w', Q .normal (a.put o.dst v) w' -> K (a.put o.dst v) w') -> if Region.wanted o (yielded l.toArray a.tmps) = true then Oper.wp P o a w K Q else K (a.put o.dst undef) w) : (Code.region id l.toArray true).wp P Q a0 w :=
 wp_region_inv5 eL es C R wd ds rows anc need kill later hm hrows hck hds hC hesk hL hpure (fun i hi hiL hie p r hpr h1 h2 => hstep i hi hiL p.length (stchk_spec hst i hi hie p r hpr h1 h2))
  (fun p e r hpr => by
   have h := hstepe p.length (by rw [hpr, List.length_append, List.length_cons]; omega)
   have he : es.getD p.length 0 = e := by
    rw [List.getD_eq_getElem?_getD, hpr, List.getElem?_append_right (Nat.le_refl _)]; simp
   rwa [he] at h) hend
end
end
end Go.Proofs.YtafndmnbnmlklaaGreat
