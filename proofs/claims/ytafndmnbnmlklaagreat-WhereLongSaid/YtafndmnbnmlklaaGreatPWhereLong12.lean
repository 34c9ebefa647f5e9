/- Part 12 of what the proof of WhereLong rests on. No condition. -/
import Derived.Test.YtafndmnbnmlklaaGreatPWhereLong11
namespace Go.Proofs.YtafndmnbnmlklaaGreat
set_option maxRecDepth 100000
set_option maxHeartbeats 60000000
set_option linter.unusedVariables false
set_option linter.unusedSimpArgs false
set_option linter.unusedSectionVars false
namespace Ev
open Go Go.RowKit Go.Maps
def evL (call : CallF) (P : Program) (ops : Array Oper) (nt : Nat) : List Oper -> St -> Option (St × List (Nat × Nat × Nat))
 | [], st => some (st, [])
 | o :: l, st => match stepG call P ops nt st o with
  | some (st1, F, W) => match evL call P ops nt l st1 with
   | some (st2, rs) => some (st2, (F, W, nwm st.n st1.n) :: rs)
   | none => none
  | none => none
def orL1 : List (Nat × Nat × Nat) -> Nat | [] => 0 | r :: l => r.1 ||| orL1 l
def orL2 : List (Nat × Nat × Nat) -> Nat | [] => 0 | r :: l => r.2.1 ||| orL2 l
inductive X | nm | ex (id : Nat) | rt
def X.out : X -> Exit | .nm => .normal | .ex id => .exit id | .rt => .ret
abbrev CRes := Option (X × St × Nat × Nat)
def evR (call : CallF) (P : Program) (nt : Nat) (ops : Array Oper) (draw : Bool) (st : St) : CRes := match evL call P ops nt ops.toList st with
 | some (st2, rs) => if draw && !(orL2 rs == 0 && st.n == st2.n) && !memOk (befs ops.toList []) (rs.map fun r => (r.1, r.2.1 ||| r.2.2)) then none else some (.nm, st2, orL1 rs, orL2 rs)
 | none => none
def iter (f : St -> CRes) : Nat -> St -> CRes
 | 0, _ => none
 | k + 1, st => match f st with
  | some (.nm, st1, F1, W1) => match iter f k st1 with
   | some (x, st2, F2, W2) => some (x, st2, F1 ||| F2, W1 ||| W2)
   | none => none
  | r => r
def evC (call : CallF) (P : Program) (nt N : Nat) : Code -> St -> CRes
 | .skip, st => some (.nm, st, 0, 0)
 | .label _, st => some (.nm, st, 0, 0)
 | .region _ ops draw, st => evR call P nt ops draw st
 | .seq a b, st => match evC call P nt N a st with
  | some (.nm, st1, F1, W1) => match evC call P nt N b st1 with
   | some (x, st2, F2, W2) => some (x, st2, F1 ||| F2, W1 ||| W2)
   | none => none
  | r => r
 | .cond c a b, st => match S.c? (opA st.A c) with
  | some (.bool true) => evC call P nt N a st
  | some (.bool false) => evC call P nt N b st
  | _ => none
 | .block id c, st => match evC call P nt N c st with
  | some (.ex id', st1, F, W) => some (if id' == id then .nm else .ex id', st1, F, W)
  | r => r
 | .loop c, st => iter (evC call P nt N c) N st
 | .exit id, st => some (.ex id, st, 0, 0)
 | .ret, st => some (.rt, st, 0, 0)
 | _, _ => none
def regsOk : Code -> Bool
 | .region _ ops true => regOk ops
 | .seq a b => regsOk a && regsOk b
 | .cond _ a b => regsOk a && regsOk b
 | .block _ c => regsOk c
 | .loop c => regsOk c
 | _ => true
def CodeOK (P : Program) (nt : Nat) (c : Code) (st : St) (x : X) (st' : St) (F W : Nat) : Prop := Inv (hg st.H) (hg st'.H) st.n st'.n F W /\
 ∀ σ D w a Q, RA σ D nt st.A a -> Sat σ D (rst (tb F) (hg st.H)) w -> (∀ i, st.n <= i -> hg st.H i = none) -> (∀ i, st.n <= i -> i < st'.n -> ¬ D i) ->
  (∀ σ' a' w', RA σ' (more D st.n st'.n) nt st'.A a' -> a'.defers = a.defers -> Out σ D w (rst (tb F) (hg st.H)) (aft (tb F) st.n st'.n (hg st'.H)) st.n st'.n (tb W) σ' w' -> Q x.out a' w') -> c.wp P Q a w
theorem opA_ok {σ : Nat -> Blk} {D : Nat -> Prop} {nt : Nat} {A : T S} {a : Act} (h : RA σ D nt A a) : Eqv σ D (opA A) a.eval := by
 intro x s hx
 cases x with
 | tmp t => exact (h.2 t s hx).2
 | const v => exact constS_ok (show constS v = some s from hx)
 | func f =>
  simp only [opA, Option.some.injEq] at hx
  subst hx
  exact ⟨fun p hp => (by cases hp), rfl⟩
 | global g => simp [opA] at hx
theorem tb_orL1 {rs : List (Nat × Nat × Nat)} {i : Nat} : tb (orL1 rs) i = true ↔ ∃ (k : Nat) (r : Nat × Nat × Nat), rs[k]? = some r /\ tb r.1 i = true := by
 induction rs with
 | nil => rw [orL1, tb_0]; simp
 | cons r l ih =>
  rw [orL1, tb_or, Bool.or_eq_true, ih]
  constructor
  ·rintro (h | ⟨k, r', h1, h2⟩)
   ·exact ⟨0, r, rfl, h⟩
   ·exact ⟨k + 1, r', by simpa using h1, h2⟩
  ·rintro ⟨k, r', h1, h2⟩
   cases k with
   | zero => simp at h1; subst h1; exact .inl h2
   | succ k => exact .inr ⟨k, r', by simpa using h1, h2⟩
theorem tb_orL2 {rs : List (Nat × Nat × Nat)} {i : Nat} : tb (orL2 rs) i = true ↔ ∃ (k : Nat) (r : Nat × Nat × Nat), rs[k]? = some r /\ tb r.2.1 i = true := by
 induction rs with
 | nil => rw [orL2, tb_0]; simp
 | cons r l ih =>
  rw [orL2, tb_or, Bool.or_eq_true, ih]
  constructor
  ·rintro (h | ⟨k, r', h1, h2⟩)
   ·exact ⟨0, r, rfl, h⟩
   ·exact ⟨k + 1, r', by simpa using h1, h2⟩
  ·rintro ⟨k, r', h1, h2⟩
   cases k with
   | zero => simp at h1; subst h1; exact .inl h2
   | succ k => exact .inr ⟨k, r', by simpa using h1, h2⟩
theorem tb_orF {F : Nat -> Nat} {i : Nat} : ∀ {m : Nat}, tb (orF F m) i = true ↔ ∃ k, k < m /\ tb (F k) i = true
 | 0 => by rw [orF, tb_0]; simp
 | m + 1 => by
  rw [orF, tb_or, Bool.or_eq_true, tb_orF]
  constructor
  ·rintro (⟨k, h1, h2⟩ | h)
   ·exact ⟨k, by omega, h2⟩
   ·exact ⟨m, by omega, h⟩
  ·rintro ⟨k, h1, h2⟩
   by_cases e : k = m
   ·subst e; exact .inr h2
   ·exact .inl ⟨k, by omega, h2⟩
section
variable {P : Program} {call : CallF}
theorem evL_tr {ops : Array Oper} {nt : Nat} : ∀ {l : List Oper} {st stf : St} {rs : List (Nat × Nat × Nat)}, evL call P ops nt l st = some (stf, rs) -> rs.length = l.length /\ ∃ f : Nat -> St, f 0 = st /\ f l.length = stf /\
  ∀ k o, l[k]? = some o -> ∃ F W, stepG call P ops nt (f k) o = some (f (k + 1), F, W) /\ rs[k]? = some (F, W, nwm (f k).n (f (k + 1)).n)
 | [], st, stf, rs, h => by
  simp only [evL, Option.some.injEq, Prod.mk.injEq] at h
  obtain ⟨rfl, rfl⟩ := h
  exact ⟨rfl, fun _ => st, rfl, rfl, fun k o e => by simp at e⟩
 | o :: l, st, stf, rs, h => by
  simp only [evL] at h
  split at h
  ·rename_i st1 F W h1
   split at h
   ·rename_i st2 rs' h2
    simp only [Option.some.injEq, Prod.mk.injEq] at h
    obtain ⟨rfl, rfl⟩ := h
    obtain ⟨g1, f, g2, g3, g4⟩ := evL_tr h2
    refine ⟨by simp [g1], fun k => match k with | 0 => st | k + 1 => f k, rfl, g3, fun k o' e => ?_⟩
    cases k with
    | zero =>
     rw [List.getElem?_cons_zero] at e
     cases e
     exact ⟨F, W, by rw [h1, <- g2], by rw [<- g2]; rfl⟩
    | succ k => simpa using g4 k o' (by simpa using e)
   ·cases h
  ·cases h
theorem evL_seq (hcall : CallOK P call) (hnm : named P = true) (hcl : ∀ f args H n r, call f args H n = some r -> ∃ fn, P.funcs[f]? = some fn /\ fn.body.isSome = true) {ops : Array Oper} {nt : Nat} : ∀ {l : List Oper} {st stf : St} {rs : List (Nat × Nat × Nat)}, evL call P ops nt l st = some (stf, rs) ->
  Inv (hg st.H) (hg stf.H) st.n stf.n (orL1 rs) (orL2 rs) /\
  ∀ σ D w a Q, RA σ D nt st.A a -> Sat σ D (rst (tb (orL1 rs)) (hg st.H)) w -> (∀ i, st.n <= i -> hg st.H i = none) -> (∀ i, st.n <= i -> i < stf.n -> ¬ D i) ->
   (∀ σ' a' w', RA σ' (more D st.n stf.n) nt stf.A a' -> a'.defers = a.defers -> Out σ D w (rst (tb (orL1 rs)) (hg st.H)) (aft (tb (orL1 rs)) st.n stf.n (hg stf.H)) st.n stf.n (tb (orL2 rs)) σ' w' -> Q .normal a' w') -> wpList P ops Q l a w
 | [], st, stf, rs, h => by
  simp only [evL, Option.some.injEq, Prod.mk.injEq] at h
  obtain ⟨rfl, rfl⟩ := h
  exact ⟨Inv.refl _ _, fun σ D w a Q hA hs _ _ hQ => hQ σ a w ⟨hA.1, fun t s e => ⟨(hA.2 t s e).1, (hA.2 t s e).2.ext (fun _ _ => rfl) (fun _ h => .inl h)⟩⟩ rfl (out_refl hs)⟩
 | o :: l, st, stf, rs, h => by
  simp only [evL] at h
  split at h
  ·rename_i st1 F W h1
   split at h
   ·rename_i st2 rs' h2
    simp only [Option.some.injEq, Prod.mk.injEq] at h
    obtain ⟨rfl, rfl⟩ := h
    obtain ⟨i1, s, p1, p2, p3⟩ := stepG_ok hcall hnm hcl h1
    obtain ⟨i2, q⟩ := evL_seq hcall hnm hcl h2
    refine ⟨i1.seq i2, fun σ D w a Q hA hs hdom hD hQ => ?_⟩
    have hF1 : ∀ i, tb F i = true -> tb (F ||| orL1 rs') i = true := fun i h => by rw [tb_or, h]; rfl
    have hF2 : ∀ i, tb (orL1 rs') i = true -> tb (F ||| orL1 rs') i = true := fun i h => by rw [tb_or, h, Bool.or_true]
    refine wpList_step fun K hK => p3 σ D w a K Q (fun t _ => hA.2 t) hA.1 (hs.sub fun i ob e => ?_) hdom (fun i h1 h2 => hD i h1 (Nat.lt_of_lt_of_le h2 i2.le)) (fun σ1 v w1 hv ho => hK _ _ ?_)
    ·obtain ⟨e1, e2⟩ := rst_some.1 e
     exact rst_some.2 ⟨hF1 i e1, e2⟩
    ·obtain ⟨s1, _, hfin⟩ := out_seq (F := F ||| orL1 rs') (W2 := orL2 rs') (F2 := orL1 rs') (H2 := hg st2.H) (n2 := st2.n) (σ2 := σ1) (w2 := w1) hF1 hF2 hdom i1 i2 hs hD ho
     have hA1 : RA σ1 (more D st.n st1.n) nt st1.A (a.put o.dst v) := hA.put (fun i hi => ho.same i (fun ⟨x, y⟩ => hD i x (Nat.lt_of_lt_of_le y i2.le) hi)) (fun _ h => .inl h) p1 p2 hv
     refine q σ1 _ w1 _ Q hA1 s1 (i1.dom hdom) (fun i h1 h2 hm => hm.elim (hD i (Nat.le_trans i1.le h1) h2) (fun ⟨_, y⟩ => by omega)) (fun σ2 a2 w2 hA2 hd2 ho2 => ?_)
     obtain ⟨_, _, hfin⟩ := out_seq (F := F ||| orL1 rs') hF1 hF2 hdom i1 i2 hs hD ho (σ2 := σ2) (w2 := w2)
     have hO := hfin ho2
     rw [more_more i1.le i2.le] at hA2
     refine hQ σ2 a2 w2 hA2 (by rw [hd2]; cases o.dst <;> rfl) ?_
     have e : (fun i => tb W i || tb (orL2 rs') i) = tb (orL2 ((F, W, nwm st.n st1.n) :: rs')) := by
      funext i; rw [orL2, tb_or]
     rw [<- e]
     exact hO
   ·cases h
  ·cases h
theorem memOk_0 {L : List Nat} {rs : List (Nat × Nat)} (h : ∀ (k : Nat) (r : Nat × Nat), rs[k]? = some r -> r.2 = 0) : memOk L rs = true := by
 unfold memOk allN
 rw [List.all_eq_true]
 intro j hj
 split
 ·rename_i Fj Wj e
  rw [List.all_eq_true]
  intro i hi
  rw [Bool.or_eq_true]
  refine .inr ?_
  split
  ·rename_i Fi Wi e2
   have h1 : Wj = 0 := h j _ e
   have h2 : Wi = 0 := h i _ e2
   subst h1; subst h2
   simp
  ·rfl
 ·rfl
theorem Inv.congr {H H' : Heap} {n n' F F' W W' : Nat} (h : Inv H H' n n' F W) (hF : tb F = tb F') (hW : tb W = tb W') : Inv H H' n n' F' W' :=
 ⟨h.le, fun i hi e => h.low i hi (by rw [hW]; exact e), h.dom, fun i hi e => by rw [<- hF]; exact h.sub i hi (by rw [hW]; exact e)⟩
theorem evR_ok (hcall : CallOK P call) (hnm : named P = true) (hcl : ∀ f args H n r, call f args H n = some r -> ∃ fn, P.funcs[f]? = some fn /\ fn.body.isSome = true) (hmix : P.follows .mixedOrders = true) {id nt : Nat} {ops : Array Oper} {draw : Bool} {st st' : St} {x : X} {F W : Nat} (hreg : regsOk (.region id ops draw) = true) (h : evR call P nt ops draw st = some (x, st', F, W)) :
  CodeOK P nt (.region id ops draw) st x st' F W := by
 unfold evR at h
 split at h
 ·rename_i st2 rs hL
  split at h
  ·cases h
  ·rename_i hc
   simp only [Option.some.injEq, Prod.mk.injEq] at h
   obtain ⟨rfl, rfl, rfl, rfl⟩ := h
   cases draw with
   | false =>
    obtain ⟨i1, q⟩ := evL_seq hcall hnm hcl hL
    exact ⟨i1, fun σ D w a Q hA hs hdom hD hQ => wp_region_list (q σ D w a Q hA hs hdom hD hQ)⟩
   | true =>
    have hreg' : regOk ops = true := hreg
    obtain ⟨g1, f, g2, g3, g4⟩ := evL_tr hL
    have hsz : ops.toList.length = ops.size := by simp
    rw [hsz] at g1 g3
    have tot : ∀ k : Nat, ∃ F W, ∀ o, ops[k]? = some o -> stepG call P ops nt (f k) o = some (f (k + 1), F, W) /\ rs[k]? = some (F, W, nwm (f k).n (f (k + 1)).n) := fun k => by
     cases e : ops[k]? with
     | none => exact ⟨0, 0, fun o e => by cases e⟩
     | some o =>
      obtain ⟨F, W, a1, a2⟩ := g4 k o (by rw [Array.getElem?_toList]; exact e)
      exact ⟨F, W, fun o' e' => by cases e'; exact ⟨a1, a2⟩⟩
    have hF := fun k => Classical.choose_spec (tot k)
    let Fk : Nat -> Nat := fun k => Classical.choose (tot k)
    let Wk : Nat -> Nat := fun k => Classical.choose (hF k)
    have hst : ∀ k o, ops[k]? = some o -> stepG call P ops nt (f k) o = some (f (k + 1), Fk k, Wk k) /\ rs[k]? = some (Fk k, Wk k, nwm (f k).n (f (k + 1)).n) := fun k => Classical.choose_spec (hF k)
    have hinv : ∀ k, k < ops.size -> Inv (hg (f k).H) (hg (f (k + 1)).H) (f k).n (f (k + 1)).n (Fk k) (Wk k) := fun k hk => (stepG_ok hcall hnm hcl (hst k _ (Array.getElem?_eq_getElem hk)).1).1
    have e1 : tb (orF Fk ops.size) = tb (orL1 rs) := by
     funext i
     rw [Bool.eq_iff_iff, tb_orF, tb_orL1]
     constructor
     ·rintro ⟨k, h1, h2⟩
      exact ⟨k, _, (hst k _ (Array.getElem?_eq_getElem h1)).2, h2⟩
     ·rintro ⟨k, r, h1, h2⟩
      have hk : k < ops.size := by rw [<- g1]; exact (List.getElem?_eq_some_iff.1 h1).1
      rw [(hst k _ (Array.getElem?_eq_getElem hk)).2] at h1
      cases h1
      exact ⟨k, hk, h2⟩
    have e2 : tb (orF Wk ops.size) = tb (orL2 rs) := by
     funext i
     rw [Bool.eq_iff_iff, tb_orF, tb_orL2]
     constructor
     ·rintro ⟨k, h1, h2⟩
      exact ⟨k, _, (hst k _ (Array.getElem?_eq_getElem h1)).2, h2⟩
     ·rintro ⟨k, r, h1, h2⟩
      have hk : k < ops.size := by rw [<- g1]; exact (List.getElem?_eq_some_iff.1 h1).1
      rw [(hst k _ (Array.getElem?_eq_getElem hk)).2] at h1
      cases h1
      exact ⟨k, hk, h2⟩
    have hrs : rs.map (fun r => (r.1, r.2.1 ||| r.2.2)) = (List.range ops.size).map fun k => (Fk k, Wk k ||| nwm (f k).n (f (k + 1)).n) := by
     apply List.ext_getElem?
     intro k
     rw [List.getElem?_map, List.getElem?_map]
     by_cases hk : k < ops.size
     ·rw [(hst k _ (Array.getElem?_eq_getElem hk)).2, List.getElem?_range hk]; rfl
     ·rw [List.getElem?_eq_none (by omega), List.getElem?_eq_none (by simp; omega)]; rfl
    have hmem : memOk (befs ops.toList []) ((List.range ops.size).map fun k => (Fk k, Wk k ||| nwm (f k).n (f (k + 1)).n)) = true := by
     cases c : memOk (befs ops.toList []) (rs.map fun r => (r.1, r.2.1 ||| r.2.2)) with
     | true => rw [<- hrs]; exact c
     | false =>
      rw [c] at hc
      have hq : (orL2 rs == 0 && st.n == st2.n) = true := by
       cases hh : (orL2 rs == 0 && st.n == st2.n) with
       | true => rfl
       | false => rw [hh] at hc; exact (hc rfl).elim
      simp only [Bool.and_eq_true, beq_iff_eq] at hq
      obtain ⟨q1, q2⟩ := hq
      refine memOk_0 (fun k r e => ?_)
      rw [List.getElem?_map] at e
      cases e3 : (List.range ops.size)[k]? with
      | none => rw [e3] at e; cases e
      | some k' =>
       rw [e3] at e
       simp only [Option.map_some, Option.some.injEq] at e
       subst e
       obtain ⟨hlt, hkk⟩ := List.getElem?_eq_some_iff.1 e3
       have hk : k' < ops.size := by rw [<- hkk]; simpa using hlt
       have hW0 : Wk k' = 0 := by
        apply Nat.eq_of_testBit_eq
        intro i
        rw [Nat.zero_testBit]
        cases hb : (Wk k').testBit i with
        | false => rfl
        | true =>
         have : tb (orL2 rs) i = true := by rw [<- e2]; exact orF_mem hk hb
         rw [q1, tb_0] at this; cases this
       have hmono : ∀ m, m <= ops.size -> ∀ j, j <= m -> (f j).n <= (f m).n := fun m => by
        induction m with
        | zero => intro _ j hj; rw [Nat.le_zero.1 hj]; exact Nat.le_refl _
        | succ m ih =>
         intro hm j hj
         by_cases e : j = m + 1
         ·rw [e]; exact Nat.le_refl _
         ·exact Nat.le_trans (ih (by omega) j (by omega)) (hinv m (by omega)).le
       have hnn : (f k').n = (f (k' + 1)).n := by
        have a1 := hmono k' (by omega) 0 (Nat.zero_le _)
        have a2 := (hinv k' hk).le
        have a3 := hmono ops.size (Nat.le_refl _) (k' + 1) (by omega)
        rw [g2] at a1; rw [g3] at a3
        omega
       simp only [hW0, hnn, nwm, Nat.sub_self]
       rfl
    have i1 := inv_all (H := fun k => hg (f k).H) (N := fun k => (f k).n) hinv
    simp only [g2, g3] at i1
    refine ⟨i1.congr e1 e2, fun σ D w a Q hA hs hdom hD hQ => ?_⟩
    rw [<- g2] at hA hs hdom hD
    rw [<- g3] at hD
    refine region_any hmix hreg' (F := Fk) (W := Wk) hinv hmem (fun k o ho => ?_) hA (by rw [e1]; exact hs) hdom hD (fun σ' a' w' hA' hd' hO => ?_)
    ·exact (stepG_ok hcall hnm hcl (hst k o ho).1).2
    ·rw [g2, g3] at hA' hO
     rw [e1, e2] at hO
     exact hQ σ' a' w' hA' hd' hO
 ·cases h
end
end Ev
namespace Ev
open Go Go.RowKit Go.Maps
def LoopN (P : Program) (c : Code) (Q : Exit -> Act -> World -> Prop) : Nat -> Act -> World -> Prop
 | 0, _, _ => False
 | k + 1, a, w => c.wp P (Exit.then (LoopN P c Q k) Q) a w
theorem wp_loopN {P : Program} {c : Code} {Q : Exit -> Act -> World -> Prop} {k : Nat} {a : Act} {w : World} (h : LoopN P c Q k a w) : (Code.loop c).wp P Q a w := by
 intro b ks cs
 have key : ∀ k a w, LoopN P c Q k a w -> ∃ e a' w', Q e a' w' /\ Arrives P (lone (b.at a (.code c :: .inLoop c :: ks)) cs w) b ks cs e a' w' := by
  intro k
  induction k with
  | zero => intro a w h; exact h.elim
  | succ k ih =>
   intro a w h
   obtain ⟨e, a₁, w₁, hq, harr⟩ := h b (.inLoop c :: ks) cs
   cases e with
   | normal =>
    obtain ⟨e₂, a₂, w₂, hq₂, harr₂⟩ := ih a₁ w₁ hq
    exact ⟨e₂, a₂, w₂, hq₂, .of_steps (Steps.trans harr (.one step_inLoop)) harr₂⟩
   | exit id => exact ⟨_, a₁, w₁, hq, .pass (x := .inLoop c) rfl (fun _ _ => .inl (by simp)) harr⟩
   | goto l => exact ⟨_, a₁, w₁, hq, .pass (x := .inLoop c) rfl (fun _ _ => .inl (by simp)) harr⟩
   | ret => exact ⟨_, a₁, w₁, hq, .pass (x := .inLoop c) rfl (fun _ _ => .inl (by simp)) harr⟩
   | panic ch => exact ⟨_, a₁, w₁, hq, .pass (x := .inLoop c) rfl (fun _ _ => .inl (by simp)) harr⟩
   | outgrown => exact ⟨_, a₁, w₁, hq, .pass (x := .inLoop c) rfl (fun _ _ => .inl (by simp)) harr⟩
 obtain ⟨e, a', w', hq, harr⟩ := key k a w h
 exact ⟨e, a', w', hq, .of_steps (.one step_loop) harr⟩
section
variable {P : Program} {call : CallF}
theorem code_id {nt : Nat} {st : St} {c : Code} {x : X} (h : ∀ Q a w, Q x.out a w -> c.wp P Q a w) : CodeOK P nt c st x st 0 0 :=
 ⟨Inv.refl _ _, fun σ D w a Q hA hs _ _ hQ => h Q a w (hQ σ a w ⟨hA.1, fun t s e => ⟨(hA.2 t s e).1, (hA.2 t s e).2.ext (fun _ _ => rfl) (fun _ h => .inl h)⟩⟩ rfl (out_refl hs))⟩
theorem code_then {nt : Nat} {st st1 st2 : St} {a b : Code} {x : X} {F1 W1 F2 W2 : Nat} (i1 : Inv (hg st.H) (hg st1.H) st.n st1.n F1 W1) (i2 : Inv (hg st1.H) (hg st2.H) st1.n st2.n F2 W2) {σ σ1 : Nat -> Blk} {D : Nat -> Prop} {w w1 : World} {ac a1 : Act} {Q : Exit -> Act -> World -> Prop}
  (hs : Sat σ D (rst (tb (F1 ||| F2)) (hg st.H)) w) (hdom : ∀ i, st.n <= i -> hg st.H i = none) (hD : ∀ i, st.n <= i -> i < st2.n -> ¬ D i)
  (hQ : ∀ σ' a' w', RA σ' (more D st.n st2.n) nt st2.A a' -> a'.defers = ac.defers -> Out σ D w (rst (tb (F1 ||| F2)) (hg st.H)) (aft (tb (F1 ||| F2)) st.n st2.n (hg st2.H)) st.n st2.n (tb (W1 ||| W2)) σ' w' -> Q x.out a' w')
  (hd1 : a1.defers = ac.defers) (ho : Out σ D w (rst (tb F1) (hg st.H)) (aft (tb F1) st.n st1.n (hg st1.H)) st.n st1.n (tb W1) σ1 w1) :
  Sat σ1 (more D st.n st1.n) (rst (tb F2) (hg st1.H)) w1 /\ (∀ i, st1.n <= i -> hg st1.H i = none) /\ (∀ i, st1.n <= i -> i < st2.n -> ¬ more D st.n st1.n i) /\
   ∀ σ' a' w', RA σ' (more (more D st.n st1.n) st1.n st2.n) nt st2.A a' -> a'.defers = a1.defers -> Out σ1 (more D st.n st1.n) w1 (rst (tb F2) (hg st1.H)) (aft (tb F2) st1.n st2.n (hg st2.H)) st1.n st2.n (tb W2) σ' w' -> Q x.out a' w' := by
 have hF1 : ∀ i, tb F1 i = true -> tb (F1 ||| F2) i = true := fun i h => by rw [tb_or, h]; rfl
 have hF2 : ∀ i, tb F2 i = true -> tb (F1 ||| F2) i = true := fun i h => by rw [tb_or, h, Bool.or_true]
 refine ⟨(out_seq (σ2 := σ1) (w2 := w1) hF1 hF2 hdom i1 i2 hs hD ho).1, i1.dom hdom, fun i h1 h2 hm => hm.elim (hD i (Nat.le_trans i1.le h1) h2) (fun ⟨_, y⟩ => by omega), fun σ2 a2 w2 hA2 hd2 ho2 => ?_⟩
 have hO := (out_seq (σ2 := σ2) (w2 := w2) hF1 hF2 hdom i1 i2 hs hD ho).2.2 ho2
 rw [more_more i1.le i2.le] at hA2
 refine hQ σ2 a2 w2 hA2 (hd2.trans hd1) ?_
 have e : (fun i => tb W1 i || tb W2 i) = tb (W1 ||| W2) := by funext i; rw [tb_or]
 rw [<- e]
 exact hO
theorem sat_left {σ : Nat -> Blk} {D : Nat -> Prop} {w : World} {H : Heap} {F1 F2 : Nat} (hs : Sat σ D (rst (tb (F1 ||| F2)) H) w) : Sat σ D (rst (tb F1) H) w := hs.sub fun i ob e => by
 obtain ⟨e1, e2⟩ := rst_some.1 e
 exact rst_some.2 ⟨by rw [tb_or, e1]; rfl, e2⟩
theorem iter_ok {nt : Nat} {c : Code} {f : St -> CRes} (hf : ∀ st x st' F W, f st = some (x, st', F, W) -> CodeOK P nt c st x st' F W) : ∀ {k : Nat} {st : St} {x : X} {st' : St} {F W : Nat}, iter f k st = some (x, st', F, W) ->
  Inv (hg st.H) (hg st'.H) st.n st'.n F W /\
  ∀ σ D w a Q, RA σ D nt st.A a -> Sat σ D (rst (tb F) (hg st.H)) w -> (∀ i, st.n <= i -> hg st.H i = none) -> (∀ i, st.n <= i -> i < st'.n -> ¬ D i) ->
   (∀ σ' a' w', RA σ' (more D st.n st'.n) nt st'.A a' -> a'.defers = a.defers -> Out σ D w (rst (tb F) (hg st.H)) (aft (tb F) st.n st'.n (hg st'.H)) st.n st'.n (tb W) σ' w' -> Q x.out a' w') -> LoopN P c Q k a w
 | 0, _, _, _, _, _, h => by simp [iter] at h
 | k + 1, st, x, st', F, W, h => by
  simp only [iter] at h
  split at h
  ·rename_i st1 F1 W1 h1
   split at h
   ·rename_i x2 st2 F2 W2 h2
    simp only [Option.some.injEq, Prod.mk.injEq] at h
    obtain ⟨rfl, rfl, rfl, rfl⟩ := h
    obtain ⟨i1, q1⟩ := hf _ _ _ _ _ h1
    obtain ⟨i2, q2⟩ := iter_ok hf h2
    refine ⟨i1.seq i2, fun σ D w a Q hA hs hdom hD hQ => ?_⟩
    refine q1 σ D w a _ hA (sat_left hs) hdom (fun i g1 g2 => hD i g1 (Nat.lt_of_lt_of_le g2 i2.le)) (fun σ1 a1 w1 hA1 hd1 ho => ?_)
    obtain ⟨r1, r2, r3, r4⟩ := code_then (a := c) (b := c) i1 i2 hs hdom hD hQ hd1 ho
    exact q2 σ1 _ w1 a1 Q hA1 r1 r2 r3 r4
   ·cases h
  ·rename_i hne
   obtain ⟨i1, q1⟩ := hf _ _ _ _ _ h
   refine ⟨i1, fun σ D w a Q hA hs hdom hD hQ => q1 σ D w a _ hA hs hdom hD (fun σ1 a1 w1 hA1 hd1 ho => ?_)⟩
   have := hQ σ1 a1 w1 hA1 hd1 ho
   cases x with
   | nm => exact (hne _ _ _ h).elim
   | ex id => exact this
   | rt => exact this
theorem evC_ok (hcall : CallOK P call) (hnm : named P = true) (hcl : ∀ f args H n r, call f args H n = some r -> ∃ fn, P.funcs[f]? = some fn /\ fn.body.isSome = true) (hmix : P.follows .mixedOrders = true) {nt N : Nat} : ∀ (c : Code), regsOk c = true -> ∀ st x st' F W, evC call P nt N c st = some (x, st', F, W) -> CodeOK P nt c st x st' F W
 | .skip, _, st, x, st', F, W, h => by
  simp only [evC, Option.some.injEq, Prod.mk.injEq] at h
  obtain ⟨rfl, rfl, rfl, rfl⟩ := h
  exact code_id fun Q a w q => wp_skip q
 | .label l, _, st, x, st', F, W, h => by
  simp only [evC, Option.some.injEq, Prod.mk.injEq] at h
  obtain ⟨rfl, rfl, rfl, rfl⟩ := h
  exact code_id fun Q a w q => wp_label q
 | .exit id, _, st, x, st', F, W, h => by
  simp only [evC, Option.some.injEq, Prod.mk.injEq] at h
  obtain ⟨rfl, rfl, rfl, rfl⟩ := h
  exact code_id fun Q a w q => wp_exit q
 | .ret, _, st, x, st', F, W, h => by
  simp only [evC, Option.some.injEq, Prod.mk.injEq] at h
  obtain ⟨rfl, rfl, rfl, rfl⟩ := h
  exact code_id fun Q a w q => wp_ret q
 | .region id ops draw, hr, st, x, st', F, W, h => evR_ok hcall hnm hcl hmix hr (by simpa only [evC] using h)
 | .seq a b, hr, st, x, st', F, W, h => by
  simp only [regsOk, Bool.and_eq_true] at hr
  simp only [evC] at h
  split at h
  ·rename_i st1 F1 W1 h1
   split at h
   ·rename_i x2 st2 F2 W2 h2
    simp only [Option.some.injEq, Prod.mk.injEq] at h
    obtain ⟨rfl, rfl, rfl, rfl⟩ := h
    obtain ⟨i1, q1⟩ := evC_ok hcall hnm hcl hmix a hr.1 _ _ _ _ _ h1
    obtain ⟨i2, q2⟩ := evC_ok hcall hnm hcl hmix b hr.2 _ _ _ _ _ h2
    refine ⟨i1.seq i2, fun σ D w ac Q hA hs hdom hD hQ => wp_seq ?_⟩
    refine q1 σ D w ac _ hA (sat_left hs) hdom (fun i g1 g2 => hD i g1 (Nat.lt_of_lt_of_le g2 i2.le)) (fun σ1 a1 w1 hA1 hd1 ho => ?_)
    obtain ⟨r1, r2, r3, r4⟩ := code_then (a := a) (b := b) i1 i2 hs hdom hD hQ hd1 ho
    exact q2 σ1 _ w1 a1 Q hA1 r1 r2 r3 r4
   ·cases h
  ·rename_i hne
   obtain ⟨i1, q1⟩ := evC_ok hcall hnm hcl hmix a hr.1 _ _ _ _ _ h
   refine ⟨i1, fun σ D w ac Q hA hs hdom hD hQ => wp_seq (q1 σ D w ac _ hA hs hdom hD (fun σ1 a1 w1 hA1 hd1 ho => ?_))⟩
   have := hQ σ1 a1 w1 hA1 hd1 ho
   cases x with
   | nm => exact (hne _ _ _ h).elim
   | ex id => exact this
   | rt => exact this
 | .cond c a b, hr, st, x, st', F, W, h => by
  simp only [regsOk, Bool.and_eq_true] at hr
  simp only [evC] at h
  split at h
  ·rename_i hc
   obtain ⟨i1, q1⟩ := evC_ok hcall hnm hcl hmix a hr.1 _ _ _ _ _ h
   exact ⟨i1, fun σ D w ac Q hA hs hdom hD hQ => wp_cond_true ((opA_ok hA).c hc) (q1 σ D w ac Q hA hs hdom hD hQ)⟩
  ·rename_i hc
   obtain ⟨i1, q1⟩ := evC_ok hcall hnm hcl hmix b hr.2 _ _ _ _ _ h
   exact ⟨i1, fun σ D w ac Q hA hs hdom hD hQ => wp_cond_false ((opA_ok hA).c hc) (q1 σ D w ac Q hA hs hdom hD hQ)⟩
  ·cases h
 | .block id c, hr, st, x, st', F, W, h => by
  have hr' : regsOk c = true := hr
  simp only [evC] at h
  split at h
  ·rename_i id' st1 F1 W1 h1
   simp only [Option.some.injEq, Prod.mk.injEq] at h
   obtain ⟨rfl, rfl, rfl, rfl⟩ := h
   obtain ⟨i1, q1⟩ := evC_ok hcall hnm hcl hmix c hr' _ _ _ _ _ h1
   refine ⟨i1, fun σ D w ac Q hA hs hdom hD hQ => wp_block (q1 σ D w ac _ hA hs hdom hD (fun σ1 a1 w1 hA1 hd1 ho => ?_))⟩
   have := hQ σ1 a1 w1 hA1 hd1 ho
   show if id' = id then Q .normal a1 w1 else Q (.exit id') a1 w1
   by_cases e : id' = id
   ·rw [if_pos e]; simpa [e, X.out] using this
   ·rw [if_neg e]; simpa [e, X.out] using this
  ·rename_i hne
   obtain ⟨i1, q1⟩ := evC_ok hcall hnm hcl hmix c hr' _ _ _ _ _ h
   refine ⟨i1, fun σ D w ac Q hA hs hdom hD hQ => wp_block (q1 σ D w ac _ hA hs hdom hD (fun σ1 a1 w1 hA1 hd1 ho => ?_))⟩
   have := hQ σ1 a1 w1 hA1 hd1 ho
   cases x with
   | nm => exact this
   | ex id => exact (hne _ _ _ _ h).elim
   | rt => exact this
 | .loop c, hr, st, x, st', F, W, h => by
  have hr' : regsOk c = true := hr
  simp only [evC] at h
  obtain ⟨i1, q1⟩ := iter_ok (fun st x st' F W h => evC_ok hcall hnm hcl hmix c hr' st x st' F W h) h
  exact ⟨i1, fun σ D w ac Q hA hs hdom hD hQ => wp_loopN (q1 σ D w ac Q hA hs hdom hD hQ)⟩
 | .rangeFunc .., _, _, _, _, _, _, h => by simp [evC] at h
 | .scope _, _, _, _, _, _, _, h => by simp [evC] at h
 | .goto _, _, _, _, _, _, _, h => by simp [evC] at h
 | .refuse _, _, _, _, _, _, _, h => by simp [evC] at h
def argT : Nat -> List S -> T S -> Option (T S)
 | _, [], A => some A
 | i, s :: l, A => match A.put dep i s with
  | some A' => argT (i + 1) l A'
  | none => none
def resL (P : Program) (H : Heap) (A : T S) : List ResultVar -> Option (List V × Nat)
 | [] => some ([], 0)
 | .tmp t :: l => match S.v? (A.get t), resL P H A l with
  | some v, some (m, F) => some (v :: m, F)
  | _, _ => none
 | .cell p ty :: l => match S.c? (A.get p), resL P H A l with
  | some (.ptr i off), some (m, F) => match aLd P H ty i off with
   | some v => some (v :: m, one i ||| F)
   | none => none
  | _, _ => none
def resS : List V -> S | [v] => .v v | l => .tup l
abbrev Orc := FuncId -> List S -> HT -> Nat -> Option (S × HT × Nat × Nat × Nat)
def noOrc : Orc := fun _ _ _ _ => none
def evF (orc : Orc) (P : Program) (N : Nat) : Nat -> CallF
 | 0, _, _, _, _ => none
 | k + 1, f, args, H, n => match orc f args H n with
  | some r => some r
  | none => match P.funcs[f]? with
   | some fn => match fn.body with
    | some c => if args.length <= fn.ntmps then
      match argT 0 args .lf with
      | some A => match evC (evF orc P N k) P fn.ntmps N c ⟨A, H, n⟩ with
       | some (.rt, st, F, W) => (resL P (hg st.H) st.A fn.results.toList).map fun r => (resS r.1, st.H, st.n, F ||| r.2, W)
       | some (.nm, st, F, W) => (resL P (hg st.H) st.A fn.results.toList).map fun r => (resS r.1, st.H, st.n, F ||| r.2, W)
       | _ => none
      | none => none
     else none
    | none => none
   | none => none
end
end Ev
namespace Ev
open Go Go.RowKit Go.Maps
theorem argT_ok : ∀ {i : Nat} {l : List S} {A A' : T S}, argT i l A = some A' -> ∀ t, A'.get t = if i <= t /\ t < i + l.length then l[t - i]? else A.get t
 | i, [], A, A', h, t => by
  simp only [argT, Option.some.injEq] at h; subst h
  rw [if_neg (fun ⟨_, h⟩ => by simp at h; omega)]
 | i, s :: l, A, A', h, t => by
  simp only [argT] at h
  split at h
  ·rename_i A1 h1
   rw [argT_ok h t, T.get_put h1]
   by_cases e : t = i
   ·subst e
    rw [if_neg (by omega), if_pos rfl, if_pos (by simp)]
    simp
   ·by_cases c : i + 1 <= t /\ t < i + 1 + l.length
    ·rw [if_pos c, if_pos (by simp; omega)]
     obtain ⟨j, hj⟩ : ∃ j, t - i = j + 1 := ⟨t - i - 1, by omega⟩
     rw [hj, List.getElem?_cons_succ]
     congr 1; omega
    ·rw [if_neg c, if_neg e, if_neg (by simp; omega)]
  ·cases h
theorem RSL.length {σ : Nat -> Blk} {D : Nat -> Prop} : ∀ {l : List S} {m : List Value}, RSL σ D l m -> m.length = l.length
 | [], [], _ => rfl
 | _ :: _, _ :: _, h => by rw [List.length_cons, List.length_cons, h.2.length]
theorem RSL.get {σ : Nat -> Blk} {D : Nat -> Prop} : ∀ {l : List S} {m : List Value} {j : Nat} {c : S}, RSL σ D l m -> l[j]? = some c -> ∃ v, m[j]? = some v /\ RS σ D c v
 | [], [], _, _, _, e => by cases e
 | a :: l, v :: m, 0, c, h, e => by
  rw [List.getElem?_cons_zero] at e
  cases e
  exact ⟨v, rfl, h.1⟩
 | a :: l, v :: m, j + 1, c, h, e => h.2.get (by simpa using e)
section
variable {P : Program}
def resRun (tmps : Array Value) : ResultVar -> Sem Value
 | .tmp t => pure (tmps.getD t undef)
 | .cell a t => do loadVar t (<- asAddr (tmps.getD a undef))
theorem results_eq (fn : Func) (tmps : Array Value) : results fn tmps = (do let vs <- fn.results.mapM (resRun tmps); pure (if h : vs.size = 1 then vs[0] else .tuple vs)) := by
 unfold results
 congr 1
theorem resL_ok {σ : Nat -> Blk} {D : Nat -> Prop} {nt F : Nat} {H : Heap} {A : T S} {a : Act} {w : World} (hA : RA σ D nt A a) (hs : Sat σ D (rst (tb F) H) w) : ∀ {l : List ResultVar} {m : List V} {F' : Nat}, resL P H A l = some (m, F') -> (∀ i, tb F' i = true -> tb F i = true) ->
  ∃ vs : List Value, RVL σ D m vs /\ (l.mapM (resRun a.tmps) : Sem (List Value)).run P w = .ok vs w
 | [], m, F', h, _ => by
  simp only [resL, Option.some.injEq, Prod.mk.injEq] at h
  obtain ⟨rfl, rfl⟩ := h
  exact ⟨[], trivial, rfl⟩
 | .tmp t :: l, m, F', h, hF => by
  simp only [resL] at h
  split at h
  ·rename_i v m' F1 h1 h2
   simp only [Option.some.injEq, Prod.mk.injEq] at h
   obtain ⟨rfl, rfl⟩ := h
   obtain ⟨vs, g1, g2⟩ := resL_ok hA hs h2 hF
   obtain ⟨k1, k2⟩ := hA.2 t _ (v?_some h1)
   refine ⟨a.tmps.getD t undef :: vs, ⟨k2, g1⟩, ?_⟩
   simp only [List.mapM_cons, resRun, Sem.run_bind, Sem.run_pure, Result.andThen_ok, g2]
  ·cases h
 | .cell p ty :: l, m, F', h, hF => by
  simp only [resL] at h
  split at h
  ·rename_i i off m' F1 h1 h2
   split at h
   ·rename_i v hv
    simp only [Option.some.injEq, Prod.mk.injEq] at h
    obtain ⟨rfl, rfl⟩ := h
    obtain ⟨vs, g1, g2⟩ := resL_ok hA hs h2 (fun i hi => hF i (by rw [tb_or, hi, Bool.or_true]))
    obtain ⟨k1, k2⟩ := hA.2 p _ (c?_some h1)
    have hp : a.tmps.getD p undef = .pointer (some (adr (σ i) off)) := k2.2
    obtain ⟨u, u1, u2⟩ := aLd_ok (P := P) hs (hF i (by rw [tb_or, tb_one]; rfl)) hv
    refine ⟨u :: vs, ⟨u1, g1⟩, ?_⟩
    simp only [List.mapM_cons, resRun, Sem.run_bind, Sem.run_pure, Result.andThen_ok, hp, asAddr, u2, g2]
   ·cases h
  ·cases h
theorem RVL.length {σ : Nat -> Blk} {D : Nat -> Prop} : ∀ {l : List V} {m : List Value}, RVL σ D l m -> m.length = l.length
 | [], [], _ => rfl
 | _ :: _, _ :: _, h => by rw [List.length_cons, List.length_cons, h.2.length]
theorem res_ok {σ : Nat -> Blk} {D : Nat -> Prop} {nt F : Nat} {H : Heap} {A : T S} {a : Act} {w : World} {fn : Func} {m : List V} {F' : Nat} (hA : RA σ D nt A a) (hs : Sat σ D (rst (tb F) H) w) (h : resL P H A fn.results.toList = some (m, F')) (hF : ∀ i, tb F' i = true -> tb F i = true) :
  ∃ v, RS σ D (resS m) v /\ (results fn a.tmps).run P w = .ok v w := by
 obtain ⟨vs, g1, g2⟩ := resL_ok hA hs h hF
 have hlen := g1.length
 have hrun : (fn.results.mapM (resRun a.tmps) : Sem (Array Value)).run P w = .ok vs.toArray w := by
  rw [Array.mapM_eq_mapM_toList]
  simp only [Sem.run_map]
  rw [g2]
  rfl
 refine ⟨if h : vs.toArray.size = 1 then vs.toArray[0] else .tuple vs.toArray, ?_, ?_⟩
 ·by_cases h1 : vs.length = 1
  ·obtain ⟨v, rfl⟩ := List.length_eq_one_iff.1 h1
   obtain ⟨x, rfl⟩ := List.length_eq_one_iff.1 (show m.length = 1 by simpa using hlen.symm)
   simpa [resS, RS] using g1.1
  ·rw [dif_neg (by simpa using h1)]
   have : resS m = .tup m := by
    unfold resS
    split
    ·rename_i v; simp at hlen; exact absurd hlen h1
    ·rfl
   rw [this]
   exact ⟨vs, g1, rfl⟩
 ·rw [results_eq, Sem.run_bind, hrun]
  rfl
def progOk (P : Program) : Bool := P.funcs.all fun fn => match fn.body with | some c => regsOk c | none => true
structure POk (P : Program) : Prop where
 mix : P.follows .mixedOrders = true
 name : named P = true
 regs : progOk P = true
def OrcOK (P : Program) (orc : Orc) : Prop := CallOK P orc /\ ∀ f args H n r, orc f args H n = some r -> ∃ fn, P.funcs[f]? = some fn /\ fn.body.isSome = true
theorem noOrc_ok : OrcOK P noOrc := ⟨fun f args H n s H' n' F W h => (by cases h), fun f args H n r h => (by cases h)⟩
theorem evF_body {orc : Orc} {N : Nat} (ho : OrcOK P orc) : ∀ {k : Nat} {f : FuncId} {args : List S} {H : HT} {n : Nat} {r}, evF orc P N k f args H n = some r -> ∃ fn, P.funcs[f]? = some fn /\ fn.body.isSome = true
 | 0, _, _, _, _, _, h => by simp [evF] at h
 | k + 1, f, args, H, n, r, h => by
  simp only [evF] at h
  split at h
  ·rename_i r' hr
   exact ho.2 _ _ _ _ _ hr
  ·split at h
   ·rename_i fn hfn
    split at h
    ·rename_i c hc
     exact ⟨fn, hfn, by rw [hc]; rfl⟩
    ·cases h
   ·cases h
theorem evF_ok {orc : Orc} {N : Nat} (ho : OrcOK P orc) (hP : POk P) : ∀ k, CallOK P (evF orc P N k)
 | 0 => fun f args H n s H' n' F W h => by simp [evF] at h
 | k + 1 => fun f args H n s H' n' F W h => by
  simp only [evF] at h
  split at h
  ·rename_i r hr
   simp only [Option.some.injEq] at h
   subst h
   exact ho.1 _ _ _ _ _ _ _ _ _ hr
  ·split at h
   ·rename_i fn hfn
    split at h
    ·rename_i c hc
     split at h
     ·rename_i hlen
      split at h
      ·rename_i A hAt
       have hreg : regsOk c = true := by
        have := hP.regs
        unfold progOk at this
        rw [Array.all_eq_true_iff_forall_mem] at this
        have h2 := this fn (Array.mem_of_getElem? hfn)
        rw [hc] at h2; exact h2
       have main : ∀ (x : X) (st : St) (F1 W1 : Nat), (x = .rt ∨ x = .nm) -> evC (evF orc P N k) P fn.ntmps N c ⟨A, H, n⟩ = some (x, st, F1, W1) -> (resL P (hg st.H) st.A fn.results.toList).map (fun r => (resS r.1, st.H, st.n, F1 ||| r.2, W1)) = some (s, H', n', F, W) ->
         Inv (hg H) (hg H') n n' F W /\ ∀ σ D w vals, RSL σ D args vals -> Sat σ D (rst (tb F) (hg H)) w -> (∀ i, n <= i -> hg H i = none) -> (∀ i, n <= i -> i < n' -> ¬ D i) ->
          Calls P f vals.toArray w fun e w' => ∃ v σ', e = .returned v /\ RS σ' (more D n n') s v /\ Out σ D w (rst (tb F) (hg H)) (aft (tb F) n n' (hg H')) n n' (tb W) σ' w' := by
        intro x st F1 W1 hx hev hres
        rw [Option.map_eq_some_iff] at hres
        obtain ⟨⟨m, F2⟩, hr, he⟩ := hres
        simp only [Prod.mk.injEq] at he
        obtain ⟨rfl, rfl, rfl, rfl, rfl⟩ := he
        obtain ⟨i1, q1⟩ := evC_ok (evF_ok ho hP k) hP.name (fun f args H n r h => evF_body ho h) hP.mix c hreg _ _ _ _ _ hev
        simp only at i1 q1
        have i2 : Inv (hg st.H) (hg st.H) st.n st.n F2 0 := ⟨Nat.le_refl _, fun _ _ _ => rfl, fun h => h, fun i _ h => by rw [tb_0] at h; cases h⟩
        have eW : tb (W1 ||| 0) = tb W1 := by funext i; rw [tb_or, tb_0, Bool.or_false]
        refine ⟨(i1.seq i2).congr rfl eW, fun σ D w vals hargs hs hdom hD => ?_⟩
        refine calls_of_wp hfn hc ?_
        have hvl := hargs.length
        have hA0 : RA σ D fn.ntmps A { tmps := vals.toArray ++ Array.replicate (fn.ntmps - vals.toArray.size) undef, defers := [] } := by
         refine ⟨by simp; omega, fun t s' e => ?_⟩
         rw [argT_ok hAt] at e
         split at e
         ·rename_i hc2
          obtain ⟨v, v1, v2⟩ := hargs.get e
          rw [Nat.sub_zero] at v1
          have hlt : t < vals.length := by omega
          refine ⟨by omega, ?_⟩
          have : (vals.toArray ++ Array.replicate (fn.ntmps - vals.toArray.size) undef).getD t undef = v := by
           rw [Array.getD_eq_getD_getElem?, Array.getElem?_append_left (by simpa using hlt)]
           simp [v1]
          show RS σ D s' ((vals.toArray ++ Array.replicate (fn.ntmps - vals.toArray.size) undef).getD t undef)
          rw [this]; exact v2
         ·unfold T.get at e; cases e
        have hF1 : ∀ i, tb F1 i = true -> tb (F1 ||| F2) i = true := fun i h => by rw [tb_or, h]; rfl
        have hF2 : ∀ i, tb F2 i = true -> tb (F1 ||| F2) i = true := fun i h => by rw [tb_or, h, Bool.or_true]
        refine q1 σ D w _ _ hA0 (sat_left hs) hdom hD (fun σ1 a1 w1 hA1 hd1 hO => ?_)
        obtain ⟨s1, _, hfin⟩ := out_seq (σ2 := σ1) (w2 := w1) hF1 hF2 hdom i1 i2 hs hD hO
        obtain ⟨v, r1, r2⟩ := res_ok (P := P) hA1 s1 hr (fun i h => h)
        have hOut := hfin (out_refl s1)
        have eW2 : (fun i => tb W1 i || tb 0 i) = tb W1 := by funext i; rw [tb_0, Bool.or_false]
        rw [eW2] at hOut
        have hR : ∃ v_1 σ', Ending.returned v = .returned v_1 /\ RS σ' (more D n st.n) (resS m) v_1 /\ Out σ D w (rst (tb (F1 ||| F2)) (hg H)) (aft (tb (F1 ||| F2)) n st.n (hg st.H)) n st.n (tb W1) σ' w1 := ⟨v, σ1, rfl, r1, hOut⟩
        rcases hx with rfl | rfl
        ·exact ⟨hd1, v, r2, hR⟩
        ·exact ⟨hd1, v, r2, hR⟩
       split at h
       ·rename_i st F1 W1 hev; exact main .rt st F1 W1 (.inl rfl) hev h
       ·rename_i st F1 W1 hev; exact main .nm st F1 W1 (.inr rfl) hev h
       ·cases h
      ·cases h
     ·cases h
    ·cases h
   ·cases h
theorem closed {orc : Orc} {N k : Nat} (ho : OrcOK P orc) (hP : POk P) {f : FuncId} {c : Bool} (h : (match evF orc P N k f [] .lf 0 with | some (.v (.c (.bool b)), _) => b == c | _ => false) = true) (w : World) :
  Calls P f #[] w fun e w' => e = .returned (.bool c) /\ Tch No w w' := by
 split at h
 ·rename_i b r he
  obtain ⟨H', n', F, W⟩ := r
  have hb : b = c := by simpa using h
  subst hb
  obtain ⟨_, q⟩ := evF_ok ho hP k f [] .lf 0 _ _ _ _ _ he
  have hlf : ∀ i, hg (.lf : HT) i = none := fun i => by simp [hg, T.get]
  refine (q (fun _ => ⟨0, 0⟩) (fun _ => False) w [] trivial ⟨fun i o e => ?_, fun i j e => ?_⟩ (fun i _ => hlf i) (fun _ _ _ h => h)).mono ?_
  ·obtain ⟨_, e⟩ := rst_some.1 e; rw [hlf] at e; cases e
  ·obtain ⟨x, hx⟩ := Option.isSome_iff_exists.1 e
   obtain ⟨_, e⟩ := rst_some.1 hx; rw [hlf] at e; cases e
  ·rintro e w' ⟨v, σ', rfl, h1, h2⟩
   refine ⟨by rw [show v = .bool b from h1], h2.tch.mono (fun k _ ⟨i, _, g, _⟩ => ?_)⟩
   obtain ⟨x, hx⟩ := Option.isSome_iff_exists.1 g
   obtain ⟨_, e⟩ := rst_some.1 hx; rw [hlf] at e; cases e
 ·cases h
end
end Ev
namespace Ev
open Go Go.RowKit Go.Maps
theorem pmix : Tryz.prog.follows .mixedOrders = true := by kernel_rfl
theorem pname : named Tryz.prog = true := by kernel_rfl
theorem pregs : progOk Tryz.prog = true := by kernel_rfl
theorem pok : POk Tryz.prog := ⟨pmix, pname, pregs⟩
end Ev
end Go.Proofs.YtafndmnbnmlklaaGreat
