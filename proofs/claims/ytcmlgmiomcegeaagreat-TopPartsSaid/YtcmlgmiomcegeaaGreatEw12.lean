/- Code of an abstract run: regions, what stands one behind the other, loops. No condition. -/
import Derived.Test.YtcmlgmiomcegeaaGreatEw11
namespace Go.Proofs.YtcmlgmiomcegeaaGreat.Ev
open Go Go.RowKit Go.Maps
set_option linter.unusedVariables false
set_option linter.unusedSimpArgs false
set_option linter.unusedSectionVars false
variable [Env]

noncomputable def evL (call : CallF) (P : Program) (ops : Array Oper) (nt : Nat) : List Oper → St → Option (St × List (Nat × Nat × Nat))
  | [], st => some (st, [])
  | o :: l, st => match stepG call P ops nt st o with
    | some (st1, F, W) => match evL call P ops nt l st1 with
      | some (st2, rs) => some (st2, (F, W, nwm st.n st1.n) :: rs)
      | none => none
    | none => none
noncomputable def orL1 : List (Nat × Nat × Nat) → Nat | [] => 0 | r :: l => r.1 ||| orL1 l
noncomputable def orL2 : List (Nat × Nat × Nat) → Nat | [] => 0 | r :: l => r.2.1 ||| orL2 l
inductive X | nm | ex (id : Nat) | rt
noncomputable def X.out : X → Exit | .nm => .normal | .ex id => .exit id | .rt => .ret
abbrev CRes := Option (X × St × Nat × Nat)
/-! ### The check of a region that draws, short -/
noncomputable def orB (a b : Bool) : Bool := Bool.rec (motive := fun _ => Bool) b true a
noncomputable def andB (a b : Bool) : Bool := Bool.rec (motive := fun _ => Bool) false b a
theorem orB_eq (a b : Bool) : orB a b = (a || b) := by cases a <;> rfl
theorem andB_eq (a b : Bool) : andB a b = (a && b) := by cases a <;> rfl
noncomputable def okP (F W F2 W2 : Nat) : Bool := andB (orB (Nat.beq W2 0) (Nat.beq (Nat.land W2 F) 0)) (orB (Nat.beq W 0) (andB (Nat.beq (Nat.land W F2) 0) (Nat.beq (Nat.land W W2) 0)))
noncomputable def chkEs (b F W : Nat) (es : List (Nat × Nat × Nat)) : Bool := List.rec (motive := fun _ => Bool) true (fun e _ ih => Prod.rec (motive := fun _ => Bool) (fun i fw => Prod.rec (motive := fun _ => Bool) (fun F0 W0 => andB (orB (Nat.testBit b i) (okP F0 W0 F W)) ih) fw) e) es
noncomputable def memF (L : List Nat) (rs : List (Nat × Nat × Nat)) : Nat → List (Nat × Nat × Nat) → Bool := List.rec (motive := fun _ => Nat → List (Nat × Nat × Nat) → Bool) (fun _ _ => true) (fun r _ ih j es => Prod.rec (motive := fun _ => Bool) (fun F ww => Prod.rec (motive := fun _ => Bool) (fun W nw => Bool.rec (motive := fun _ => Bool) (andB (chkEs (L.getD j 0) F (Nat.lor W nw) es) (ih (Nat.succ j) ((j, F, Nat.lor W nw) :: es))) (ih (Nat.succ j) es) (andB (Nat.beq (Nat.lor W nw) 0) (Nat.beq F 0))) ww) r) rs
theorem chkEs_mem {b F W : Nat} : ∀ {es : List (Nat × Nat × Nat)}, chkEs b F W es = true → ∀ e ∈ es, b.testBit e.1 = true ∨ okP e.2.1 e.2.2 F W = true
  | [], _, e, he => by cases he
  | (i, F0, W0) :: es, h, e, he => by
    have h' : andB (orB (Nat.testBit b i) (okP F0 W0 F W)) (chkEs b F W es) = true := h
    rw [andB_eq, orB_eq, Bool.and_eq_true, Bool.or_eq_true] at h'
    rcases List.mem_cons.1 he with rfl | he
    · exact h'.1
    · exact chkEs_mem h'.2 e he
theorem okP_0l (F W : Nat) : okP 0 0 F W = true := by
  unfold okP
  simp [andB_eq, orB_eq, show Nat.land W 0 = 0 from Nat.and_zero W]
theorem okP_0r (F W : Nat) : okP F W 0 0 = true := by
  unfold okP
  simp [andB_eq, orB_eq, show Nat.land W 0 = 0 from Nat.and_zero W]
theorem memF_pairs {L : List Nat} : ∀ {rs : List (Nat × Nat × Nat)} {j : Nat} {es : List (Nat × Nat × Nat)}, memF L rs j es = true →
    (∀ (k : Nat) (r : Nat × Nat × Nat), rs[k]? = some r → ∀ e ∈ es, (L.getD (j + k) 0).testBit e.1 = true ∨ okP e.2.1 e.2.2 r.1 (r.2.1 ||| r.2.2) = true) ∧
    ∀ (k l : Nat) (r s : Nat × Nat × Nat), k < l → rs[k]? = some r → rs[l]? = some s → (L.getD (j + l) 0).testBit (j + k) = true ∨ okP r.1 (r.2.1 ||| r.2.2) s.1 (s.2.1 ||| s.2.2) = true
  | [], j, es, _ => ⟨fun k r e => by simp at e, fun k l r s _ e => by simp at e⟩
  | (F, W, nw) :: rs, j, es, h => by
    have h' : Bool.rec (motive := fun _ => Bool) (andB (chkEs (L.getD j 0) F (Nat.lor W nw) es) (memF L rs (Nat.succ j) ((j, F, Nat.lor W nw) :: es))) (memF L rs (Nat.succ j) es) (andB (Nat.beq (Nat.lor W nw) 0) (Nat.beq F 0)) = true := h
    cases c : andB (Nat.beq (Nat.lor W nw) 0) (Nat.beq F 0) with
    | true =>
      rw [c] at h'
      rw [andB_eq, Bool.and_eq_true] at c
      have hW : W ||| nw = 0 := Nat.eq_of_beq_eq_true c.1
      have hF : F = 0 := Nat.eq_of_beq_eq_true c.2
      obtain ⟨a, b⟩ := memF_pairs h'
      refine ⟨fun k r e x hx => ?_, fun k l r s hkl e1 e2 => ?_⟩
      · cases k with
        | zero =>
          simp only [List.getElem?_cons_zero, Option.some.injEq] at e
          subst e
          right
          show okP x.2.1 x.2.2 F (W ||| nw) = true
          rw [hW, hF]; exact okP_0r _ _
        | succ k =>
          have := a k r (by simpa using e) x hx
          rwa [show Nat.succ j + k = j + (k + 1) by omega] at this
      · cases l with
        | zero => omega
        | succ l =>
          cases k with
          | zero =>
            simp only [List.getElem?_cons_zero, Option.some.injEq] at e1
            subst e1
            right
            show okP F (W ||| nw) _ _ = true
            rw [hW, hF]; exact okP_0l _ _
          | succ k =>
            have := b k l r s (by omega) (by simpa using e1) (by simpa using e2)
            rwa [show Nat.succ j + l = j + (l + 1) by omega, show Nat.succ j + k = j + (k + 1) by omega] at this
    | false =>
      rw [c] at h'
      have h2 : andB (chkEs (L.getD j 0) F (Nat.lor W nw) es) (memF L rs (Nat.succ j) ((j, F, Nat.lor W nw) :: es)) = true := h'
      rw [andB_eq, Bool.and_eq_true] at h2
      obtain ⟨a, b⟩ := memF_pairs h2.2
      refine ⟨fun k r e x hx => ?_, fun k l r s hkl e1 e2 => ?_⟩
      · cases k with
        | zero =>
          simp only [List.getElem?_cons_zero, Option.some.injEq] at e
          subst e
          exact chkEs_mem h2.1 x hx
        | succ k =>
          have := a k r (by simpa using e) x (List.mem_cons_of_mem _ hx)
          rwa [show Nat.succ j + k = j + (k + 1) by omega] at this
      · cases l with
        | zero => omega
        | succ l =>
          cases k with
          | zero =>
            simp only [List.getElem?_cons_zero, Option.some.injEq] at e1
            subst e1
            have := a l s (by simpa using e2) (j, F, Nat.lor W nw) (by simp)
            rwa [show Nat.succ j + l = j + (l + 1) by omega] at this
          | succ k =>
            have := b k l r s (by omega) (by simpa using e1) (by simpa using e2)
            rwa [show Nat.succ j + l = j + (l + 1) by omega, show Nat.succ j + k = j + (k + 1) by omega] at this
theorem okP_ok {F W F2 W2 : Nat} (h : okP F W F2 W2 = true) : ((W &&& F2 == 0) && (W2 &&& F == 0) && (W &&& W2 == 0)) = true := by
  unfold okP at h
  rw [andB_eq, orB_eq, orB_eq, andB_eq, Bool.and_eq_true, Bool.or_eq_true, Bool.or_eq_true, Bool.and_eq_true] at h
  obtain ⟨h1, h2⟩ := h
  have e : ∀ {a b : Nat}, Nat.beq a b = true → a = b := Nat.eq_of_beq_eq_true
  have a1 : W2 &&& F = 0 := by
    rcases h1 with h1 | h1
    · rw [e h1]; exact Nat.zero_and _
    · exact e h1
  have a2 : W &&& F2 = 0 ∧ W &&& W2 = 0 := by
    rcases h2 with h2 | h2
    · rw [e h2]; exact ⟨Nat.zero_and _, Nat.zero_and _⟩
    · exact ⟨e h2.1, e h2.2⟩
  simp [a1, a2.1, a2.2]
theorem memF_ok {L : List Nat} {rs : List (Nat × Nat × Nat)} (h : memF L rs 0 [] = true) : memOk L (rs.map fun r => (r.1, r.2.1 ||| r.2.2)) = true := by
  obtain ⟨_, h2⟩ := memF_pairs h
  unfold memOk allN
  simp only [List.all_eq_true, List.mem_range, List.length_map, List.getElem?_map]
  intro j hj
  rw [List.getElem?_eq_getElem hj]
  simp only [Option.map_some, List.all_eq_true, List.mem_range, Bool.or_eq_true]
  intro i hi
  rw [List.getElem?_eq_getElem (show i < rs.length by omega)]
  simp only [Option.map_some]
  rcases h2 i j _ _ hi (List.getElem?_eq_getElem (by omega)) (List.getElem?_eq_getElem hj) with h3 | h3
  · left; rwa [Nat.zero_add, Nat.zero_add] at h3
  · right; exact okP_ok h3
/-- What is asked of a region that draws. -/
noncomputable def okD (ops : Array Oper) (rs : List (Nat × Nat × Nat)) (n n2 : Nat) : Bool := orB (andB (Nat.beq (orL2 rs) 0) (Nat.beq n n2)) (memF (befs ops.toList []) rs 0 [])
noncomputable def evR (call : CallF) (P : Program) (nt : Nat) (ops : Array Oper) (draw : Bool) (st : St) : CRes := match evL call P ops nt ops.toList st with
  | some (st2, rs) => if draw && !okD ops rs st.n st2.n then none else some (.nm, st2, orL1 rs, orL2 rs)
  | none => none
noncomputable def iter (f : St → CRes) : Nat → St → CRes
  | 0, _ => none
  | k + 1, st => match f st with
    | some (.nm, st1, F1, W1) => match iter f k st1 with
      | some (x, st2, F2, W2) => some (x, st2, F1 ||| F2, W1 ||| W2)
      | none => none
    | r => r
/-- Rounds of a loop that are told from outside: where the loop may go on, what was looked at. -/
abbrev Hook := Code → Option (St → Option (St × Nat))
def noHook : Hook := fun _ => none
noncomputable def skipC (g : St → Option (St × Nat)) (it : St → CRes) (st : St) : CRes := match g st with
  | some (st1, F) => match it st1 with
    | some (x, st2, F2, W2) => some (x, st2, F ||| F2, W2)
    | none => none
  | none => it st
/-! ### Two branches of which nobody knows which one is gone -/
def eqCC : C → C → Bool
  | .bool a, .bool b => a == b
  | .int k a, .int k' b => decide (k = k') && decide (a = b)
  | .str a, .str b => a == b
  | .ptr i o, .ptr j p => Nat.beq i j && Nat.beq o p
  | .nilp, .nilp => true
  | .sl i o l (.ex c), .sl j p m (.ex d) => Nat.beq i j && Nat.beq o p && Nat.beq l m && Nat.beq c d
  | .sl i o l (.op c), .sl j p m (.op d) => Nat.beq i j && Nat.beq o p && Nat.beq l m && Nat.beq c d
  | .snil, .snil => true
  | .se, .se => true
  | .map i, .map j => Nat.beq i j
  | .mapn, .mapn => true
  | .nilf, .nilf => true
  | .nilI, .nilI => true
  | .ext i, .ext j => Nat.beq i j
  | .sg i m e, .sg j n f => Nat.beq i j && Nat.beq m n && (e == f)
  | .ge a, .ge b => decide (a = b)
  | .ub, .ub => true
  | _, _ => false
theorem eqCC_ok {a b : C} (h : eqCC a b = true) : a = b := by
  unfold eqCC at h
  split at h <;> first | rfl | (simp [Nat.beq_eq] at h; simp [h]) | (simp at h; simp [h]) | cases h
def eqSS : S → S → Bool
  | .v (.c a), .v (.c b) => eqCC a b
  | .un, .un => true
  | _, _ => false
theorem eqSS_ok {a b : S} (h : eqSS a b = true) : a = b := by
  unfold eqSS at h
  split at h
  · rw [eqCC_ok h]
  · rfl
  · cases h
/-- The slots that are the same in both. -/
noncomputable def meetT (A1 A2 : TS) : Nat → TS → Option TS
  | 0, B => some B
  | t + 1, B => match TS.get A1 t, TS.get A2 t with
    | some s1, some s2 => if eqSS s1 s2 = true then (match TS.put B t (some s1) with
      | some B' => meetT A1 A2 t B'
      | none => none) else meetT A1 A2 t B
    | _, _ => meetT A1 A2 t B
theorem meetT_ok {A1 A2 : TS} : ∀ {n : Nat} {B B' : TS}, meetT A1 A2 n B = some B' → (∀ t s, B.get t = some s → A1.get t = some s ∧ A2.get t = some s) → ∀ t s, B'.get t = some s → A1.get t = some s ∧ A2.get t = some s
  | 0, B, B', h, hB => by
    simp only [meetT, Option.some.injEq] at h
    subst h; exact hB
  | n + 1, B, B', h, hB => by
    simp only [meetT] at h
    split at h
    · rename_i s1 s2 h1 h2
      split at h
      · rename_i he
        have he' := eqSS_ok he
        subst he'
        split at h
        · rename_i B1 h3
          refine meetT_ok h (fun t s e => ?_)
          rw [TS.get_put h3] at e
          split at e
          · rename_i ht
            subst ht
            cases e
            exact ⟨h1, h2⟩
          · exact hB t s e
        · cases h
      · exact meetT_ok h hB
    · exact meetT_ok h hB
noncomputable def okJ (x : X) (n n' W : Nat) : Bool := X.rec (motive := fun _ => Bool) (andB (Nat.beq n n') (Nat.beq W 0)) (fun _ => false) false x
theorem okJ_ok {x : X} {n n' W : Nat} (h : okJ x n n' W = true) : x = .nm ∧ n' = n ∧ W = 0 := by
  cases x with
  | nm =>
    have h' : andB (Nat.beq n n') (Nat.beq W 0) = true := h
    rw [andB_eq, Bool.and_eq_true] at h'
    exact ⟨rfl, (Nat.eq_of_beq_eq_true h'.1).symm, Nat.eq_of_beq_eq_true h'.2⟩
  | ex id => cases h
  | rt => cases h
noncomputable def joinC (nt : Nat) (H : HT) (n : Nat) (ra rb : CRes) : CRes := match ra with
  | some (x1, s1, F1, W1) => match rb with
    | some (x2, s2, F2, W2) => if andB (okJ x1 n s1.n W1) (okJ x2 n s2.n W2) = true then (meetT s1.A s2.A nt TS.lf).map fun A => (.nm, ⟨A, H, n⟩, Nat.lor F1 F2, 0) else none
    | none => none
  | none => none
noncomputable def evC (hk : Hook) (call : CallF) (P : Program) (nt N : Nat) : Code → St → CRes
  | .skip, st => some (.nm, st, 0, 0)
  | .label _, st => some (.nm, st, 0, 0)
  | .region _ ops draw, st => evR call P nt ops draw st
  | .seq a b, st => match evC hk call P nt N a st with
    | some (.nm, st1, F1, W1) => match evC hk call P nt N b st1 with
      | some (x, st2, F2, W2) => some (x, st2, F1 ||| F2, W1 ||| W2)
      | none => none
    | r => r
  | .cond c a b, st => match S.c? (opA st.A c) with
    | some (.bool true) => evC hk call P nt N a st
    | some (.bool false) => evC hk call P nt N b st
    | some .ub => joinC nt st.H st.n (evC hk call P nt N a st) (evC hk call P nt N b st)
    | _ => none
  | .block id c, st => match evC hk call P nt N c st with
    | some (.ex id', st1, F, W) => some (if id' == id then .nm else .ex id', st1, F, W)
    | r => r
  | .loop c, st => match hk c with
    | some g => skipC g (iter (evC hk call P nt N c) N) st
    | none => iter (evC hk call P nt N c) N st
  | .exit id, st => some (.ex id, st, 0, 0)
  | .ret, st => some (.rt, st, 0, 0)
  | _, _ => none
/-- All regions of a piece of code that draw are in order. -/
noncomputable def regsOk : Code → Bool
  | .region _ ops true => regOk ops
  | .seq a b => regsOk a && regsOk b
  | .cond _ a b => regsOk a && regsOk b
  | .block _ c => regsOk c
  | .loop c => regsOk c
  | _ => true
/-- What is told of a piece of code. -/
noncomputable def CodeOK (P : Program) (nt : Nat) (c : Code) (st : St) (x : X) (st' : St) (F W : Nat) : Prop := Inv (hg st.H) (hg st'.H) st.n st'.n F W ∧
  ∀ σ D w a Q, RA σ D nt st.A a → Sat σ D (rst (tb F) (hg st.H)) w → (∀ i, st.n ≤ i → hg st.H i = none) → (∀ i, st.n ≤ i → i < st'.n → ¬ D i) →
    (∀ σ' a' w', RA σ' (more D st.n st'.n) nt st'.A a' → a'.defers = a.defers → Out σ D w (rst (tb F) (hg st.H)) (aft (tb F) st.n st'.n (hg st'.H)) st.n st'.n (tb W) σ' w' → Q x.out a' w') → c.wp P Q a w
/-- A loop that ends within so many rounds. -/
noncomputable def LoopN (P : Program) (c : Code) (Q : Exit → Act → World → Prop) : Nat → Act → World → Prop
  | 0, _, _ => False
  | k + 1, a, w => c.wp P (Exit.then (LoopN P c Q k) Q) a w
/-- A loop may go on there: the memory that it knows is what it was. -/
def SkipOK (P : Program) (nt : Nat) (c : Code) (st st' : St) (F : Nat) : Prop := st'.H = st.H ∧ st'.n = st.n ∧
  ∀ (σ : Nat → Blk) (D : Nat → Prop) (w : World) (a : Act) (Q : Exit → Act → World → Prop) (k : Nat), RA σ D nt st.A a → Sat σ D (rst (tb F) (hg st.H)) w → (∀ a' w', RA σ D nt st'.A a' → a'.defers = a.defers → Tch No w w' → LoopN P c Q k a' w') → ∃ k', LoopN P c Q k' a w
/-- What is told of loops from outside is so. -/
def HookOK (P : Program) (nt : Nat) (hk : Hook) : Code → Prop
  | .seq a b => HookOK P nt hk a ∧ HookOK P nt hk b
  | .cond _ a b => HookOK P nt hk a ∧ HookOK P nt hk b
  | .block _ c => HookOK P nt hk c
  | .loop c => (∀ g, hk c = some g → ∀ st st' F, g st = some (st', F) → SkipOK P nt c st st' F) ∧ HookOK P nt hk c
  | _ => True
theorem noHook_ok (P : Program) (nt : Nat) : ∀ c : Code, HookOK P nt noHook c
  | .seq a b => ⟨noHook_ok P nt a, noHook_ok P nt b⟩
  | .cond _ a b => ⟨noHook_ok P nt a, noHook_ok P nt b⟩
  | .block _ c => noHook_ok P nt c
  | .loop c => ⟨fun g (h : none = some g) => (by cases h), noHook_ok P nt c⟩
  | .skip => trivial
  | .region .. => trivial
  | .rangeFunc .. => trivial
  | .exit _ => trivial
  | .scope _ => trivial
  | .label _ => trivial
  | .goto _ => trivial
  | .ret => trivial
  | .refuse _ => trivial
theorem opA_ok {σ : Nat → Blk} {D : Nat → Prop} {nt : Nat} {A : TS} {a : Act} (h : RA σ D nt A a) : Eqv σ D (opA A) a.eval := by
  intro x s hx
  cases x with
  | tmp t => exact (h.2 t s hx).2
  | const v => exact constS_ok (show constS v = some s from hx)
  | func f =>
    simp only [opA, Option.some.injEq] at hx
    subst hx
    exact ⟨fun p hp => (by cases hp), rfl⟩
  | global g => simp [opA] at hx
theorem tb_orL1 {rs : List (Nat × Nat × Nat)} {i : Nat} : tb (orL1 rs) i = true ↔ ∃ (k : Nat) (r : Nat × Nat × Nat), rs[k]? = some r ∧ tb r.1 i = true := by
  induction rs with
  | nil => rw [orL1, tb_0]; simp
  | cons r l ih =>
    rw [orL1, tb_or, Bool.or_eq_true, ih]
    constructor
    · rintro (h | ⟨k, r', h1, h2⟩)
      · exact ⟨0, r, rfl, h⟩
      · exact ⟨k + 1, r', by simpa using h1, h2⟩
    · rintro ⟨k, r', h1, h2⟩
      cases k with
      | zero => simp at h1; subst h1; exact .inl h2
      | succ k => exact .inr ⟨k, r', by simpa using h1, h2⟩
theorem tb_orL2 {rs : List (Nat × Nat × Nat)} {i : Nat} : tb (orL2 rs) i = true ↔ ∃ (k : Nat) (r : Nat × Nat × Nat), rs[k]? = some r ∧ tb r.2.1 i = true := by
  induction rs with
  | nil => rw [orL2, tb_0]; simp
  | cons r l ih =>
    rw [orL2, tb_or, Bool.or_eq_true, ih]
    constructor
    · rintro (h | ⟨k, r', h1, h2⟩)
      · exact ⟨0, r, rfl, h⟩
      · exact ⟨k + 1, r', by simpa using h1, h2⟩
    · rintro ⟨k, r', h1, h2⟩
      cases k with
      | zero => simp at h1; subst h1; exact .inl h2
      | succ k => exact .inr ⟨k, r', by simpa using h1, h2⟩
theorem tb_orF {F : Nat → Nat} {i : Nat} : ∀ {m : Nat}, tb (orF F m) i = true ↔ ∃ k, k < m ∧ tb (F k) i = true
  | 0 => by rw [orF, tb_0]; simp
  | m + 1 => by
    rw [orF, tb_or, Bool.or_eq_true, tb_orF]
    constructor
    · rintro (⟨k, h1, h2⟩ | h)
      · exact ⟨k, by omega, h2⟩
      · exact ⟨m, by omega, h⟩
    · rintro ⟨k, h1, h2⟩
      by_cases e : k = m
      · subst e; exact .inr h2
      · exact .inl ⟨k, by omega, h2⟩
section
variable {P : Program} {call : CallF}
theorem evL_tr {ops : Array Oper} {nt : Nat} : ∀ {l : List Oper} {st stf : St} {rs : List (Nat × Nat × Nat)}, evL call P ops nt l st = some (stf, rs) → rs.length = l.length ∧ ∃ f : Nat → St, f 0 = st ∧ f l.length = stf ∧
    ∀ k o, l[k]? = some o → ∃ F W, stepG call P ops nt (f k) o = some (f (k + 1), F, W) ∧ rs[k]? = some (F, W, nwm (f k).n (f (k + 1)).n)
  | [], st, stf, rs, h => by
    simp only [evL, Option.some.injEq, Prod.mk.injEq] at h
    obtain ⟨rfl, rfl⟩ := h
    exact ⟨rfl, fun _ => st, rfl, rfl, fun k o e => by simp at e⟩
  | o :: l, st, stf, rs, h => by
    simp only [evL] at h
    split at h
    · rename_i st1 F W h1
      split at h
      · rename_i st2 rs' h2
        simp only [Option.some.injEq, Prod.mk.injEq] at h
        obtain ⟨rfl, rfl⟩ := h
        obtain ⟨g1, f, g2, g3, g4⟩ := evL_tr h2
        refine ⟨by simp [g1], fun k => match k with | 0 => st | k + 1 => f k, rfl, g3, fun k o' e => ?_⟩
        cases k with
        | zero =>
          rw [List.getElem?_cons_zero] at e
          cases e
          exact ⟨F, W, by rw [h1, ← g2], by rw [← g2]; rfl⟩
        | succ k => simpa using g4 k o' (by simpa using e)
      · cases h
    · cases h
/-- A region in the order of the text. -/
theorem evL_seq (hcall : CallOK P call) (hnm : named P = true) (hcl : ∀ f args H n r, call.call f args H n = some r → ∃ fn, P.funcs[f]? = some fn ∧ fn.body.isSome = true) {ops : Array Oper} {nt : Nat} : ∀ {l : List Oper} {st stf : St} {rs : List (Nat × Nat × Nat)}, evL call P ops nt l st = some (stf, rs) →
    Inv (hg st.H) (hg stf.H) st.n stf.n (orL1 rs) (orL2 rs) ∧
    ∀ σ D w a Q, RA σ D nt st.A a → Sat σ D (rst (tb (orL1 rs)) (hg st.H)) w → (∀ i, st.n ≤ i → hg st.H i = none) → (∀ i, st.n ≤ i → i < stf.n → ¬ D i) →
      (∀ σ' a' w', RA σ' (more D st.n stf.n) nt stf.A a' → a'.defers = a.defers → Out σ D w (rst (tb (orL1 rs)) (hg st.H)) (aft (tb (orL1 rs)) st.n stf.n (hg stf.H)) st.n stf.n (tb (orL2 rs)) σ' w' → Q .normal a' w') → wpList P ops Q l a w
  | [], st, stf, rs, h => by
    simp only [evL, Option.some.injEq, Prod.mk.injEq] at h
    obtain ⟨rfl, rfl⟩ := h
    exact ⟨Inv.refl _ _, fun σ D w a Q hA hs _ _ hQ => hQ σ a w ⟨hA.1, fun t s e => ⟨(hA.2 t s e).1, (hA.2 t s e).2.ext (fun _ _ => rfl) (fun _ h => .inl h)⟩⟩ rfl (out_refl hs)⟩
  | o :: l, st, stf, rs, h => by
    simp only [evL] at h
    split at h
    · rename_i st1 F W h1
      split at h
      · rename_i st2 rs' h2
        simp only [Option.some.injEq, Prod.mk.injEq] at h
        obtain ⟨rfl, rfl⟩ := h
        obtain ⟨i1, s, p1, p2, p3⟩ := stepG_ok hcall hnm hcl h1
        obtain ⟨i2, q⟩ := evL_seq hcall hnm hcl h2
        refine ⟨i1.seq i2, fun σ D w a Q hA hs hdom hD hQ => ?_⟩
        have hF1 : ∀ i, tb F i = true → tb (F ||| orL1 rs') i = true := fun i h => by rw [tb_or, h]; rfl
        have hF2 : ∀ i, tb (orL1 rs') i = true → tb (F ||| orL1 rs') i = true := fun i h => by rw [tb_or, h, Bool.or_true]
        refine wpList_step fun K hK => p3 σ D w a K Q (fun t _ => hA.2 t) hA.1 (hs.sub fun i ob e => ?_) hdom (fun i h1 h2 => hD i h1 (Nat.lt_of_lt_of_le h2 i2.le)) (fun σ1 v w1 hv ho => hK _ _ ?_)
        · obtain ⟨e1, e2⟩ := rst_some.1 e
          exact rst_some.2 ⟨hF1 i e1, e2⟩
        · obtain ⟨s1, _, hfin⟩ := out_seq (F := F ||| orL1 rs') (W2 := orL2 rs') (F2 := orL1 rs') (H2 := hg st2.H) (n2 := st2.n) (σ2 := σ1) (w2 := w1) hF1 hF2 hdom i1 i2 hs hD ho
          have hA1 : RA σ1 (more D st.n st1.n) nt st1.A (a.put o.dst v) := hA.put (fun i hi => ho.same i (fun ⟨x, y⟩ => hD i x (Nat.lt_of_lt_of_le y i2.le) hi)) (fun _ h => .inl h) p1 p2 hv
          refine q σ1 _ w1 _ Q hA1 s1 (i1.dom hdom) (fun i h1 h2 hm => hm.elim (hD i (Nat.le_trans i1.le h1) h2) (fun ⟨_, y⟩ => by omega)) (fun σ2 a2 w2 hA2 hd2 ho2 => ?_)
          obtain ⟨_, _, hfin⟩ := out_seq (F := F ||| orL1 rs') hF1 hF2 hdom i1 i2 hs hD ho (σ2 := σ2) (w2 := w2)
          have hO := hfin ho2
          rw [more_more i1.le i2.le] at hA2
          refine hQ σ2 a2 w2 hA2 (by rw [hd2]; cases o.dst <;> rfl) ?_
          have e : (fun i => tb W i || tb (orL2 rs') i) = tb (orL2 ((F, W, nwm st.n st1.n) :: rs')) := by
            funext i; rw [orL2, tb_or]
          rw [← e]
          exact hO
      · cases h
    · cases h
theorem memOk_0 {L : List Nat} {rs : List (Nat × Nat)} (h : ∀ (k : Nat) (r : Nat × Nat), rs[k]? = some r → r.2 = 0) : memOk L rs = true := by
  unfold memOk allN
  rw [List.all_eq_true]
  intro j hj
  split
  · rename_i Fj Wj e
    rw [List.all_eq_true]
    intro i hi
    rw [Bool.or_eq_true]
    refine .inr ?_
    split
    · rename_i Fi Wi e2
      have h1 : Wj = 0 := h j _ e
      have h2 : Wi = 0 := h i _ e2
      subst h1; subst h2
      simp
    · rfl
  · rfl
theorem Inv.congr {H H' : Heap} {n n' F F' W W' : Nat} (h : Inv H H' n n' F W) (hF : tb F = tb F') (hW : tb W = tb W') : Inv H H' n n' F' W' :=
  ⟨h.le, fun i hi e => h.low i hi (by rw [hW]; exact e), h.dom, fun i hi e => by rw [← hF]; exact h.sub i hi (by rw [hW]; exact e)⟩
/-- A region. -/
theorem evR_ok (hcall : CallOK P call) (hnm : named P = true) (hcl : ∀ f args H n r, call.call f args H n = some r → ∃ fn, P.funcs[f]? = some fn ∧ fn.body.isSome = true) (hmix : P.follows .mixedOrders = true) {id nt : Nat} {ops : Array Oper} {draw : Bool} {st st' : St} {x : X} {F W : Nat} (hreg : regsOk (.region id ops draw) = true) (h : evR call P nt ops draw st = some (x, st', F, W)) :
    CodeOK P nt (.region id ops draw) st x st' F W := by
  unfold evR at h
  split at h
  · rename_i st2 rs hL
    split at h
    · cases h
    · rename_i hc
      simp only [Option.some.injEq, Prod.mk.injEq] at h
      obtain ⟨rfl, rfl, rfl, rfl⟩ := h
      cases draw with
      | false =>
        obtain ⟨i1, q⟩ := evL_seq hcall hnm hcl hL
        exact ⟨i1, fun σ D w a Q hA hs hdom hD hQ => wp_region_list (q σ D w a Q hA hs hdom hD hQ)⟩
      | true =>
        have hreg' : regOk ops = true := hreg
        obtain ⟨g1, f, g2, g3, g4⟩ := evL_tr hL
        have hsz : ops.toList.length = ops.size := by simp
        rw [hsz] at g1 g3
        have tot : ∀ k : Nat, ∃ F W, ∀ o, ops[k]? = some o → stepG call P ops nt (f k) o = some (f (k + 1), F, W) ∧ rs[k]? = some (F, W, nwm (f k).n (f (k + 1)).n) := fun k => by
          cases e : ops[k]? with
          | none => exact ⟨0, 0, fun o e => by cases e⟩
          | some o =>
            obtain ⟨F, W, a1, a2⟩ := g4 k o (by rw [Array.getElem?_toList]; exact e)
            exact ⟨F, W, fun o' e' => by cases e'; exact ⟨a1, a2⟩⟩
        have hF := fun k => Classical.choose_spec (tot k)
        let Fk : Nat → Nat := fun k => Classical.choose (tot k)
        let Wk : Nat → Nat := fun k => Classical.choose (hF k)
        have hst : ∀ k o, ops[k]? = some o → stepG call P ops nt (f k) o = some (f (k + 1), Fk k, Wk k) ∧ rs[k]? = some (Fk k, Wk k, nwm (f k).n (f (k + 1)).n) := fun k => Classical.choose_spec (hF k)
        have hinv : ∀ k, k < ops.size → Inv (hg (f k).H) (hg (f (k + 1)).H) (f k).n (f (k + 1)).n (Fk k) (Wk k) := fun k hk => (stepG_ok hcall hnm hcl (hst k _ (Array.getElem?_eq_getElem hk)).1).1
        have e1 : tb (orF Fk ops.size) = tb (orL1 rs) := by
          funext i
          rw [Bool.eq_iff_iff, tb_orF, tb_orL1]
          constructor
          · rintro ⟨k, h1, h2⟩
            exact ⟨k, _, (hst k _ (Array.getElem?_eq_getElem h1)).2, h2⟩
          · rintro ⟨k, r, h1, h2⟩
            have hk : k < ops.size := by rw [← g1]; exact (List.getElem?_eq_some_iff.1 h1).1
            rw [(hst k _ (Array.getElem?_eq_getElem hk)).2] at h1
            cases h1
            exact ⟨k, hk, h2⟩
        have e2 : tb (orF Wk ops.size) = tb (orL2 rs) := by
          funext i
          rw [Bool.eq_iff_iff, tb_orF, tb_orL2]
          constructor
          · rintro ⟨k, h1, h2⟩
            exact ⟨k, _, (hst k _ (Array.getElem?_eq_getElem h1)).2, h2⟩
          · rintro ⟨k, r, h1, h2⟩
            have hk : k < ops.size := by rw [← g1]; exact (List.getElem?_eq_some_iff.1 h1).1
            rw [(hst k _ (Array.getElem?_eq_getElem hk)).2] at h1
            cases h1
            exact ⟨k, hk, h2⟩
        have hrs : rs.map (fun r => (r.1, r.2.1 ||| r.2.2)) = (List.range ops.size).map fun k => (Fk k, Wk k ||| nwm (f k).n (f (k + 1)).n) := by
          apply List.ext_getElem?
          intro k
          rw [List.getElem?_map, List.getElem?_map]
          by_cases hk : k < ops.size
          · rw [(hst k _ (Array.getElem?_eq_getElem hk)).2, List.getElem?_range hk]; rfl
          · rw [List.getElem?_eq_none (by omega), List.getElem?_eq_none (by simp; omega)]; rfl
        have hmem : memOk (befs ops.toList []) ((List.range ops.size).map fun k => (Fk k, Wk k ||| nwm (f k).n (f (k + 1)).n)) = true := by
          have hc' : okD ops rs st.n st2.n = true := by
            cases hh : okD ops rs st.n st2.n with
            | true => rfl
            | false => rw [hh] at hc; exact (hc rfl).elim
          unfold okD at hc'
          rw [orB_eq, andB_eq, Bool.or_eq_true, Bool.and_eq_true] at hc'
          rcases hc' with hq | hq
          · have q1 : orL2 rs = 0 := Nat.eq_of_beq_eq_true hq.1
            have q2 : st.n = st2.n := Nat.eq_of_beq_eq_true hq.2
            refine memOk_0 (fun k r e => ?_)
            rw [List.getElem?_map] at e
            cases e3 : (List.range ops.size)[k]? with
            | none => rw [e3] at e; cases e
            | some k' =>
              rw [e3] at e
              simp only [Option.map_some, Option.some.injEq] at e
              subst e
              obtain ⟨hlt, hkk⟩ := List.getElem?_eq_some_iff.1 e3
              have hk : k' < ops.size := by rw [← hkk]; simpa using hlt
              have hW0 : Wk k' = 0 := by
                apply Nat.eq_of_testBit_eq
                intro i
                rw [Nat.zero_testBit]
                cases hb : (Wk k').testBit i with
                | false => rfl
                | true =>
                  have : tb (orL2 rs) i = true := by rw [← e2]; exact orF_mem hk hb
                  rw [q1, tb_0] at this; cases this
              have hmono : ∀ m, m ≤ ops.size → ∀ j, j ≤ m → (f j).n ≤ (f m).n := fun m => by
                induction m with
                | zero => intro _ j hj; rw [Nat.le_zero.1 hj]; exact Nat.le_refl _
                | succ m ih =>
                  intro hm j hj
                  by_cases e : j = m + 1
                  · rw [e]; exact Nat.le_refl _
                  · exact Nat.le_trans (ih (by omega) j (by omega)) (hinv m (by omega)).le
              have hnn : (f k').n = (f (k' + 1)).n := by
                have a1 := hmono k' (by omega) 0 (Nat.zero_le _)
                have a2 := (hinv k' hk).le
                have a3 := hmono ops.size (Nat.le_refl _) (k' + 1) (by omega)
                rw [g2] at a1; rw [g3] at a3
                omega
              simp only [hW0, hnn, nwm, Nat.sub_self]
              rfl
          · have := memF_ok hq
            rw [hrs] at this; exact this
        have i1 := inv_all (H := fun k => hg (f k).H) (N := fun k => (f k).n) hinv
        simp only [g2, g3] at i1
        refine ⟨i1.congr e1 e2, fun σ D w a Q hA hs hdom hD hQ => ?_⟩
        rw [← g2] at hA hs hdom hD
        rw [← g3] at hD
        refine region_any hmix hreg' (F := Fk) (W := Wk) hinv hmem (fun k o ho => ?_) hA (by rw [e1]; exact hs) hdom hD (fun σ' a' w' hA' hd' hO => ?_)
        · exact (stepG_ok hcall hnm hcl (hst k o ho).1).2
        · rw [g2, g3] at hA' hO
          rw [e1, e2] at hO
          exact hQ σ' a' w' hA' hd' hO
  · cases h
end
end Go.Proofs.YtcmlgmiomcegeaaGreat.Ev
