/- A region of an abstract run, in whatever order its operations come. No condition. -/
import Derived.Test.YtcmlgmiomcegeaaGreatEw8
namespace Go.Proofs.YtcmlgmiomcegeaaGreat.Ev
open Go Go.RowKit Go.Maps
set_option linter.unusedVariables false
set_option linter.unusedSimpArgs false
set_option linter.unusedSectionVars false
variable [Env]

theorem putS_ok {nt : Nat} {A A' : TS} {d : Option Tmp} {s : S} (h : putS nt A d s = some A') : (∀ t, A'.get t = if d = some t then some s else A.get t) ∧ ∀ t, d = some t → t < nt := by
  unfold putS at h
  split at h
  · simp only [Option.some.injEq] at h; subst h
    exact ⟨fun t => by simp, fun t e => by cases e⟩
  · rename_i d'
    split at h
    · rename_i hlt
      refine ⟨fun t => ?_, fun t e => by cases e; exact hlt⟩
      rw [TS.get_put h]
      by_cases e : t = d'
      · subst e; simp
      · rw [if_neg e, if_neg (fun h => e (Option.some.inj h).symm)]
    · cases h
theorem constS_ok {σ : Nat → Blk} {D : Nat → Prop} {v : Value} {s : S} (h : constS v = some s) : RS σ D s v := by
  unfold constS at h
  split at h
  · simp only [Option.some.injEq] at h; subst h; exact ⟨[], trivial, rfl⟩
  · rw [Option.map_eq_some_iff] at h
    obtain ⟨x, h1, rfl⟩ := h
    exact absV_ok h1
/-- The operands, as far as slots are known. -/
noncomputable def lookA (L : List Nat) (A : TS) : Operand → Option S
  | .tmp t => if t ∈ L then A.get t else none
  | x => opA A x
theorem lookA_ok {σ : Nat → Blk} {D : Nat → Prop} {L : List Nat} {A : TS} {a : Act} (h : ∀ t ∈ L, ∀ s, A.get t = some s → RS σ D s (a.eval (.tmp t))) : Eqv σ D (lookA L A) a.eval := by
  intro x s hx
  cases x with
  | tmp t =>
    simp only [lookA] at hx
    split at hx
    · rename_i ht; exact h t ht s hx
    · cases hx
  | const v => exact constS_ok (show constS v = some s from hx)
  | func f =>
    simp only [lookA, opA, Option.some.injEq] at hx
    subst hx
    exact ⟨fun p hp => (by cases hp), rfl⟩
  | global g => simp [lookA, opA] at hx
theorem look_op {ops : Array Oper} {o : Oper} {t : Nat} (h : Operand.tmp t ∈ o.op.operands) : t ∈ o.looksAt ops := by
  unfold Oper.looksAt
  rw [List.mem_append]
  refine .inl (List.mem_filterMap.2 ⟨.tmp t, by simpa using h, rfl⟩)
section
variable {P : Program} {call : CallF}
theorem stepG_ok (hcall : CallOK P call) (hnm : named P = true) (hcl : ∀ f args H n r, call.call f args H n = some r → ∃ fn, P.funcs[f]? = some fn ∧ fn.body.isSome = true) {ops : Array Oper} {nt : Nat} {st st' : St} {o : Oper} {F W : Nat} (h : stepG call P ops nt st o = some (st', F, W)) :
    Inv (hg st.H) (hg st'.H) st.n st'.n F W ∧ ∃ s : S, (∀ t, st'.A.get t = if o.dst = some t then some s else st.A.get t) ∧ (∀ t, o.dst = some t → t < nt) ∧
      ∀ σ D w a K Q, (∀ t ∈ o.looksAt ops, ∀ s, st.A.get t = some s → t < nt ∧ RS σ D s (a.eval (.tmp t))) → a.tmps.size = nt → Sat σ D (rst (tb F) (hg st.H)) w → (∀ i, st.n ≤ i → hg st.H i = none) → (∀ i, st.n ≤ i → i < st'.n → ¬ D i) →
        (∀ σ' v w', RS σ' (more D st.n st'.n) s v → Out σ D w (rst (tb F) (hg st.H)) (aft (tb F) st.n st'.n (hg st'.H)) st.n st'.n (tb W) σ' w' → K (a.put o.dst v) w') →
        (if Region.wanted o (yielded ops a.tmps) = true then Oper.wp P o a w K Q else K (a.put o.dst undef) w) := by
  have go : goS call P nt st o = some (st', F, W) → Inv (hg st.H) (hg st'.H) st.n st'.n F W ∧ ∃ s : S, (∀ t, st'.A.get t = if o.dst = some t then some s else st.A.get t) ∧ (∀ t, o.dst = some t → t < nt) ∧
      ∀ σ D w a K Q, (∀ t ∈ o.looksAt ops, ∀ s, st.A.get t = some s → t < nt ∧ RS σ D s (a.eval (.tmp t))) → a.tmps.size = nt → Sat σ D (rst (tb F) (hg st.H)) w → (∀ i, st.n ≤ i → hg st.H i = none) → (∀ i, st.n ≤ i → i < st'.n → ¬ D i) →
        (∀ σ' v w', RS σ' (more D st.n st'.n) s v → Out σ D w (rst (tb F) (hg st.H)) (aft (tb F) st.n st'.n (hg st'.H)) st.n st'.n (tb W) σ' w' → K (a.put o.dst v) w') → Oper.wp P o a w K Q := fun h => by
    unfold goS at h
    split at h
    · rename_i s H' n' F' W' hop
      rw [Option.map_eq_some_iff] at h
      obtain ⟨A', h1, h2⟩ := h
      simp only [Prod.mk.injEq] at h2
      obtain ⟨rfl, rfl, rfl⟩ := h2
      rw [opRun_congr (A' := lookA (o.looksAt ops) st.A) (fun x hx => by
        cases x with
        | tmp t => simp only [opA, lookA]; rw [if_pos (look_op hx)]
        | _ => rfl)] at hop
      obtain ⟨hinv, hw⟩ := opRun_ok hcall hnm hcl hop
      obtain ⟨p1, p2⟩ := putS_ok h1
      exact ⟨hinv, s, p1, p2, fun σ D w a K Q hL hsz hs hdom hD hK => hw σ D w a K Q (lookA_ok fun t ht s hs => (hL t ht s hs).2) hs hdom hD hK⟩
    · cases h
  have skip : skipS nt st o = some (st', F, W) → Inv (hg st.H) (hg st'.H) st.n st'.n F W ∧ ∃ s : S, (∀ t, st'.A.get t = if o.dst = some t then some s else st.A.get t) ∧ (∀ t, o.dst = some t → t < nt) ∧
      ∀ (σ : Nat → Blk) (D : Nat → Prop) (w : World) (a : Act) (K : Act → World → Prop), Sat σ D (rst (tb F) (hg st.H)) w →
        (∀ σ' v w', RS σ' (more D st.n st'.n) s v → Out σ D w (rst (tb F) (hg st.H)) (aft (tb F) st.n st'.n (hg st'.H)) st.n st'.n (tb W) σ' w' → K (a.put o.dst v) w') → K (a.put o.dst undef) w := fun h => by
    unfold skipS at h
    rw [Option.map_eq_some_iff] at h
    obtain ⟨A', h1, h2⟩ := h
    simp only [Prod.mk.injEq] at h2
    obtain ⟨rfl, rfl, rfl⟩ := h2
    obtain ⟨p1, p2⟩ := putS_ok h1
    exact ⟨Inv.refl _ _, .un, p1, p2, fun σ D w a K hs hK => hK σ undef w rfl (out_refl hs)⟩
  unfold stepG at h
  split at h
  · rename_i hgd
    obtain ⟨a1, s, a2, a3, a4⟩ := go h
    refine ⟨a1, s, a2, a3, fun σ D w a K Q hL hsz hs hdom hD hK => ?_⟩
    rw [if_pos (by simp [Region.wanted, hgd])]
    exact a4 σ D w a K Q hL hsz hs hdom hD hK
  · rename_i j want hgd
    split at h
    · rename_i d hd
      have hlk : d ∈ o.looksAt ops := by
        unfold Oper.looksAt
        rw [List.mem_append, hgd]
        exact .inr (by simp [hd])
      split at h
      · rename_i b hb
        have hy : ∀ σ D (a : Act), (∀ t ∈ o.looksAt ops, ∀ s, st.A.get t = some s → t < nt ∧ RS σ D s (a.eval (.tmp t))) → a.tmps.size = nt → Region.wanted o (yielded ops a.tmps) = (b == want) := fun σ D a hL hsz => by
          obtain ⟨h1, h2⟩ := hL d hlk _ hb
          have h3 : a.eval (.tmp d) = .bool b := h2
          have h4 : a.tmps[d]? = some (.bool b) := by
            have hlt : d < a.tmps.size := by rw [hsz]; exact h1
            rw [Array.getElem?_eq_getElem hlt]
            simpa [Act.eval, hlt] using h3
          unfold Region.wanted
          rw [hgd]
          simp only [yielded, hd, Option.bind_some, h4]
          cases b <;> cases want <;> rfl
        split at h
        · rename_i hbw
          obtain ⟨a1, s, a2, a3, a4⟩ := go h
          refine ⟨a1, s, a2, a3, fun σ D w a K Q hL hsz hs hdom hD hK => ?_⟩
          rw [if_pos (by rw [hy σ D a hL hsz]; exact hbw)]
          exact a4 σ D w a K Q hL hsz hs hdom hD hK
        · rename_i hbw
          obtain ⟨a1, s, a2, a3, a4⟩ := skip h
          refine ⟨a1, s, a2, a3, fun σ D w a K Q hL hsz hs hdom hD hK => ?_⟩
          rw [if_neg (by rw [hy σ D a hL hsz]; exact hbw)]
          exact a4 σ D w a K hs hK
      · rename_i hb
        obtain ⟨a1, s, a2, a3, a4⟩ := skip h
        refine ⟨a1, s, a2, a3, fun σ D w a K Q hL hsz hs hdom hD hK => ?_⟩
        have hno : ¬ Region.wanted o (yielded ops a.tmps) = true := by
          obtain ⟨h1, h2⟩ := hL d hlk _ hb
          have h3 : a.eval (.tmp d) = undef := h2
          have h4 : a.tmps[d]? = some undef := by
            have hlt : d < a.tmps.size := by rw [hsz]; exact h1
            rw [Array.getElem?_eq_getElem hlt]
            simpa [Act.eval, hlt] using h3
          unfold Region.wanted
          rw [hgd]
          simp only [yielded, hd, Option.bind_some, h4]
          simp [undef]
        rw [if_neg hno]
        exact a4 σ D w a K hs hK
      · cases h
    · cases h

/-! ### One behind the other, in the order of the text -/
noncomputable def RA (σ : Nat → Blk) (D : Nat → Prop) (nt : Nat) (A : TS) (a : Act) : Prop := a.tmps.size = nt ∧ ∀ t s, A.get t = some s → t < nt ∧ RS σ D s (a.eval (.tmp t))
theorem RA.put {σ σ' : Nat → Blk} {D D' : Nat → Prop} {nt : Nat} {A A' : TS} {a : Act} {d : Option Tmp} {s : S} {v : Value} (h : RA σ D nt A a) (hs : ∀ i, D i → σ' i = σ i) (hD : ∀ i, D i → D' i) (hA : ∀ t, A'.get t = if d = some t then some s else A.get t) (hd : ∀ t, d = some t → t < nt) (hv : RS σ' D' s v) : RA σ' D' nt A' (a.put d v) := by
  refine ⟨by cases d <;> simp [Act.put, h.1], fun t u e => ?_⟩
  rw [hA] at e
  split at e
  · rename_i e2
    subst e2
    cases e
    have hlt := hd t rfl
    exact ⟨hlt, by simpa [Act.put, Act.eval, h.1, hlt] using hv⟩
  · rename_i e2
    obtain ⟨h1, h2⟩ := h.2 t u e
    refine ⟨h1, ?_⟩
    have : (a.put d v).eval (.tmp t) = a.eval (.tmp t) := by
      cases d with
      | none => rfl
      | some d =>
        have hne : d ≠ t := fun e => e2 (by rw [e])
        simp [Act.put, Act.eval, Array.getElem?_setIfInBounds, hne]
    rw [this]
    exact h2.ext hs hD
noncomputable def evalL (call : CallF) (P : Program) (ops : Array Oper) (nt : Nat) : List Oper → St → Option (St × List (Nat × Nat))
  | [], st => some (st, [])
  | o :: l, st => match stepG call P ops nt st o with
    | some (st1, F, W) => match evalL call P ops nt l st1 with
      | some (st2, rs) => some (st2, (F, W ||| (2 ^ st1.n - 2 ^ st.n)) :: rs)
      | none => none
    | none => none
end
end Go.Proofs.YtcmlgmiomcegeaaGreat.Ev
