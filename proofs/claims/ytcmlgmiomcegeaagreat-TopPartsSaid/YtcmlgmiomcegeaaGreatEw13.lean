/- A function of an abstract run. No condition. -/
import Derived.Test.YtcmlgmiomcegeaaGreatEw12
namespace Go.Proofs.YtcmlgmiomcegeaaGreat.Ev
open Go Go.RowKit Go.Maps
set_option linter.unusedVariables false
set_option linter.unusedSimpArgs false
set_option linter.unusedSectionVars false
variable [Env]

theorem wp_loopN {P : Program} {c : Code} {Q : Exit → Act → World → Prop} {k : Nat} {a : Act} {w : World} (h : LoopN P c Q k a w) : (Code.loop c).wp P Q a w := by
  intro b ks cs
  have key : ∀ k a w, LoopN P c Q k a w → ∃ e a' w', Q e a' w' ∧ Arrives P (lone (b.at a (.code c :: .inLoop c :: ks)) cs w) b ks cs e a' w' := by
    intro k
    induction k with
    | zero => intro a w h; exact h.elim
    | succ k ih =>
      intro a w h
      obtain ⟨e, a₁, w₁, hq, harr⟩ := h b (.inLoop c :: ks) cs
      cases e with
      | normal =>
        obtain ⟨e₂, a₂, w₂, hq₂, harr₂⟩ := ih a₁ w₁ hq
        exact ⟨e₂, a₂, w₂, hq₂, .of_steps (Steps.trans harr (.one step_inLoop)) harr₂⟩
      | exit id => exact ⟨_, a₁, w₁, hq, .pass (x := .inLoop c) rfl (fun _ _ => .inl (by simp)) harr⟩
      | goto l => exact ⟨_, a₁, w₁, hq, .pass (x := .inLoop c) rfl (fun _ _ => .inl (by simp)) harr⟩
      | ret => exact ⟨_, a₁, w₁, hq, .pass (x := .inLoop c) rfl (fun _ _ => .inl (by simp)) harr⟩
      | panic ch => exact ⟨_, a₁, w₁, hq, .pass (x := .inLoop c) rfl (fun _ _ => .inl (by simp)) harr⟩
      | outgrown => exact ⟨_, a₁, w₁, hq, .pass (x := .inLoop c) rfl (fun _ _ => .inl (by simp)) harr⟩
  obtain ⟨e, a', w', hq, harr⟩ := key k a w h
  exact ⟨e, a', w', hq, .of_steps (.one step_loop) harr⟩
section
variable {P : Program} {call : CallF}
theorem code_id {nt : Nat} {st : St} {c : Code} {x : X} (h : ∀ Q a w, Q x.out a w → c.wp P Q a w) : CodeOK P nt c st x st 0 0 :=
  ⟨Inv.refl _ _, fun σ D w a Q hA hs _ _ hQ => h Q a w (hQ σ a w ⟨hA.1, fun t s e => ⟨(hA.2 t s e).1, (hA.2 t s e).2.ext (fun _ _ => rfl) (fun _ h => .inl h)⟩⟩ rfl (out_refl hs))⟩
/-- Two pieces. -/
theorem code_then {nt : Nat} {st st1 st2 : St} {a b : Code} {x : X} {F1 W1 F2 W2 : Nat} (i1 : Inv (hg st.H) (hg st1.H) st.n st1.n F1 W1) (i2 : Inv (hg st1.H) (hg st2.H) st1.n st2.n F2 W2) {σ σ1 : Nat → Blk} {D : Nat → Prop} {w w1 : World} {ac a1 : Act} {Q : Exit → Act → World → Prop}
    (hs : Sat σ D (rst (tb (F1 ||| F2)) (hg st.H)) w) (hdom : ∀ i, st.n ≤ i → hg st.H i = none) (hD : ∀ i, st.n ≤ i → i < st2.n → ¬ D i)
    (hQ : ∀ σ' a' w', RA σ' (more D st.n st2.n) nt st2.A a' → a'.defers = ac.defers → Out σ D w (rst (tb (F1 ||| F2)) (hg st.H)) (aft (tb (F1 ||| F2)) st.n st2.n (hg st2.H)) st.n st2.n (tb (W1 ||| W2)) σ' w' → Q x.out a' w')
    (hd1 : a1.defers = ac.defers) (ho : Out σ D w (rst (tb F1) (hg st.H)) (aft (tb F1) st.n st1.n (hg st1.H)) st.n st1.n (tb W1) σ1 w1) :
    Sat σ1 (more D st.n st1.n) (rst (tb F2) (hg st1.H)) w1 ∧ (∀ i, st1.n ≤ i → hg st1.H i = none) ∧ (∀ i, st1.n ≤ i → i < st2.n → ¬ more D st.n st1.n i) ∧
      ∀ σ' a' w', RA σ' (more (more D st.n st1.n) st1.n st2.n) nt st2.A a' → a'.defers = a1.defers → Out σ1 (more D st.n st1.n) w1 (rst (tb F2) (hg st1.H)) (aft (tb F2) st1.n st2.n (hg st2.H)) st1.n st2.n (tb W2) σ' w' → Q x.out a' w' := by
  have hF1 : ∀ i, tb F1 i = true → tb (F1 ||| F2) i = true := fun i h => by rw [tb_or, h]; rfl
  have hF2 : ∀ i, tb F2 i = true → tb (F1 ||| F2) i = true := fun i h => by rw [tb_or, h, Bool.or_true]
  refine ⟨(out_seq (σ2 := σ1) (w2 := w1) hF1 hF2 hdom i1 i2 hs hD ho).1, i1.dom hdom, fun i h1 h2 hm => hm.elim (hD i (Nat.le_trans i1.le h1) h2) (fun ⟨_, y⟩ => by omega), fun σ2 a2 w2 hA2 hd2 ho2 => ?_⟩
  have hO := (out_seq (σ2 := σ2) (w2 := w2) hF1 hF2 hdom i1 i2 hs hD ho).2.2 ho2
  rw [more_more i1.le i2.le] at hA2
  refine hQ σ2 a2 w2 hA2 (hd2.trans hd1) ?_
  have e : (fun i => tb W1 i || tb W2 i) = tb (W1 ||| W2) := by funext i; rw [tb_or]
  rw [← e]
  exact hO
theorem sat_left {σ : Nat → Blk} {D : Nat → Prop} {w : World} {H : Heap} {F1 F2 : Nat} (hs : Sat σ D (rst (tb (F1 ||| F2)) H) w) : Sat σ D (rst (tb F1) H) w := hs.sub fun i ob e => by
  obtain ⟨e1, e2⟩ := rst_some.1 e
  exact rst_some.2 ⟨by rw [tb_or, e1]; rfl, e2⟩
theorem iter_ok {nt : Nat} {c : Code} {f : St → CRes} (hf : ∀ st x st' F W, f st = some (x, st', F, W) → CodeOK P nt c st x st' F W) : ∀ {k : Nat} {st : St} {x : X} {st' : St} {F W : Nat}, iter f k st = some (x, st', F, W) →
    Inv (hg st.H) (hg st'.H) st.n st'.n F W ∧
    ∀ σ D w a Q, RA σ D nt st.A a → Sat σ D (rst (tb F) (hg st.H)) w → (∀ i, st.n ≤ i → hg st.H i = none) → (∀ i, st.n ≤ i → i < st'.n → ¬ D i) →
      (∀ σ' a' w', RA σ' (more D st.n st'.n) nt st'.A a' → a'.defers = a.defers → Out σ D w (rst (tb F) (hg st.H)) (aft (tb F) st.n st'.n (hg st'.H)) st.n st'.n (tb W) σ' w' → Q x.out a' w') → LoopN P c Q k a w
  | 0, _, _, _, _, _, h => by simp [iter] at h
  | k + 1, st, x, st', F, W, h => by
    simp only [iter] at h
    split at h
    · rename_i st1 F1 W1 h1
      split at h
      · rename_i x2 st2 F2 W2 h2
        simp only [Option.some.injEq, Prod.mk.injEq] at h
        obtain ⟨rfl, rfl, rfl, rfl⟩ := h
        obtain ⟨i1, q1⟩ := hf _ _ _ _ _ h1
        obtain ⟨i2, q2⟩ := iter_ok hf h2
        refine ⟨i1.seq i2, fun σ D w a Q hA hs hdom hD hQ => ?_⟩
        refine q1 σ D w a _ hA (sat_left hs) hdom (fun i g1 g2 => hD i g1 (Nat.lt_of_lt_of_le g2 i2.le)) (fun σ1 a1 w1 hA1 hd1 ho => ?_)
        obtain ⟨r1, r2, r3, r4⟩ := code_then (a := c) (b := c) i1 i2 hs hdom hD hQ hd1 ho
        exact q2 σ1 _ w1 a1 Q hA1 r1 r2 r3 r4
      · cases h
    · rename_i hne
      obtain ⟨i1, q1⟩ := hf _ _ _ _ _ h
      refine ⟨i1, fun σ D w a Q hA hs hdom hD hQ => q1 σ D w a _ hA hs hdom hD (fun σ1 a1 w1 hA1 hd1 ho => ?_)⟩
      have := hQ σ1 a1 w1 hA1 hd1 ho
      cases x with
      | nm => exact (hne _ _ _ h).elim
      | ex id => exact this
      | rt => exact this
theorem tb_lor {a b i : Nat} : tb (Nat.lor a b) i = (tb a i || tb b i) := tb_or
theorem join_inv {nt n : Nat} {H : HT} {ra rb : CRes} {x : X} {st' : St} {F W : Nat} (h : joinC nt H n ra rb = some (x, st', F, W)) : ∃ s1 F1 s2 F2 A, ra = some (.nm, s1, F1, 0) ∧ rb = some (.nm, s2, F2, 0) ∧ s1.n = n ∧ s2.n = n ∧ meetT s1.A s2.A nt TS.lf = some A ∧ x = .nm ∧ st' = ⟨A, H, n⟩ ∧ F = Nat.lor F1 F2 ∧ W = 0 := by
  unfold joinC at h
  split at h
  · rename_i x1 s1 F1 W1
    split at h
    · rename_i x2 s2 F2 W2
      split at h
      · rename_i hj
        rw [andB_eq, Bool.and_eq_true] at hj
        obtain ⟨rfl, hn1, rfl⟩ := okJ_ok hj.1
        obtain ⟨rfl, hn2, rfl⟩ := okJ_ok hj.2
        rw [Option.map_eq_some_iff] at h
        obtain ⟨A, hm, e⟩ := h
        cases e
        exact ⟨s1, F1, s2, F2, A, rfl, rfl, hn1, hn2, hm, rfl, rfl, rfl, rfl⟩
      · cases h
    · cases h
  · cases h
theorem rst_more {H : Heap} {F : Nat} (F1 F2 : Nat) (hF : ∀ i, tb F1 i = true → tb F i = true) : ∀ i o, rst (tb F1) H i = some o → rst (tb F) H i = some o := fun i o e => by
  obtain ⟨h1, h2⟩ := rst_some.1 e
  exact rst_some.2 ⟨hF i h1, h2⟩
/-- A branch that turned nothing, told of more than it looked at. -/
theorem out_more {σ σ' : Nat → Blk} {D : Nat → Prop} {w w' : World} {H H1 : HT} {n F F1 : Nat} (hs : Sat σ D (rst (tb F) (hg H)) w) (i1 : Inv (hg H) (hg H1) n n F1 0) (hdom : ∀ i, n ≤ i → hg H i = none) (hF : ∀ i, tb F1 i = true → tb F i = true)
    (ho : Out σ D w (rst (tb F1) (hg H)) (aft (tb F1) n n (hg H1)) n n (tb 0) σ' w') : Out σ D w (rst (tb F) (hg H)) (aft (tb F) n n (hg H)) n n (tb 0) σ' w' := by
  have e1 : hg H1 = hg H := by
    funext i
    by_cases c : i < n
    · exact i1.low i c tb_0
    · rw [hdom i (by omega), i1.dom hdom i (by omega)]
  rw [e1] at ho
  have e2 : upd (tb F1) n n (rst (tb F) (hg H)) (aft (tb F1) n n (hg H)) = aft (tb F) n n (hg H) := by
    funext i
    unfold upd aft rst
    have hn : ¬ (n ≤ i ∧ i < n) := by omega
    by_cases c : tb F1 i = true
    · simp [c, hF i c]
    · simp [c, hn]
  rw [← e2]
  refine frame hs (g := rst (tb F1) (hg H)) (fun i hi => ?_) (fun i hi => ?_) (fun i h1 h2 => by omega) ho (fun i h => by rw [tb_0] at h; cases h)
  · unfold rst; rw [if_pos hi, if_pos (hF i hi)]
  · unfold rst; rw [if_neg (by rw [hi]; simp)]
theorem evC_ok (hcall : CallOK P call) (hnm : named P = true) (hcl : ∀ f args H n r, call.call f args H n = some r → ∃ fn, P.funcs[f]? = some fn ∧ fn.body.isSome = true) (hmix : P.follows .mixedOrders = true) {nt N : Nat} {hk : Hook} : ∀ (c : Code), regsOk c = true → HookOK P nt hk c → ∀ st x st' F W, evC hk call P nt N c st = some (x, st', F, W) → CodeOK P nt c st x st' F W
  | .skip, _, _, st, x, st', F, W, h => by
    simp only [evC, Option.some.injEq, Prod.mk.injEq] at h
    obtain ⟨rfl, rfl, rfl, rfl⟩ := h
    exact code_id fun Q a w q => wp_skip q
  | .label l, _, _, st, x, st', F, W, h => by
    simp only [evC, Option.some.injEq, Prod.mk.injEq] at h
    obtain ⟨rfl, rfl, rfl, rfl⟩ := h
    exact code_id fun Q a w q => wp_label q
  | .exit id, _, _, st, x, st', F, W, h => by
    simp only [evC, Option.some.injEq, Prod.mk.injEq] at h
    obtain ⟨rfl, rfl, rfl, rfl⟩ := h
    exact code_id fun Q a w q => wp_exit q
  | .ret, _, _, st, x, st', F, W, h => by
    simp only [evC, Option.some.injEq, Prod.mk.injEq] at h
    obtain ⟨rfl, rfl, rfl, rfl⟩ := h
    exact code_id fun Q a w q => wp_ret q
  | .region id ops draw, hr, _, st, x, st', F, W, h => evR_ok hcall hnm hcl hmix hr (by simpa only [evC] using h)
  | .seq a b, hr, hh, st, x, st', F, W, h => by
    simp only [regsOk, Bool.and_eq_true] at hr
    simp only [evC] at h
    split at h
    · rename_i st1 F1 W1 h1
      split at h
      · rename_i x2 st2 F2 W2 h2
        simp only [Option.some.injEq, Prod.mk.injEq] at h
        obtain ⟨rfl, rfl, rfl, rfl⟩ := h
        obtain ⟨i1, q1⟩ := evC_ok hcall hnm hcl hmix a hr.1 hh.1 _ _ _ _ _ h1
        obtain ⟨i2, q2⟩ := evC_ok hcall hnm hcl hmix b hr.2 hh.2 _ _ _ _ _ h2
        refine ⟨i1.seq i2, fun σ D w ac Q hA hs hdom hD hQ => wp_seq ?_⟩
        refine q1 σ D w ac _ hA (sat_left hs) hdom (fun i g1 g2 => hD i g1 (Nat.lt_of_lt_of_le g2 i2.le)) (fun σ1 a1 w1 hA1 hd1 ho => ?_)
        obtain ⟨r1, r2, r3, r4⟩ := code_then (a := a) (b := b) i1 i2 hs hdom hD hQ hd1 ho
        exact q2 σ1 _ w1 a1 Q hA1 r1 r2 r3 r4
      · cases h
    · rename_i hne
      obtain ⟨i1, q1⟩ := evC_ok hcall hnm hcl hmix a hr.1 hh.1 _ _ _ _ _ h
      refine ⟨i1, fun σ D w ac Q hA hs hdom hD hQ => wp_seq (q1 σ D w ac _ hA hs hdom hD (fun σ1 a1 w1 hA1 hd1 ho => ?_))⟩
      have := hQ σ1 a1 w1 hA1 hd1 ho
      cases x with
      | nm => exact (hne _ _ _ h).elim
      | ex id => exact this
      | rt => exact this
  | .cond c a b, hr, hh, st, x, st', F, W, h => by
    simp only [regsOk, Bool.and_eq_true] at hr
    simp only [evC] at h
    split at h
    · rename_i hc
      obtain ⟨i1, q1⟩ := evC_ok hcall hnm hcl hmix a hr.1 hh.1 _ _ _ _ _ h
      exact ⟨i1, fun σ D w ac Q hA hs hdom hD hQ => wp_cond_true ((opA_ok hA).c hc) (q1 σ D w ac Q hA hs hdom hD hQ)⟩
    · rename_i hc
      obtain ⟨i1, q1⟩ := evC_ok hcall hnm hcl hmix b hr.2 hh.2 _ _ _ _ _ h
      exact ⟨i1, fun σ D w ac Q hA hs hdom hD hQ => wp_cond_false ((opA_ok hA).c hc) (q1 σ D w ac Q hA hs hdom hD hQ)⟩
    · rename_i hc
      obtain ⟨s1, F1, s2, F2, A, h1, h2, hn1, hn2, hm, rfl, rfl, rfl, rfl⟩ := join_inv h
      obtain ⟨i1, q1⟩ := evC_ok hcall hnm hcl hmix a hr.1 hh.1 _ _ _ _ _ h1
      obtain ⟨i2, q2⟩ := evC_ok hcall hnm hcl hmix b hr.2 hh.2 _ _ _ _ _ h2
      refine ⟨⟨Nat.le_refl _, fun _ _ _ => rfl, fun h => h, fun i _ h => by rw [tb_0] at h; cases h⟩, fun σ D w ac Q hA hs hdom hD hQ => ?_⟩
      obtain ⟨bv, hb⟩ := (opA_ok hA).c hc
      have hmm := meetT_ok hm (fun t s e => by rw [TS.get_lf] at e; cases e)
      cases bv with
      | true =>
        refine wp_cond_true hb (q1 σ D w ac Q hA (hs.sub (rst_more F1 F2 (fun i e => by rw [tb_lor, e]; rfl))) hdom (fun i g1 g2 => by rw [hn1] at g2; omega) (fun σ1 a1 w1 hA1 hd1 ho => ?_))
        rw [hn1] at hA1 ho i1
        exact hQ σ1 a1 w1 ⟨hA1.1, fun t s e => hA1.2 t s (hmm t s e).1⟩ hd1 (out_more hs i1 hdom (fun i e => by rw [tb_lor, e]; rfl) ho)
      | false =>
        refine wp_cond_false hb (q2 σ D w ac Q hA (hs.sub (rst_more F2 F1 (fun i e => by rw [tb_lor, e, Bool.or_true]))) hdom (fun i g1 g2 => by rw [hn2] at g2; omega) (fun σ1 a1 w1 hA1 hd1 ho => ?_))
        rw [hn2] at hA1 ho i2
        exact hQ σ1 a1 w1 ⟨hA1.1, fun t s e => hA1.2 t s (hmm t s e).2⟩ hd1 (out_more hs i2 hdom (fun i e => by rw [tb_lor, e, Bool.or_true]) ho)
    · cases h
  | .block id c, hr, hh, st, x, st', F, W, h => by
    have hr' : regsOk c = true := hr
    simp only [evC] at h
    split at h
    · rename_i id' st1 F1 W1 h1
      simp only [Option.some.injEq, Prod.mk.injEq] at h
      obtain ⟨rfl, rfl, rfl, rfl⟩ := h
      obtain ⟨i1, q1⟩ := evC_ok hcall hnm hcl hmix c hr' hh _ _ _ _ _ h1
      refine ⟨i1, fun σ D w ac Q hA hs hdom hD hQ => wp_block (q1 σ D w ac _ hA hs hdom hD (fun σ1 a1 w1 hA1 hd1 ho => ?_))⟩
      have := hQ σ1 a1 w1 hA1 hd1 ho
      show if id' = id then Q .normal a1 w1 else Q (.exit id') a1 w1
      by_cases e : id' = id
      · rw [if_pos e]; simpa [e, X.out] using this
      · rw [if_neg e]; simpa [e, X.out] using this
    · rename_i hne
      obtain ⟨i1, q1⟩ := evC_ok hcall hnm hcl hmix c hr' hh _ _ _ _ _ h
      refine ⟨i1, fun σ D w ac Q hA hs hdom hD hQ => wp_block (q1 σ D w ac _ hA hs hdom hD (fun σ1 a1 w1 hA1 hd1 ho => ?_))⟩
      have := hQ σ1 a1 w1 hA1 hd1 ho
      cases x with
      | nm => exact this
      | ex id => exact (hne _ _ _ _ h).elim
      | rt => exact this
  | .loop c, hr, hh, st, x, st', F, W, h => by
    have hr' : regsOk c = true := hr
    simp only [evC] at h
    split at h
    · rename_i g hgk
      unfold skipC at h
      split at h
      · rename_i st1 F1 h1
        split at h
        · rename_i x2 st2 F2 W2 h2
          simp only [Option.some.injEq, Prod.mk.injEq] at h
          obtain ⟨rfl, rfl, rfl, rfl⟩ := h
          obtain ⟨e1, e2, q⟩ := hh.1 g hgk _ _ _ h1
          obtain ⟨i2, q2⟩ := iter_ok (fun st x st' F W h => evC_ok hcall hnm hcl hmix c hr' hh.2 st x st' F W h) h2
          have i1 : Inv (hg st.H) (hg st1.H) st.n st1.n F1 0 := by rw [e1, e2]; exact ⟨Nat.le_refl _, fun _ _ _ => rfl, fun h => h, fun i _ h => by rw [tb_0] at h; cases h⟩
          have i12 := i1.seq i2
          have eW : 0 ||| W2 = W2 := Nat.zero_or _
          rw [eW] at i12
          refine ⟨i12, fun σ D w a Q hA hs hdom hD hQ => ?_⟩
          suffices hk : ∃ k', LoopN P c Q k' a w by obtain ⟨k', hk'⟩ := hk; exact wp_loopN hk'
          refine q σ D w a Q N hA (sat_left hs) (fun a1 w1 hA1 hd1 ht => ?_)
          have ho : Out σ D w (rst (tb F1) (hg st.H)) (aft (tb F1) st.n st1.n (hg st1.H)) st.n st1.n (tb 0) σ w1 := by
            rw [e1, e2]; exact out_still (sat_left hs) ht
          have hQ' := hQ
          rw [← eW] at hQ'
          obtain ⟨r1, r2, r3, r4⟩ := code_then (a := c) (b := c) i1 i2 hs hdom hD hQ' hd1 ho
          have hA2 : RA σ (more D st.n st1.n) nt st1.A a1 := by
            rw [e2]
            exact ⟨hA1.1, fun t s e => ⟨(hA1.2 t s e).1, (hA1.2 t s e).2.ext (fun _ _ => rfl) (fun _ h => .inl h)⟩⟩
          exact q2 σ _ w1 a1 Q hA2 r1 r2 r3 r4
        · cases h
      · obtain ⟨i1, q1⟩ := iter_ok (fun st x st' F W h => evC_ok hcall hnm hcl hmix c hr' hh.2 st x st' F W h) h
        exact ⟨i1, fun σ D w ac Q hA hs hdom hD hQ => wp_loopN (q1 σ D w ac Q hA hs hdom hD hQ)⟩
    · obtain ⟨i1, q1⟩ := iter_ok (fun st x st' F W h => evC_ok hcall hnm hcl hmix c hr' hh.2 st x st' F W h) h
      exact ⟨i1, fun σ D w ac Q hA hs hdom hD hQ => wp_loopN (q1 σ D w ac Q hA hs hdom hD hQ)⟩
  | .rangeFunc .., _, _, _, _, _, _, _, h => by simp [evC] at h
  | .scope _, _, _, _, _, _, _, _, h => by simp [evC] at h
  | .goto _, _, _, _, _, _, _, _, h => by simp [evC] at h
  | .refuse _, _, _, _, _, _, _, _, h => by simp [evC] at h

/-! ### Functions -/
noncomputable def argT : Nat → List S → TS → Option (TS)
  | _, [], A => some A
  | i, s :: l, A => match TS.put A i (some s) with
    | some A' => argT (i + 1) l A'
    | none => none
/-- What a function gives back: values, and what was looked at. -/
noncomputable def resL (P : Program) (H : Heap) (A : TS) : List ResultVar → Option (List V × Nat)
  | [] => some ([], 0)
  | .tmp t :: l => match S.v? (A.get t), resL P H A l with
    | some v, some (m, F) => some (v :: m, F)
    | _, _ => none
  | .cell p ty :: l => match S.c? (A.get p), resL P H A l with
    | some (.ptr i off), some (m, F) => match aLd P H ty i off with
      | some v => some (v :: m, one i ||| F)
      | none => none
    | _, _ => none
noncomputable def resS : List V → S | [v] => .v v | l => .tup l
/-- A table of oracles: calls that are told from outside. -/
abbrev Orc := FunF
noncomputable def noOrc : Orc := fun _ _ _ _ => none
noncomputable def evF (hk : FuncId → Hook) (xo : BinOp → C → C → Option C) (orc : Orc) (P : Program) (N : Nat) : Nat → FunF
  | 0, _, _, _, _ => none
  | k + 1, f, args, H, n => match orc f args H n with
    | some r => some r
    | none => match P.funcs[f]? with
      | some fn => match fn.body with
        | some c => if args.length ≤ fn.ntmps then
            match argT 0 args TS.lf with
            | some A => match evC (hk f) ⟨evF hk xo orc P N k, xo⟩ P fn.ntmps N c ⟨A, H, n⟩ with
              | some (.rt, st, F, W) => (resL P (hg st.H) st.A fn.results.toList).map fun r => (resS r.1, st.H, st.n, F ||| r.2, W)
              | some (.nm, st, F, W) => (resL P (hg st.H) st.A fn.results.toList).map fun r => (resS r.1, st.H, st.n, F ||| r.2, W)
              | _ => none
            | none => none
          else none
        | none => none
      | none => none
end
end Go.Proofs.YtcmlgmiomcegeaaGreat.Ev
