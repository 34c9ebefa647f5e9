/- Part 16 of what the proof of KeepNone rests on. No condition. -/
import Derived.Test.YtlmkpnanpohcoaaGreatPKeepNone15
namespace Go.Proofs.YtlmkpnanpohcoaaGreat
set_option maxRecDepth 100000
set_option maxHeartbeats 60000000
set_option linter.unusedVariables false
set_option linter.unusedSimpArgs false
set_option linter.unusedSectionVars false
namespace Ev
open Go Go.RowKit Go.Maps
variable [Env]
theorem wp_loopN {P : Program} {c : Code} {Q : Exit -> Act -> World -> Prop} {k : Nat} {a : Act} {w : World} (h : LoopN P c Q k a w) : (Code.loop c).wp P Q a w := by
 intro b ks cs
 have key : ∀ k a w, LoopN P c Q k a w -> ∃ e a' w', Q e a' w' /\ Arrives P (lone (b.at a (.code c :: .inLoop c :: ks)) cs w) b ks cs e a' w' := by
  intro k
  induction k with
  | zero => intro a w h; exact h.elim
  | succ k ih =>
   intro a w h
   obtain ⟨e, a₁, w₁, hq, harr⟩ := h b (.inLoop c :: ks) cs
   cases e with
   | normal =>
    obtain ⟨e₂, a₂, w₂, hq₂, harr₂⟩ := ih a₁ w₁ hq
    exact ⟨e₂, a₂, w₂, hq₂, .of_steps (Steps.trans harr (.one step_inLoop)) harr₂⟩
   | exit id => exact ⟨_, a₁, w₁, hq, .pass (x := .inLoop c) rfl (fun _ _ => .inl (by simp)) harr⟩
   | goto l => exact ⟨_, a₁, w₁, hq, .pass (x := .inLoop c) rfl (fun _ _ => .inl (by simp)) harr⟩
   | ret => exact ⟨_, a₁, w₁, hq, .pass (x := .inLoop c) rfl (fun _ _ => .inl (by simp)) harr⟩
   | panic ch => exact ⟨_, a₁, w₁, hq, .pass (x := .inLoop c) rfl (fun _ _ => .inl (by simp)) harr⟩
   | outgrown => exact ⟨_, a₁, w₁, hq, .pass (x := .inLoop c) rfl (fun _ _ => .inl (by simp)) harr⟩
 obtain ⟨e, a', w', hq, harr⟩ := key k a w h
 exact ⟨e, a', w', hq, .of_steps (.one step_loop) harr⟩
section
variable {P : Program} {call : CallF}
theorem code_id {nt : Nat} {st : St} {c : Code} {x : X} (h : ∀ Q a w, Q x.out a w -> c.wp P Q a w) : CodeOK P nt c st x st 0 0 :=
 ⟨Inv.refl _ _, fun σ D w a Q hA hs _ _ hQ => h Q a w (hQ σ a w ⟨hA.1, fun t s e => ⟨(hA.2 t s e).1, (hA.2 t s e).2.ext (fun _ _ => rfl) (fun _ h => .inl h)⟩⟩ rfl (out_refl hs))⟩
theorem code_then {nt : Nat} {st st1 st2 : St} {a b : Code} {x : X} {F1 W1 F2 W2 : Nat} (i1 : Inv (hg st.H) (hg st1.H) st.n st1.n F1 W1) (i2 : Inv (hg st1.H) (hg st2.H) st1.n st2.n F2 W2) {σ σ1 : Nat -> Blk} {D : Nat -> Prop} {w w1 : World} {ac a1 : Act} {Q : Exit -> Act -> World -> Prop}
  (hs : Sat σ D (rst (tb (F1 ||| F2)) (hg st.H)) w) (hdom : ∀ i, st.n <= i -> hg st.H i = none) (hD : ∀ i, st.n <= i -> i < st2.n -> ¬ D i)
  (hQ : ∀ σ' a' w', RA σ' (more D st.n st2.n) nt st2.A a' -> a'.defers = ac.defers -> Out σ D w (rst (tb (F1 ||| F2)) (hg st.H)) (aft (tb (F1 ||| F2)) st.n st2.n (hg st2.H)) st.n st2.n (tb (W1 ||| W2)) σ' w' -> Q x.out a' w')
  (hd1 : a1.defers = ac.defers) (ho : Out σ D w (rst (tb F1) (hg st.H)) (aft (tb F1) st.n st1.n (hg st1.H)) st.n st1.n (tb W1) σ1 w1) :
  Sat σ1 (more D st.n st1.n) (rst (tb F2) (hg st1.H)) w1 /\ (∀ i, st1.n <= i -> hg st1.H i = none) /\ (∀ i, st1.n <= i -> i < st2.n -> ¬ more D st.n st1.n i) /\
   ∀ σ' a' w', RA σ' (more (more D st.n st1.n) st1.n st2.n) nt st2.A a' -> a'.defers = a1.defers -> Out σ1 (more D st.n st1.n) w1 (rst (tb F2) (hg st1.H)) (aft (tb F2) st1.n st2.n (hg st2.H)) st1.n st2.n (tb W2) σ' w' -> Q x.out a' w' := by
 have hF1 : ∀ i, tb F1 i = true -> tb (F1 ||| F2) i = true := fun i h => by rw [tb_or, h]; rfl
 have hF2 : ∀ i, tb F2 i = true -> tb (F1 ||| F2) i = true := fun i h => by rw [tb_or, h, Bool.or_true]
 refine ⟨(out_seq (σ2 := σ1) (w2 := w1) hF1 hF2 hdom i1 i2 hs hD ho).1, i1.dom hdom, fun i h1 h2 hm => hm.elim (hD i (Nat.le_trans i1.le h1) h2) (fun ⟨_, y⟩ => by omega), fun σ2 a2 w2 hA2 hd2 ho2 => ?_⟩
 have hO := (out_seq (σ2 := σ2) (w2 := w2) hF1 hF2 hdom i1 i2 hs hD ho).2.2 ho2
 rw [more_more i1.le i2.le] at hA2
 refine hQ σ2 a2 w2 hA2 (hd2.trans hd1) ?_
 have e : (fun i => tb W1 i || tb W2 i) = tb (W1 ||| W2) := by funext i; rw [tb_or]
 rw [<- e]
 exact hO
theorem sat_left {σ : Nat -> Blk} {D : Nat -> Prop} {w : World} {H : Heap} {F1 F2 : Nat} (hs : Sat σ D (rst (tb (F1 ||| F2)) H) w) : Sat σ D (rst (tb F1) H) w := hs.sub fun i ob e => by
 obtain ⟨e1, e2⟩ := rst_some.1 e
 exact rst_some.2 ⟨by rw [tb_or, e1]; rfl, e2⟩
theorem iter_ok {nt : Nat} {c : Code} {f : St -> CRes} (hf : ∀ st x st' F W, f st = some (x, st', F, W) -> CodeOK P nt c st x st' F W) : ∀ {k : Nat} {st : St} {x : X} {st' : St} {F W : Nat}, iter f k st = some (x, st', F, W) ->
  Inv (hg st.H) (hg st'.H) st.n st'.n F W /\
  ∀ σ D w a Q, RA σ D nt st.A a -> Sat σ D (rst (tb F) (hg st.H)) w -> (∀ i, st.n <= i -> hg st.H i = none) -> (∀ i, st.n <= i -> i < st'.n -> ¬ D i) ->
   (∀ σ' a' w', RA σ' (more D st.n st'.n) nt st'.A a' -> a'.defers = a.defers -> Out σ D w (rst (tb F) (hg st.H)) (aft (tb F) st.n st'.n (hg st'.H)) st.n st'.n (tb W) σ' w' -> Q x.out a' w') -> LoopN P c Q k a w
 | 0, _, _, _, _, _, h => by simp [iter] at h
 | k + 1, st, x, st', F, W, h => by
  simp only [iter] at h
  split at h
  ·rename_i st1 F1 W1 h1
   split at h
   ·rename_i x2 st2 F2 W2 h2
    simp only [Option.some.injEq, Prod.mk.injEq] at h
    obtain ⟨rfl, rfl, rfl, rfl⟩ := h
    obtain ⟨i1, q1⟩ := hf _ _ _ _ _ h1
    obtain ⟨i2, q2⟩ := iter_ok hf h2
    refine ⟨i1.seq i2, fun σ D w a Q hA hs hdom hD hQ => ?_⟩
    refine q1 σ D w a _ hA (sat_left hs) hdom (fun i g1 g2 => hD i g1 (Nat.lt_of_lt_of_le g2 i2.le)) (fun σ1 a1 w1 hA1 hd1 ho => ?_)
    obtain ⟨r1, r2, r3, r4⟩ := code_then (a := c) (b := c) i1 i2 hs hdom hD hQ hd1 ho
    exact q2 σ1 _ w1 a1 Q hA1 r1 r2 r3 r4
   ·cases h
  ·rename_i hne
   obtain ⟨i1, q1⟩ := hf _ _ _ _ _ h
   refine ⟨i1, fun σ D w a Q hA hs hdom hD hQ => q1 σ D w a _ hA hs hdom hD (fun σ1 a1 w1 hA1 hd1 ho => ?_)⟩
   have := hQ σ1 a1 w1 hA1 hd1 ho
   cases x with
   | nm => exact (hne _ _ _ h).elim
   | ex id => exact this
   | rt => exact this
theorem evC_ok (hcall : CallOK P call) (hnm : named P = true) (hcl : ∀ f args H n r, call.call f args H n = some r -> ∃ fn, P.funcs[f]? = some fn /\ fn.body.isSome = true) (hmix : P.follows .mixedOrders = true) {nt N : Nat} {hk : Hook} : ∀ (c : Code), regsOk c = true -> HookOK P nt hk c -> ∀ st x st' F W, evC hk call P nt N c st = some (x, st', F, W) -> CodeOK P nt c st x st' F W
 | .skip, _, _, st, x, st', F, W, h => by
  simp only [evC, Option.some.injEq, Prod.mk.injEq] at h
  obtain ⟨rfl, rfl, rfl, rfl⟩ := h
  exact code_id fun Q a w q => wp_skip q
 | .label l, _, _, st, x, st', F, W, h => by
  simp only [evC, Option.some.injEq, Prod.mk.injEq] at h
  obtain ⟨rfl, rfl, rfl, rfl⟩ := h
  exact code_id fun Q a w q => wp_label q
 | .exit id, _, _, st, x, st', F, W, h => by
  simp only [evC, Option.some.injEq, Prod.mk.injEq] at h
  obtain ⟨rfl, rfl, rfl, rfl⟩ := h
  exact code_id fun Q a w q => wp_exit q
 | .ret, _, _, st, x, st', F, W, h => by
  simp only [evC, Option.some.injEq, Prod.mk.injEq] at h
  obtain ⟨rfl, rfl, rfl, rfl⟩ := h
  exact code_id fun Q a w q => wp_ret q
 | .region id ops draw, hr, _, st, x, st', F, W, h => evR_ok hcall hnm hcl hmix hr (by simpa only [evC] using h)
 | .seq a b, hr, hh, st, x, st', F, W, h => by
  simp only [regsOk, Bool.and_eq_true] at hr
  simp only [evC] at h
  split at h
  ·rename_i st1 F1 W1 h1
   split at h
   ·rename_i x2 st2 F2 W2 h2
    simp only [Option.some.injEq, Prod.mk.injEq] at h
    obtain ⟨rfl, rfl, rfl, rfl⟩ := h
    obtain ⟨i1, q1⟩ := evC_ok hcall hnm hcl hmix a hr.1 hh.1 _ _ _ _ _ h1
    obtain ⟨i2, q2⟩ := evC_ok hcall hnm hcl hmix b hr.2 hh.2 _ _ _ _ _ h2
    refine ⟨i1.seq i2, fun σ D w ac Q hA hs hdom hD hQ => wp_seq ?_⟩
    refine q1 σ D w ac _ hA (sat_left hs) hdom (fun i g1 g2 => hD i g1 (Nat.lt_of_lt_of_le g2 i2.le)) (fun σ1 a1 w1 hA1 hd1 ho => ?_)
    obtain ⟨r1, r2, r3, r4⟩ := code_then (a := a) (b := b) i1 i2 hs hdom hD hQ hd1 ho
    exact q2 σ1 _ w1 a1 Q hA1 r1 r2 r3 r4
   ·cases h
  ·rename_i hne
   obtain ⟨i1, q1⟩ := evC_ok hcall hnm hcl hmix a hr.1 hh.1 _ _ _ _ _ h
   refine ⟨i1, fun σ D w ac Q hA hs hdom hD hQ => wp_seq (q1 σ D w ac _ hA hs hdom hD (fun σ1 a1 w1 hA1 hd1 ho => ?_))⟩
   have := hQ σ1 a1 w1 hA1 hd1 ho
   cases x with
   | nm => exact (hne _ _ _ h).elim
   | ex id => exact this
   | rt => exact this
 | .cond c a b, hr, hh, st, x, st', F, W, h => by
  simp only [regsOk, Bool.and_eq_true] at hr
  simp only [evC] at h
  split at h
  ·rename_i hc
   obtain ⟨i1, q1⟩ := evC_ok hcall hnm hcl hmix a hr.1 hh.1 _ _ _ _ _ h
   exact ⟨i1, fun σ D w ac Q hA hs hdom hD hQ => wp_cond_true ((opA_ok hA).c hc) (q1 σ D w ac Q hA hs hdom hD hQ)⟩
  ·rename_i hc
   obtain ⟨i1, q1⟩ := evC_ok hcall hnm hcl hmix b hr.2 hh.2 _ _ _ _ _ h
   exact ⟨i1, fun σ D w ac Q hA hs hdom hD hQ => wp_cond_false ((opA_ok hA).c hc) (q1 σ D w ac Q hA hs hdom hD hQ)⟩
  ·cases h
 | .block id c, hr, hh, st, x, st', F, W, h => by
  have hr' : regsOk c = true := hr
  simp only [evC] at h
  split at h
  ·rename_i id' st1 F1 W1 h1
   simp only [Option.some.injEq, Prod.mk.injEq] at h
   obtain ⟨rfl, rfl, rfl, rfl⟩ := h
   obtain ⟨i1, q1⟩ := evC_ok hcall hnm hcl hmix c hr' hh _ _ _ _ _ h1
   refine ⟨i1, fun σ D w ac Q hA hs hdom hD hQ => wp_block (q1 σ D w ac _ hA hs hdom hD (fun σ1 a1 w1 hA1 hd1 ho => ?_))⟩
   have := hQ σ1 a1 w1 hA1 hd1 ho
   show if id' = id then Q .normal a1 w1 else Q (.exit id') a1 w1
   by_cases e : id' = id
   ·rw [if_pos e]; simpa [e, X.out] using this
   ·rw [if_neg e]; simpa [e, X.out] using this
  ·rename_i hne
   obtain ⟨i1, q1⟩ := evC_ok hcall hnm hcl hmix c hr' hh _ _ _ _ _ h
   refine ⟨i1, fun σ D w ac Q hA hs hdom hD hQ => wp_block (q1 σ D w ac _ hA hs hdom hD (fun σ1 a1 w1 hA1 hd1 ho => ?_))⟩
   have := hQ σ1 a1 w1 hA1 hd1 ho
   cases x with
   | nm => exact this
   | ex id => exact (hne _ _ _ _ h).elim
   | rt => exact this
 | .loop c, hr, hh, st, x, st', F, W, h => by
  have hr' : regsOk c = true := hr
  simp only [evC] at h
  split at h
  ·rename_i g hgk
   unfold skipC at h
   split at h
   ·rename_i st1 F1 h1
    split at h
    ·rename_i x2 st2 F2 W2 h2
     simp only [Option.some.injEq, Prod.mk.injEq] at h
     obtain ⟨rfl, rfl, rfl, rfl⟩ := h
     obtain ⟨e1, e2, q⟩ := hh.1 g hgk _ _ _ h1
     obtain ⟨i2, q2⟩ := iter_ok (fun st x st' F W h => evC_ok hcall hnm hcl hmix c hr' hh.2 st x st' F W h) h2
     have i1 : Inv (hg st.H) (hg st1.H) st.n st1.n F1 0 := by rw [e1, e2]; exact ⟨Nat.le_refl _, fun _ _ _ => rfl, fun h => h, fun i _ h => by rw [tb_0] at h; cases h⟩
     have i12 := i1.seq i2
     have eW : 0 ||| W2 = W2 := Nat.zero_or _
     rw [eW] at i12
     refine ⟨i12, fun σ D w a Q hA hs hdom hD hQ => ?_⟩
     suffices hk : ∃ k', LoopN P c Q k' a w by obtain ⟨k', hk'⟩ := hk; exact wp_loopN hk'
     refine q σ D w a Q N hA (sat_left hs) (fun a1 w1 hA1 hd1 ht => ?_)
     have ho : Out σ D w (rst (tb F1) (hg st.H)) (aft (tb F1) st.n st1.n (hg st1.H)) st.n st1.n (tb 0) σ w1 := by
      rw [e1, e2]; exact out_still (sat_left hs) ht
     have hQ' := hQ
     rw [<- eW] at hQ'
     obtain ⟨r1, r2, r3, r4⟩ := code_then (a := c) (b := c) i1 i2 hs hdom hD hQ' hd1 ho
     have hA2 : RA σ (more D st.n st1.n) nt st1.A a1 := by
      rw [e2]
      exact ⟨hA1.1, fun t s e => ⟨(hA1.2 t s e).1, (hA1.2 t s e).2.ext (fun _ _ => rfl) (fun _ h => .inl h)⟩⟩
     exact q2 σ _ w1 a1 Q hA2 r1 r2 r3 r4
    ·cases h
   ·obtain ⟨i1, q1⟩ := iter_ok (fun st x st' F W h => evC_ok hcall hnm hcl hmix c hr' hh.2 st x st' F W h) h
    exact ⟨i1, fun σ D w ac Q hA hs hdom hD hQ => wp_loopN (q1 σ D w ac Q hA hs hdom hD hQ)⟩
  ·obtain ⟨i1, q1⟩ := iter_ok (fun st x st' F W h => evC_ok hcall hnm hcl hmix c hr' hh.2 st x st' F W h) h
   exact ⟨i1, fun σ D w ac Q hA hs hdom hD hQ => wp_loopN (q1 σ D w ac Q hA hs hdom hD hQ)⟩
 | .rangeFunc .., _, _, _, _, _, _, _, h => by simp [evC] at h
 | .scope _, _, _, _, _, _, _, _, h => by simp [evC] at h
 | .goto _, _, _, _, _, _, _, _, h => by simp [evC] at h
 | .refuse _, _, _, _, _, _, _, _, h => by simp [evC] at h
noncomputable def argT : Nat -> List S -> TS -> Option (TS)
 | _, [], A => some A
 | i, s :: l, A => match TS.put A i (some s) with
  | some A' => argT (i + 1) l A'
  | none => none
noncomputable def resL (P : Program) (H : Heap) (A : TS) : List ResultVar -> Option (List V × Nat)
 | [] => some ([], 0)
 | .tmp t :: l => match S.v? (A.get t), resL P H A l with
  | some v, some (m, F) => some (v :: m, F)
  | _, _ => none
 | .cell p ty :: l => match S.c? (A.get p), resL P H A l with
  | some (.ptr i off), some (m, F) => match aLd P H ty i off with
   | some v => some (v :: m, one i ||| F)
   | none => none
  | _, _ => none
noncomputable def resS : List V -> S | [v] => .v v | l => .tup l
abbrev Orc := FunF
noncomputable def noOrc : Orc := fun _ _ _ _ => none
noncomputable def evF (hk : FuncId -> Hook) (xo : BinOp -> C -> C -> Option C) (orc : Orc) (P : Program) (N : Nat) : Nat -> FunF
 | 0, _, _, _, _ => none
 | k + 1, f, args, H, n => match orc f args H n with
  | some r => some r
  | none => match P.funcs[f]? with
   | some fn => match fn.body with
    | some c => if args.length <= fn.ntmps then
      match argT 0 args TS.lf with
      | some A => match evC (hk f) ⟨evF hk xo orc P N k, xo⟩ P fn.ntmps N c ⟨A, H, n⟩ with
       | some (.rt, st, F, W) => (resL P (hg st.H) st.A fn.results.toList).map fun r => (resS r.1, st.H, st.n, F ||| r.2, W)
       | some (.nm, st, F, W) => (resL P (hg st.H) st.A fn.results.toList).map fun r => (resS r.1, st.H, st.n, F ||| r.2, W)
       | _ => none
      | none => none
     else none
    | none => none
   | none => none
end
end Ev
namespace Ev
open Go Go.RowKit Go.Maps
variable [Env]
theorem argT_ok : ∀ {i : Nat} {l : List S} {A A' : TS}, argT i l A = some A' -> ∀ t, A'.get t = if i <= t /\ t < i + l.length then l[t - i]? else A.get t
 | i, [], A, A', h, t => by
  simp only [argT, Option.some.injEq] at h; subst h
  rw [if_neg (fun ⟨_, h⟩ => by simp at h; omega)]
 | i, s :: l, A, A', h, t => by
  simp only [argT] at h
  split at h
  ·rename_i A1 h1
   rw [argT_ok h t, TS.get_put h1]
   by_cases e : t = i
   ·subst e
    rw [if_neg (by omega), if_pos rfl, if_pos (by simp)]
    simp
   ·by_cases c : i + 1 <= t /\ t < i + 1 + l.length
    ·rw [if_pos c, if_pos (by simp; omega)]
     obtain ⟨j, hj⟩ : ∃ j, t - i = j + 1 := ⟨t - i - 1, by omega⟩
     rw [hj, List.getElem?_cons_succ]
     congr 1; omega
    ·rw [if_neg c, if_neg e, if_neg (by simp; omega)]
  ·cases h
theorem RSL.length {σ : Nat -> Blk} {D : Nat -> Prop} : ∀ {l : List S} {m : List Value}, RSL σ D l m -> m.length = l.length
 | [], [], _ => rfl
 | _ :: _, _ :: _, h => by rw [List.length_cons, List.length_cons, h.2.length]
theorem RSL.get {σ : Nat -> Blk} {D : Nat -> Prop} : ∀ {l : List S} {m : List Value} {j : Nat} {c : S}, RSL σ D l m -> l[j]? = some c -> ∃ v, m[j]? = some v /\ RS σ D c v
 | [], [], _, _, _, e => by cases e
 | a :: l, v :: m, 0, c, h, e => by
  rw [List.getElem?_cons_zero] at e
  cases e
  exact ⟨v, rfl, h.1⟩
 | a :: l, v :: m, j + 1, c, h, e => h.2.get (by simpa using e)
section
variable {P : Program}
noncomputable def resRun (tmps : Array Value) : ResultVar -> Sem Value
 | .tmp t => pure (tmps.getD t undef)
 | .cell a t => do loadVar t (<- asAddr (tmps.getD a undef))
theorem results_eq (fn : Func) (tmps : Array Value) : results fn tmps = (do let vs <- fn.results.mapM (resRun tmps); pure (if h : vs.size = 1 then vs[0] else .tuple vs)) := by
 unfold results
 congr 1
theorem resL_ok {σ : Nat -> Blk} {D : Nat -> Prop} {nt F : Nat} {H : Heap} {A : TS} {a : Act} {w : World} (hA : RA σ D nt A a) (hs : Sat σ D (rst (tb F) H) w) : ∀ {l : List ResultVar} {m : List V} {F' : Nat}, resL P H A l = some (m, F') -> (∀ i, tb F' i = true -> tb F i = true) ->
  ∃ vs : List Value, RVL σ D m vs /\ (l.mapM (resRun a.tmps) : Sem (List Value)).run P w = .ok vs w
 | [], m, F', h, _ => by
  simp only [resL, Option.some.injEq, Prod.mk.injEq] at h
  obtain ⟨rfl, rfl⟩ := h
  exact ⟨[], trivial, rfl⟩
 | .tmp t :: l, m, F', h, hF => by
  simp only [resL] at h
  split at h
  ·rename_i v m' F1 h1 h2
   simp only [Option.some.injEq, Prod.mk.injEq] at h
   obtain ⟨rfl, rfl⟩ := h
   obtain ⟨vs, g1, g2⟩ := resL_ok hA hs h2 hF
   obtain ⟨k1, k2⟩ := hA.2 t _ (v?_some h1)
   refine ⟨a.tmps.getD t undef :: vs, ⟨k2, g1⟩, ?_⟩
   simp only [List.mapM_cons, resRun, Sem.run_bind, Sem.run_pure, Result.andThen_ok, g2]
  ·cases h
 | .cell p ty :: l, m, F', h, hF => by
  simp only [resL] at h
  split at h
  ·rename_i i off m' F1 h1 h2
   split at h
   ·rename_i v hv
    simp only [Option.some.injEq, Prod.mk.injEq] at h
    obtain ⟨rfl, rfl⟩ := h
    obtain ⟨vs, g1, g2⟩ := resL_ok hA hs h2 (fun i hi => hF i (by rw [tb_or, hi, Bool.or_true]))
    obtain ⟨k1, k2⟩ := hA.2 p _ (c?_some h1)
    have hp : a.tmps.getD p undef = .pointer (some (adr (σ i) off)) := k2.2
    obtain ⟨u, u1, u2⟩ := aLd_ok (P := P) hs (hF i (by rw [tb_or, tb_one]; rfl)) hv
    refine ⟨u :: vs, ⟨u1, g1⟩, ?_⟩
    simp only [List.mapM_cons, resRun, Sem.run_bind, Sem.run_pure, Result.andThen_ok, hp, asAddr, u2, g2]
   ·cases h
  ·cases h
theorem RVL.length {σ : Nat -> Blk} {D : Nat -> Prop} : ∀ {l : List V} {m : List Value}, RVL σ D l m -> m.length = l.length
 | [], [], _ => rfl
 | _ :: _, _ :: _, h => by rw [List.length_cons, List.length_cons, h.2.length]
theorem res_ok {σ : Nat -> Blk} {D : Nat -> Prop} {nt F : Nat} {H : Heap} {A : TS} {a : Act} {w : World} {fn : Func} {m : List V} {F' : Nat} (hA : RA σ D nt A a) (hs : Sat σ D (rst (tb F) H) w) (h : resL P H A fn.results.toList = some (m, F')) (hF : ∀ i, tb F' i = true -> tb F i = true) :
  ∃ v, RS σ D (resS m) v /\ (results fn a.tmps).run P w = .ok v w := by
 obtain ⟨vs, g1, g2⟩ := resL_ok hA hs h hF
 have hlen := g1.length
 have hrun : (fn.results.mapM (resRun a.tmps) : Sem (Array Value)).run P w = .ok vs.toArray w := by
  rw [Array.mapM_eq_mapM_toList]
  simp only [Sem.run_map]
  rw [g2]
  rfl
 refine ⟨if h : vs.toArray.size = 1 then vs.toArray[0] else .tuple vs.toArray, ?_, ?_⟩
 ·by_cases h1 : vs.length = 1
  ·obtain ⟨v, rfl⟩ := List.length_eq_one_iff.1 h1
   obtain ⟨x, rfl⟩ := List.length_eq_one_iff.1 (show m.length = 1 by simpa using hlen.symm)
   simpa [resS, RS] using g1.1
  ·rw [dif_neg (by simpa using h1)]
   have : resS m = .tup m := by
    unfold resS
    split
    ·rename_i v; simp at hlen; exact absurd hlen h1
    ·rfl
   rw [this]
   exact ⟨vs, g1, rfl⟩
 ·rw [results_eq, Sem.run_bind, hrun]
  rfl
noncomputable def progOk (P : Program) : Bool := P.funcs.all fun fn => match fn.body with | some c => regsOk c | none => true
structure POk (P : Program) : Prop where
 mix : P.follows .mixedOrders = true
 name : named P = true
 regs : progOk P = true
noncomputable def OrcOK (P : Program) (orc : Orc) : Prop := FunOK P orc /\ ∀ f args H n r, orc f args H n = some r -> ∃ fn, P.funcs[f]? = some fn /\ fn.body.isSome = true
theorem noOrc_ok : OrcOK P noOrc := ⟨fun f args H n s H' n' F W h => (by cases h), fun f args H n r h => (by cases h)⟩
theorem evF_body {hk : FuncId -> Hook} {xo : BinOp -> C -> C -> Option C} {orc : Orc} {N : Nat} (ho : OrcOK P orc) : ∀ {k : Nat} {f : FuncId} {args : List S} {H : HT} {n : Nat} {r}, evF hk xo orc P N k f args H n = some r -> ∃ fn, P.funcs[f]? = some fn /\ fn.body.isSome = true
 | 0, _, _, _, _, _, h => by simp [evF] at h
 | k + 1, f, args, H, n, r, h => by
  simp only [evF] at h
  split at h
  ·rename_i r' hr
   exact ho.2 _ _ _ _ _ hr
  ·split at h
   ·rename_i fn hfn
    split at h
    ·rename_i c hc
     exact ⟨fn, hfn, by rw [hc]; rfl⟩
    ·cases h
   ·cases h
def HooksOK (P : Program) (hk : FuncId -> Hook) : Prop := ∀ f fn c, P.funcs[f]? = some fn -> fn.body = some c -> HookOK P fn.ntmps (hk f) c
theorem evF_ok {hk : FuncId -> Hook} {xo : BinOp -> C -> C -> Option C} {orc : Orc} {N : Nat} (hh : HooksOK P hk) (hxo : XoOK P xo) (ho : OrcOK P orc) (hP : POk P) : ∀ k, FunOK P (evF hk xo orc P N k)
 | 0 => fun f args H n s H' n' F W h => by simp [evF] at h
 | k + 1 => fun f args H n s H' n' F W h => by
  simp only [evF] at h
  split at h
  ·rename_i r hr
   simp only [Option.some.injEq] at h
   subst h
   exact ho.1 _ _ _ _ _ _ _ _ _ hr
  ·split at h
   ·rename_i fn hfn
    split at h
    ·rename_i c hc
     split at h
     ·rename_i hlen
      split at h
      ·rename_i A hAt
       have hreg : regsOk c = true := by
        have := hP.regs
        unfold progOk at this
        rw [Array.all_eq_true_iff_forall_mem] at this
        have h2 := this fn (Array.mem_of_getElem? hfn)
        rw [hc] at h2; exact h2
       have main : ∀ (x : X) (st : St) (F1 W1 : Nat), (x = .rt ∨ x = .nm) -> evC (hk f) ⟨evF hk xo orc P N k, xo⟩ P fn.ntmps N c ⟨A, H, n⟩ = some (x, st, F1, W1) -> (resL P (hg st.H) st.A fn.results.toList).map (fun r => (resS r.1, st.H, st.n, F1 ||| r.2, W1)) = some (s, H', n', F, W) ->
         Inv (hg H) (hg H') n n' F W /\ ∀ σ D w vals, RSL σ D args vals -> Sat σ D (rst (tb F) (hg H)) w -> (∀ i, n <= i -> hg H i = none) -> (∀ i, n <= i -> i < n' -> ¬ D i) ->
          Calls P f vals.toArray w fun e w' => ∃ v σ', e = .returned v /\ RS σ' (more D n n') s v /\ Out σ D w (rst (tb F) (hg H)) (aft (tb F) n n' (hg H')) n n' (tb W) σ' w' := by
        intro x st F1 W1 hx hev hres
        rw [Option.map_eq_some_iff] at hres
        obtain ⟨⟨m, F2⟩, hr, he⟩ := hres
        simp only [Prod.mk.injEq] at he
        obtain ⟨rfl, rfl, rfl, rfl, rfl⟩ := he
        obtain ⟨i1, q1⟩ := evC_ok ⟨evF_ok hh hxo ho hP k, hxo⟩ hP.name (fun f args H n r h => evF_body ho h) hP.mix c hreg (hh f fn c hfn hc) _ _ _ _ _ hev
        simp only at i1 q1
        have i2 : Inv (hg st.H) (hg st.H) st.n st.n F2 0 := ⟨Nat.le_refl _, fun _ _ _ => rfl, fun h => h, fun i _ h => by rw [tb_0] at h; cases h⟩
        have eW : tb (W1 ||| 0) = tb W1 := by funext i; rw [tb_or, tb_0, Bool.or_false]
        refine ⟨(i1.seq i2).congr rfl eW, fun σ D w vals hargs hs hdom hD => ?_⟩
        refine calls_of_wp hfn hc ?_
        have hvl := hargs.length
        have hA0 : RA σ D fn.ntmps A { tmps := vals.toArray ++ Array.replicate (fn.ntmps - vals.toArray.size) undef, defers := [] } := by
         refine ⟨by simp; omega, fun t s' e => ?_⟩
         rw [argT_ok hAt] at e
         split at e
         ·rename_i hc2
          obtain ⟨v, v1, v2⟩ := hargs.get e
          rw [Nat.sub_zero] at v1
          have hlt : t < vals.length := by omega
          refine ⟨by omega, ?_⟩
          have : (vals.toArray ++ Array.replicate (fn.ntmps - vals.toArray.size) undef).getD t undef = v := by
           rw [Array.getD_eq_getD_getElem?, Array.getElem?_append_left (by simpa using hlt)]
           simp [v1]
          show RS σ D s' ((vals.toArray ++ Array.replicate (fn.ntmps - vals.toArray.size) undef).getD t undef)
          rw [this]; exact v2
         ·rw [TS.get_lf] at e; cases e
        have hF1 : ∀ i, tb F1 i = true -> tb (F1 ||| F2) i = true := fun i h => by rw [tb_or, h]; rfl
        have hF2 : ∀ i, tb F2 i = true -> tb (F1 ||| F2) i = true := fun i h => by rw [tb_or, h, Bool.or_true]
        refine q1 σ D w _ _ hA0 (sat_left hs) hdom hD (fun σ1 a1 w1 hA1 hd1 hO => ?_)
        obtain ⟨s1, _, hfin⟩ := out_seq (σ2 := σ1) (w2 := w1) hF1 hF2 hdom i1 i2 hs hD hO
        obtain ⟨v, r1, r2⟩ := res_ok (P := P) hA1 s1 hr (fun i h => h)
        have hOut := hfin (out_refl s1)
        have eW2 : (fun i => tb W1 i || tb 0 i) = tb W1 := by funext i; rw [tb_0, Bool.or_false]
        rw [eW2] at hOut
        have hR : ∃ v_1 σ', Ending.returned v = .returned v_1 /\ RS σ' (more D n st.n) (resS m) v_1 /\ Out σ D w (rst (tb (F1 ||| F2)) (hg H)) (aft (tb (F1 ||| F2)) n st.n (hg st.H)) n st.n (tb W1) σ' w1 := ⟨v, σ1, rfl, r1, hOut⟩
        rcases hx with rfl | rfl
        ·exact ⟨hd1, v, r2, hR⟩
        ·exact ⟨hd1, v, r2, hR⟩
       split at h
       ·rename_i st F1 W1 hev; exact main .rt st F1 W1 (.inl rfl) hev h
       ·rename_i st F1 W1 hev; exact main .nm st F1 W1 (.inr rfl) hev h
       ·cases h
      ·cases h
     ·cases h
    ·cases h
   ·cases h
theorem closed {hk : FuncId -> Hook} {xo : BinOp -> C -> C -> Option C} {orc : Orc} {N k : Nat} (hh : HooksOK P hk) (hx : XoOK P xo) (ho : OrcOK P orc) (hP : POk P) {f : FuncId} {c : Bool} (h : (match evF hk xo orc P N k f [] HT.lf 0 with | some (.v (.c (.bool b)), _) => b == c | _ => false) = true) (w : World) :
  Calls P f #[] w fun e w' => e = .returned (.bool c) /\ Tch No w w' := by
 split at h
 ·rename_i b r he
  obtain ⟨H', n', F, W⟩ := r
  have hb : b = c := by simpa using h
  subst hb
  obtain ⟨_, q⟩ := evF_ok hh hx ho hP k f [] HT.lf 0 _ _ _ _ _ he
  have hlf : ∀ i, hg (HT.lf : HT) i = none := fun i => HT.get_lf i
  refine (q (fun _ => ⟨0, 0⟩) (fun _ => False) w [] trivial ⟨fun i o e => ?_, fun i j e => ?_⟩ (fun i _ => hlf i) (fun _ _ _ h => h)).mono ?_
  ·obtain ⟨_, e⟩ := rst_some.1 e; rw [hlf] at e; cases e
  ·obtain ⟨x, hx⟩ := Option.isSome_iff_exists.1 e
   obtain ⟨_, e⟩ := rst_some.1 hx; rw [hlf] at e; cases e
  ·rintro e w' ⟨v, σ', rfl, h1, h2⟩
   refine ⟨by rw [show v = .bool b from h1], h2.tch.mono (fun k _ ⟨i, _, g, _⟩ => ?_)⟩
   obtain ⟨x, hx⟩ := Option.isSome_iff_exists.1 g
   obtain ⟨_, e⟩ := rst_some.1 hx; rw [hlf] at e; cases e
 ·cases h
end
end Ev
namespace Ev
open Go Go.RowKit Go.Maps
variable [Env]
theorem pmix : Tryz.prog.follows .mixedOrders = true := by kernel_rfl
theorem pname : named Tryz.prog = true := by kernel_rfl
theorem pregs : progOk Tryz.prog = true := by kernel_rfl
theorem pok : POk Tryz.prog := ⟨pmix, pname, pregs⟩
end Ev
end Go.Proofs.YtlmkpnanpohcoaaGreat
