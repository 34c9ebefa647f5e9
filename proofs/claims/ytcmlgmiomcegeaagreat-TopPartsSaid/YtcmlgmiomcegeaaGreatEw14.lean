/- A call of an abstract run tells the truth. No condition. -/
import Derived.Test.YtcmlgmiomcegeaaGreatEw13
namespace Go.Proofs.YtcmlgmiomcegeaaGreat.Ev
open Go Go.RowKit Go.Maps
set_option linter.unusedVariables false
set_option linter.unusedSimpArgs false
set_option linter.unusedSectionVars false
variable [Env]

theorem argT_ok : ∀ {i : Nat} {l : List S} {A A' : TS}, argT i l A = some A' → ∀ t, A'.get t = if i ≤ t ∧ t < i + l.length then l[t - i]? else A.get t
  | i, [], A, A', h, t => by
    simp only [argT, Option.some.injEq] at h; subst h
    rw [if_neg (fun ⟨_, h⟩ => by simp at h; omega)]
  | i, s :: l, A, A', h, t => by
    simp only [argT] at h
    split at h
    · rename_i A1 h1
      rw [argT_ok h t, TS.get_put h1]
      by_cases e : t = i
      · subst e
        rw [if_neg (by omega), if_pos rfl, if_pos (by simp)]
        simp
      · by_cases c : i + 1 ≤ t ∧ t < i + 1 + l.length
        · rw [if_pos c, if_pos (by simp; omega)]
          obtain ⟨j, hj⟩ : ∃ j, t - i = j + 1 := ⟨t - i - 1, by omega⟩
          rw [hj, List.getElem?_cons_succ]
          congr 1; omega
        · rw [if_neg c, if_neg e, if_neg (by simp; omega)]
    · cases h
theorem RSL.length {σ : Nat → Blk} {D : Nat → Prop} : ∀ {l : List S} {m : List Value}, RSL σ D l m → m.length = l.length
  | [], [], _ => rfl
  | _ :: _, _ :: _, h => by rw [List.length_cons, List.length_cons, h.2.length]
theorem RSL.get {σ : Nat → Blk} {D : Nat → Prop} : ∀ {l : List S} {m : List Value} {j : Nat} {c : S}, RSL σ D l m → l[j]? = some c → ∃ v, m[j]? = some v ∧ RS σ D c v
  | [], [], _, _, _, e => by cases e
  | a :: l, v :: m, 0, c, h, e => by
    rw [List.getElem?_cons_zero] at e
    cases e
    exact ⟨v, rfl, h.1⟩
  | a :: l, v :: m, j + 1, c, h, e => h.2.get (by simpa using e)
section
variable {P : Program}
noncomputable def resRun (tmps : Array Value) : ResultVar → Sem Value
  | .tmp t => pure (tmps.getD t undef)
  | .cell a t => do loadVar t (← asAddr (tmps.getD a undef))
theorem results_eq (fn : Func) (tmps : Array Value) : results fn tmps = (do let vs ← fn.results.mapM (resRun tmps); pure (if h : vs.size = 1 then vs[0] else .tuple vs)) := by
  unfold results
  congr 1
theorem resL_ok {σ : Nat → Blk} {D : Nat → Prop} {nt F : Nat} {H : Heap} {A : TS} {a : Act} {w : World} (hA : RA σ D nt A a) (hs : Sat σ D (rst (tb F) H) w) : ∀ {l : List ResultVar} {m : List V} {F' : Nat}, resL P H A l = some (m, F') → (∀ i, tb F' i = true → tb F i = true) →
    ∃ vs : List Value, RVL σ D m vs ∧ (l.mapM (resRun a.tmps) : Sem (List Value)).run P w = .ok vs w
  | [], m, F', h, _ => by
    simp only [resL, Option.some.injEq, Prod.mk.injEq] at h
    obtain ⟨rfl, rfl⟩ := h
    exact ⟨[], trivial, rfl⟩
  | .tmp t :: l, m, F', h, hF => by
    simp only [resL] at h
    split at h
    · rename_i v m' F1 h1 h2
      simp only [Option.some.injEq, Prod.mk.injEq] at h
      obtain ⟨rfl, rfl⟩ := h
      obtain ⟨vs, g1, g2⟩ := resL_ok hA hs h2 hF
      obtain ⟨k1, k2⟩ := hA.2 t _ (v?_some h1)
      refine ⟨a.tmps.getD t undef :: vs, ⟨k2, g1⟩, ?_⟩
      simp only [List.mapM_cons, resRun, Sem.run_bind, Sem.run_pure, Result.andThen_ok, g2]
    · cases h
  | .cell p ty :: l, m, F', h, hF => by
    simp only [resL] at h
    split at h
    · rename_i i off m' F1 h1 h2
      split at h
      · rename_i v hv
        simp only [Option.some.injEq, Prod.mk.injEq] at h
        obtain ⟨rfl, rfl⟩ := h
        obtain ⟨vs, g1, g2⟩ := resL_ok hA hs h2 (fun i hi => hF i (by rw [tb_or, hi, Bool.or_true]))
        obtain ⟨k1, k2⟩ := hA.2 p _ (c?_some h1)
        have hp : a.tmps.getD p undef = .pointer (some (adr (σ i) off)) := k2.2
        obtain ⟨u, u1, u2⟩ := aLd_ok (P := P) hs (hF i (by rw [tb_or, tb_one]; rfl)) hv
        refine ⟨u :: vs, ⟨u1, g1⟩, ?_⟩
        simp only [List.mapM_cons, resRun, Sem.run_bind, Sem.run_pure, Result.andThen_ok, hp, asAddr, u2, g2]
      · cases h
    · cases h
theorem RVL.length {σ : Nat → Blk} {D : Nat → Prop} : ∀ {l : List V} {m : List Value}, RVL σ D l m → m.length = l.length
  | [], [], _ => rfl
  | _ :: _, _ :: _, h => by rw [List.length_cons, List.length_cons, h.2.length]
theorem res_ok {σ : Nat → Blk} {D : Nat → Prop} {nt F : Nat} {H : Heap} {A : TS} {a : Act} {w : World} {fn : Func} {m : List V} {F' : Nat} (hA : RA σ D nt A a) (hs : Sat σ D (rst (tb F) H) w) (h : resL P H A fn.results.toList = some (m, F')) (hF : ∀ i, tb F' i = true → tb F i = true) :
    ∃ v, RS σ D (resS m) v ∧ (results fn a.tmps).run P w = .ok v w := by
  obtain ⟨vs, g1, g2⟩ := resL_ok hA hs h hF
  have hlen := g1.length
  have hrun : (fn.results.mapM (resRun a.tmps) : Sem (Array Value)).run P w = .ok vs.toArray w := by
    rw [Array.mapM_eq_mapM_toList]
    simp only [Sem.run_map]
    rw [g2]
    rfl
  refine ⟨if h : vs.toArray.size = 1 then vs.toArray[0] else .tuple vs.toArray, ?_, ?_⟩
  · by_cases h1 : vs.length = 1
    · obtain ⟨v, rfl⟩ := List.length_eq_one_iff.1 h1
      obtain ⟨x, rfl⟩ := List.length_eq_one_iff.1 (show m.length = 1 by simpa using hlen.symm)
      simpa [resS, RS] using g1.1
    · rw [dif_neg (by simpa using h1)]
      have : resS m = .tup m := by
        unfold resS
        split
        · rename_i v; simp at hlen; exact absurd hlen h1
        · rfl
      rw [this]
      exact ⟨vs, g1, rfl⟩
  · rw [results_eq, Sem.run_bind, hrun]
    rfl
/-- All regions of the program that draw are in order. -/
noncomputable def progOk (P : Program) : Bool := P.funcs.all fun fn => match fn.body with | some c => regsOk c | none => true
structure POk (P : Program) : Prop where
  mix : P.follows .mixedOrders = true
  name : named P = true
  regs : progOk P = true
noncomputable def OrcOK (P : Program) (orc : Orc) : Prop := FunOK P orc ∧ ∀ f args H n r, orc f args H n = some r → ∃ fn, P.funcs[f]? = some fn ∧ fn.body.isSome = true
theorem noOrc_ok : OrcOK P noOrc := ⟨fun f args H n s H' n' F W h => (by cases h), fun f args H n r h => (by cases h)⟩
theorem evF_body {hk : FuncId → Hook} {xo : BinOp → C → C → Option C} {orc : Orc} {N : Nat} (ho : OrcOK P orc) : ∀ {k : Nat} {f : FuncId} {args : List S} {H : HT} {n : Nat} {r}, evF hk xo orc P N k f args H n = some r → ∃ fn, P.funcs[f]? = some fn ∧ fn.body.isSome = true
  | 0, _, _, _, _, _, h => by simp [evF] at h
  | k + 1, f, args, H, n, r, h => by
    simp only [evF] at h
    split at h
    · rename_i r' hr
      exact ho.2 _ _ _ _ _ hr
    · split at h
      · rename_i fn hfn
        split at h
        · rename_i c hc
          exact ⟨fn, hfn, by rw [hc]; rfl⟩
        · cases h
      · cases h
/-- All that is told of loops from outside is so. -/
def HooksOK (P : Program) (hk : FuncId → Hook) : Prop := ∀ f fn c, P.funcs[f]? = some fn → fn.body = some c → HookOK P fn.ntmps (hk f) c
theorem noHooks_ok (P : Program) : HooksOK P (fun _ => noHook) := fun f fn c _ _ => noHook_ok P _ c
theorem evF_ok {hk : FuncId → Hook} {xo : BinOp → C → C → Option C} {orc : Orc} {N : Nat} (hh : HooksOK P hk) (hxo : XoOK P xo) (ho : OrcOK P orc) (hP : POk P) : ∀ k, FunOK P (evF hk xo orc P N k)
  | 0 => fun f args H n s H' n' F W h => by simp [evF] at h
  | k + 1 => fun f args H n s H' n' F W h => by
    simp only [evF] at h
    split at h
    · rename_i r hr
      simp only [Option.some.injEq] at h
      subst h
      exact ho.1 _ _ _ _ _ _ _ _ _ hr
    · split at h
      · rename_i fn hfn
        split at h
        · rename_i c hc
          split at h
          · rename_i hlen
            split at h
            · rename_i A hAt
              have hreg : regsOk c = true := by
                have := hP.regs
                unfold progOk at this
                rw [Array.all_eq_true_iff_forall_mem] at this
                have h2 := this fn (Array.mem_of_getElem? hfn)
                rw [hc] at h2; exact h2
              have main : ∀ (x : X) (st : St) (F1 W1 : Nat), (x = .rt ∨ x = .nm) → evC (hk f) ⟨evF hk xo orc P N k, xo⟩ P fn.ntmps N c ⟨A, H, n⟩ = some (x, st, F1, W1) → (resL P (hg st.H) st.A fn.results.toList).map (fun r => (resS r.1, st.H, st.n, F1 ||| r.2, W1)) = some (s, H', n', F, W) →
                  Inv (hg H) (hg H') n n' F W ∧ ∀ σ D w vals, RSL σ D args vals → Sat σ D (rst (tb F) (hg H)) w → (∀ i, n ≤ i → hg H i = none) → (∀ i, n ≤ i → i < n' → ¬ D i) →
                    Calls P f vals.toArray w fun e w' => ∃ v σ', e = .returned v ∧ RS σ' (more D n n') s v ∧ Out σ D w (rst (tb F) (hg H)) (aft (tb F) n n' (hg H')) n n' (tb W) σ' w' := by
                intro x st F1 W1 hx hev hres
                rw [Option.map_eq_some_iff] at hres
                obtain ⟨⟨m, F2⟩, hr, he⟩ := hres
                simp only [Prod.mk.injEq] at he
                obtain ⟨rfl, rfl, rfl, rfl, rfl⟩ := he
                obtain ⟨i1, q1⟩ := evC_ok ⟨evF_ok hh hxo ho hP k, hxo⟩ hP.name (fun f args H n r h => evF_body ho h) hP.mix c hreg (hh f fn c hfn hc) _ _ _ _ _ hev
                simp only at i1 q1
                have i2 : Inv (hg st.H) (hg st.H) st.n st.n F2 0 := ⟨Nat.le_refl _, fun _ _ _ => rfl, fun h => h, fun i _ h => by rw [tb_0] at h; cases h⟩
                have eW : tb (W1 ||| 0) = tb W1 := by funext i; rw [tb_or, tb_0, Bool.or_false]
                refine ⟨(i1.seq i2).congr rfl eW, fun σ D w vals hargs hs hdom hD => ?_⟩
                refine calls_of_wp hfn hc ?_
                have hvl := hargs.length
                have hA0 : RA σ D fn.ntmps A { tmps := vals.toArray ++ Array.replicate (fn.ntmps - vals.toArray.size) undef, defers := [] } := by
                  refine ⟨by simp; omega, fun t s' e => ?_⟩
                  rw [argT_ok hAt] at e
                  split at e
                  · rename_i hc2
                    obtain ⟨v, v1, v2⟩ := hargs.get e
                    rw [Nat.sub_zero] at v1
                    have hlt : t < vals.length := by omega
                    refine ⟨by omega, ?_⟩
                    have : (vals.toArray ++ Array.replicate (fn.ntmps - vals.toArray.size) undef).getD t undef = v := by
                      rw [Array.getD_eq_getD_getElem?, Array.getElem?_append_left (by simpa using hlt)]
                      simp [v1]
                    show RS σ D s' ((vals.toArray ++ Array.replicate (fn.ntmps - vals.toArray.size) undef).getD t undef)
                    rw [this]; exact v2
                  · rw [TS.get_lf] at e; cases e
                have hF1 : ∀ i, tb F1 i = true → tb (F1 ||| F2) i = true := fun i h => by rw [tb_or, h]; rfl
                have hF2 : ∀ i, tb F2 i = true → tb (F1 ||| F2) i = true := fun i h => by rw [tb_or, h, Bool.or_true]
                refine q1 σ D w _ _ hA0 (sat_left hs) hdom hD (fun σ1 a1 w1 hA1 hd1 hO => ?_)
                obtain ⟨s1, _, hfin⟩ := out_seq (σ2 := σ1) (w2 := w1) hF1 hF2 hdom i1 i2 hs hD hO
                obtain ⟨v, r1, r2⟩ := res_ok (P := P) hA1 s1 hr (fun i h => h)
                have hOut := hfin (out_refl s1)
                have eW2 : (fun i => tb W1 i || tb 0 i) = tb W1 := by funext i; rw [tb_0, Bool.or_false]
                rw [eW2] at hOut
                have hR : ∃ v_1 σ', Ending.returned v = .returned v_1 ∧ RS σ' (more D n st.n) (resS m) v_1 ∧ Out σ D w (rst (tb (F1 ||| F2)) (hg H)) (aft (tb (F1 ||| F2)) n st.n (hg st.H)) n st.n (tb W1) σ' w1 := ⟨v, σ1, rfl, r1, hOut⟩
                rcases hx with rfl | rfl
                · exact ⟨hd1, v, r2, hR⟩
                · exact ⟨hd1, v, r2, hR⟩
              split at h
              · rename_i st F1 W1 hev; exact main .rt st F1 W1 (.inl rfl) hev h
              · rename_i st F1 W1 hev; exact main .nm st F1 W1 (.inr rfl) hev h
              · cases h
            · cases h
          · cases h
        · cases h
      · cases h
/-- A closed call. -/
theorem closed {hk : FuncId → Hook} {xo : BinOp → C → C → Option C} {orc : Orc} {N k : Nat} (hh : HooksOK P hk) (hx : XoOK P xo) (ho : OrcOK P orc) (hP : POk P) {f : FuncId} {c : Bool} (h : (match evF hk xo orc P N k f [] HT.lf 0 with | some (.v (.c (.bool b)), _) => b == c | _ => false) = true) (w : World) :
    Calls P f #[] w fun e w' => e = .returned (.bool c) ∧ Tch No w w' := by
  split at h
  · rename_i b r he
    obtain ⟨H', n', F, W⟩ := r
    have hb : b = c := by simpa using h
    subst hb
    obtain ⟨_, q⟩ := evF_ok hh hx ho hP k f [] HT.lf 0 _ _ _ _ _ he
    have hlf : ∀ i, hg (HT.lf : HT) i = none := fun i => HT.get_lf i
    refine (q (fun _ => ⟨0, 0⟩) (fun _ => False) w [] trivial ⟨fun i o e => ?_, fun i j e => ?_⟩ (fun i _ => hlf i) (fun _ _ _ h => h)).mono ?_
    · obtain ⟨_, e⟩ := rst_some.1 e; rw [hlf] at e; cases e
    · obtain ⟨x, hx⟩ := Option.isSome_iff_exists.1 e
      obtain ⟨_, e⟩ := rst_some.1 hx; rw [hlf] at e; cases e
    · rintro e w' ⟨v, σ', rfl, h1, h2⟩
      refine ⟨by rw [show v = .bool b from h1], h2.tch.mono (fun k _ ⟨i, _, g, _⟩ => ?_)⟩
      obtain ⟨x, hx⟩ := Option.isSome_iff_exists.1 g
      obtain ⟨_, e⟩ := rst_some.1 hx; rw [hlf] at e; cases e
  · cases h
end
end Go.Proofs.YtcmlgmiomcegeaaGreat.Ev
