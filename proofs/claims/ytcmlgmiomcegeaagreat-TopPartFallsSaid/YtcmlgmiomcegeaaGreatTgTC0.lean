/- The texts TC0, one behind the other. No condition. -/
import Derived.Test.YtcmlgmiomcegeaaGreatTgTB0
import Derived.Test.YtcmlgmiomcegeaaGreatTg8
namespace Go.Proofs.YtcmlgmiomcegeaaGreat
open Go Go.RowKit Go.Maps
set_option linter.unusedVariables false
set_option linter.unusedSimpArgs false
/-- What small gives. -/
def smv (x k : Int) : Int := ((x.tmod k).natAbs : Int)
theorem smv_lt (x : Int) {k : Int} (hk : 0 < k) : 0 ≤ smv x k ∧ smv x k < k := by
  have h1 := Int.tmod_lt_of_pos x hk
  have h2 := Int.lt_tmod_of_pos x hk
  unfold smv; omega
set_option maxRecDepth 100000 in
theorem small_any (x k : Int) (hk : 0 < k) (hk2 : k ≤ 1000) (w : World) : Calls Tryz.prog 7 #[.int .i64 x, .int .i64 k] w fun e w' => e = .returned (.int .i64 (smv x k)) ∧ Tch No w w' := by
  have h1 := Int.tmod_lt_of_pos x hk
  have h2 := Int.lt_tmod_of_pos x hk
  have hk0 : ¬ k = 0 := by omega
  have hr : smv x k = if x.tmod k < 0 then -(x.tmod k) else x.tmod k := by unfold smv; split <;> omega
  rw [hr]
  clear hr
  generalize hq : x.tmod k = q at h1 h2 ⊢
  go_enter Tryz.func7, Tryz.ntmps7
  by_cases hn : q < 0
  · rw [if_pos hn]
    go_wp2
    go_ret
    exact ⟨by go_num, Tch.refl _ _⟩
  · rw [if_neg hn]
    go_wp2
    go_ret
    exact ⟨rfl, Tch.refl _ _⟩
end Go.Proofs.YtcmlgmiomcegeaaGreat
namespace Go.Proofs.YtcmlgmiomcegeaaGreat.Ev
open Go Go.RowKit Go.Maps
set_option linter.unusedVariables false
set_option linter.unusedSimpArgs false
set_option linter.unusedSectionVars false
noncomputable def smL : List (Nat × Int × Int) → Nat → Int → Option Int
  | [], _, _ => none
  | e :: l, j, c => if (Nat.beq e.1 j && eqF e.2.1 c) = true then some e.2.2 else smL l j c
theorem smL_mem [Env] : ∀ {l : List (Nat × Int × Int)} {j : Nat} {c r : Int}, smL l j c = some r → ∃ e ∈ l, e.1 = j ∧ e.2.1 = c ∧ e.2.2 = r
  | e :: l, j, c, r, h => by
    simp only [smL] at h
    split at h
    · rename_i hc
      rw [eqF_eq] at hc
      simp only [Bool.and_eq_true, beq_iff_eq] at hc
      cases h
      exact ⟨e, by simp, Nat.eq_of_beq_eq_true hc.1, hc.2, rfl⟩
    · obtain ⟨e', h1, h2⟩ := smL_mem h
      exact ⟨e', List.mem_cons_of_mem _ h1, h2⟩
noncomputable def smFn (l : List (Nat × Int × Int)) (args : List S) : Option S := match args with
  | [.v (.c (.ext j)), .v (.c (.int .i64 k))] => (smL l j k).map fun r => .v (.c (.int .i64 r))
  | _ => none
noncomputable def orcT (l : List (Nat × Int × Int)) : Orc := valOrc 7 (smFn l) orcY
theorem orcT_ok [Env] {l : List (Nat × Int × Int)} (h : ∀ e ∈ l, ∃ x, Env.val e.1 = .int .i64 x ∧ smv x e.2.1 = e.2.2 ∧ 0 < e.2.1 ∧ e.2.1 ≤ 1000) : OrcOK Tryz.prog (orcT l) := valOrc_ok ⟨_, Tryz.func7, rfl⟩ (fun args s hf σ D w vals hv => by
  unfold smFn at hf
  split at hf
  · rename_i j k
    rw [Option.map_eq_some_iff] at hf
    obtain ⟨r, h1, rfl⟩ := hf
    obtain ⟨e, he, rfl, rfl, rfl⟩ := smL_mem h1
    obtain ⟨x, g1, g2, g3, g4⟩ := h e he
    match vals, hv with
    | [v1, v2], ⟨e1, e2, _⟩ =>
      have e1 : v1 = .int .i64 x := (show v1 = Env.val e.1 from e1).trans g1
      have e2 : v2 = .int .i64 e.2.1 := e2
      subst e1; subst e2
      refine (small_any x e.2.1 g3 g4 w).mono ?_
      rintro ex w' ⟨rfl, t⟩
      exact ⟨_, rfl, by rw [g2]; rfl, t⟩
  · cases hf) orcY_ok
/-! ### Numbers -/
def v3 (a b c : Int) : Nat → Int | 0 => a | 1 => b | _ => c
@[reducible] def envP (v : Nat → Int) : Env := envV (fun j => .int .i64 (v j)) (fun _ => rfl) (fun _ => ⟨0, 0, none⟩)
theorem xN_ok {v : Nat → Int} : ∀ e ∈ ([] : List XE), @XE.Ok (envP v) e := fun e h => by cases h
theorem xK_ok {v : Nat → Int} (q : Nat) : ∀ e ∈ ([⟨.gtr, q, q, 0, .ub, false⟩, ⟨.rem, q, q, 1, .int .i64 0, false⟩] : List XE), @XE.Ok (envP v) e := by
  intro e he
  simp only [List.mem_cons, List.not_mem_nil, or_false] at he
  rcases he with rfl | rfl
  · intro i _ _
    exact ⟨_, .bool (decide (0 < v i)), rfl, by simp [intC], fun σ D w h => ⟨_, h⟩⟩
  · intro i _ _
    exact ⟨_, .int .i64 ((v i).tmod 1), rfl, by simp [intC], fun σ D w h => by rw [Int.tmod_one] at h; exact h⟩
theorem topC {v : Nat → Int} {sm : List (Nat × Int × Int)} {xl : List XE} {f : FuncId} {args : List S} {vals : List Value} (hs : ∀ e ∈ sm, smv (v e.1) e.2.1 = e.2.2 ∧ 0 < e.2.1 ∧ e.2.1 ≤ 1000) (hx : ∀ e ∈ xl, @XE.Ok (envP v) e) (hv : @RSL (envP v) (fun _ => ⟨0, 0⟩) (fun _ => False) args vals)
    (h : ∀ [Env], evFK scanH (xoE xl) (orcT sm) Tryz.prog 2000 80 f args HT.lf 0 (fun s _ _ _ _ => isB s true) = true) (w : World) : Calls Tryz.prog f vals.toArray w fun e w' => e = .returned (.bool true) ∧ Tch No w w' :=
  @closedA (envP v) _ scanH _ (orcT sm) 2000 80 (@scanH_ok (envP v)) (@xoE_ok (envP v) _ _ hx) (@orcT_ok (envP v) _ (fun e he => ⟨_, rfl, hs e he⟩)) (@pok (envP v)) f true args vals hv (@h (envP v)) w
end Go.Proofs.YtcmlgmiomcegeaaGreat.Ev
