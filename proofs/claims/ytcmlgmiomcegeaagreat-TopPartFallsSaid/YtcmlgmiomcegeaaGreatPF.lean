/- TopPartFalls, run by the kernel, joined. No condition. -/
import Derived.Test.YtcmlgmiomcegeaaGreatPF1
import Derived.Test.YtcmlgmiomcegeaaGreatPF2
import Derived.Test.YtcmlgmiomcegeaaGreatPF3
import Derived.Test.YtcmlgmiomcegeaaGreatPF4
import Derived.Test.YtcmlgmiomcegeaaGreatPF5
import Derived.Test.YtcmlgmiomcegeaaGreatPF6
import Derived.Test.YtcmlgmiomcegeaaGreatPF7
import Derived.Test.YtcmlgmiomcegeaaGreatPF8
import Derived.Test.YtcmlgmiomcegeaaGreatPF9
import Derived.Test.YtcmlgmiomcegeaaGreatPF10
import Derived.Test.YtcmlgmiomcegeaaGreatPF11
import Derived.Test.YtcmlgmiomcegeaaGreatPF12
import Derived.Test.YtcmlgmiomcegeaaGreatPF13
import Derived.Test.YtcmlgmiomcegeaaGreatPF14
namespace Go.Proofs.YtcmlgmiomcegeaaGreat.Ev
open Go Go.RowKit Go.Maps
set_option linter.unusedVariables false
set_option linter.unusedSimpArgs false
set_option linter.unusedSectionVars false
theorem topPartFalls_any (a0 a1 : Int) (a2 : Bool) (w : World) : Calls Tryz.prog 4 #[.int .i64 a0, .int .i64 a1, .bool a2] w fun e w' => e = .returned (.bool true) ∧ Tch No w w' := by
  have h0 : smv a0 8 = 0 ∨ smv a0 8 = 1 ∨ smv a0 8 = 2 ∨ smv a0 8 = 3 ∨ smv a0 8 = 4 ∨ smv a0 8 = 5 ∨ smv a0 8 = 6 ∨ smv a0 8 = 7 := by
    have := smv_lt a0 (k := 8) (by decide)
    omega
  have hs : ∀ r : Int, smv a0 8 = r → ∀ e ∈ ([(0, 8, r)] : List (Nat × Int × Int)), smv (v3 a0 a1 0 e.1) e.2.1 = e.2.2 ∧ 0 < e.2.1 ∧ e.2.1 ≤ 1000 := fun r h e he => by
    simp only [List.mem_cons, List.not_mem_nil, or_false] at he
    rcases he with rfl
    exact ⟨h, by simp, by simp⟩
  by_cases hk : a1 ≤ 0
  ·
    cases a2 with
    | true =>
      rcases h0 with h0 | h0 | h0 | h0 | h0 | h0 | h0 | h0
      ·
        exact topC (v := v3 a0 a1 0) (vals := [.int .i64 a0, .int .i64 a1, .bool true]) (hs _ h0) (xK_ok 1) (by exact ⟨rfl, rfl, rfl, trivial⟩) pf0tany w
      ·
        exact topC (v := v3 a0 a1 0) (vals := [.int .i64 a0, .int .i64 a1, .bool true]) (hs _ h0) (xK_ok 1) (by exact ⟨rfl, rfl, rfl, trivial⟩) pf1tany w
      ·
        exact topC (v := v3 a0 a1 0) (vals := [.int .i64 a0, .int .i64 a1, .bool true]) (hs _ h0) (xK_ok 1) (by exact ⟨rfl, rfl, rfl, trivial⟩) pf2tany w
      ·
        exact topC (v := v3 a0 a1 0) (vals := [.int .i64 a0, .int .i64 a1, .bool true]) (hs _ h0) (xK_ok 1) (by exact ⟨rfl, rfl, rfl, trivial⟩) pf3tany w
      ·
        exact topC (v := v3 a0 a1 0) (vals := [.int .i64 a0, .int .i64 a1, .bool true]) (hs _ h0) (xK_ok 1) (by exact ⟨rfl, rfl, rfl, trivial⟩) pf4tany w
      ·
        exact topC (v := v3 a0 a1 0) (vals := [.int .i64 a0, .int .i64 a1, .bool true]) (hs _ h0) (xK_ok 1) (by exact ⟨rfl, rfl, rfl, trivial⟩) pf5tany w
      ·
        exact topC (v := v3 a0 a1 0) (vals := [.int .i64 a0, .int .i64 a1, .bool true]) (hs _ h0) (xK_ok 1) (by exact ⟨rfl, rfl, rfl, trivial⟩) pf6tany w
      ·
        exact topC (v := v3 a0 a1 0) (vals := [.int .i64 a0, .int .i64 a1, .bool true]) (hs _ h0) (xK_ok 1) (by exact ⟨rfl, rfl, rfl, trivial⟩) pf7tany w
    | false =>
      rcases h0 with h0 | h0 | h0 | h0 | h0 | h0 | h0 | h0
      ·
        exact topC (v := v3 a0 a1 0) (vals := [.int .i64 a0, .int .i64 a1, .bool false]) (hs _ h0) (xK_ok 1) (by exact ⟨rfl, rfl, rfl, trivial⟩) pf0fany w
      ·
        exact topC (v := v3 a0 a1 0) (vals := [.int .i64 a0, .int .i64 a1, .bool false]) (hs _ h0) (xK_ok 1) (by exact ⟨rfl, rfl, rfl, trivial⟩) pf1fany w
      ·
        exact topC (v := v3 a0 a1 0) (vals := [.int .i64 a0, .int .i64 a1, .bool false]) (hs _ h0) (xK_ok 1) (by exact ⟨rfl, rfl, rfl, trivial⟩) pf2fany w
      ·
        exact topC (v := v3 a0 a1 0) (vals := [.int .i64 a0, .int .i64 a1, .bool false]) (hs _ h0) (xK_ok 1) (by exact ⟨rfl, rfl, rfl, trivial⟩) pf3fany w
      ·
        exact topC (v := v3 a0 a1 0) (vals := [.int .i64 a0, .int .i64 a1, .bool false]) (hs _ h0) (xK_ok 1) (by exact ⟨rfl, rfl, rfl, trivial⟩) pf4fany w
      ·
        exact topC (v := v3 a0 a1 0) (vals := [.int .i64 a0, .int .i64 a1, .bool false]) (hs _ h0) (pf_no hk) (by exact ⟨rfl, rfl, rfl, trivial⟩) pf5fno w
      ·
        exact topC (v := v3 a0 a1 0) (vals := [.int .i64 a0, .int .i64 a1, .bool false]) (hs _ h0) (pf_no hk) (by exact ⟨rfl, rfl, rfl, trivial⟩) pf6fno w
      ·
        exact topC (v := v3 a0 a1 0) (vals := [.int .i64 a0, .int .i64 a1, .bool false]) (hs _ h0) (pf_no hk) (by exact ⟨rfl, rfl, rfl, trivial⟩) pf7fno w
  ·
    have hr : a1.tmod 18 = 0 ∨ a1.tmod 18 = 1 ∨ a1.tmod 18 = 2 ∨ a1.tmod 18 = 3 ∨ a1.tmod 18 = 4 ∨ a1.tmod 18 = 5 ∨ a1.tmod 18 = 6 ∨ a1.tmod 18 = 7 ∨ a1.tmod 18 = 8 ∨ a1.tmod 18 = 9 ∨ a1.tmod 18 = 10 ∨ a1.tmod 18 = 11 ∨ a1.tmod 18 = 12 ∨ a1.tmod 18 = 13 ∨ a1.tmod 18 = 14 ∨ a1.tmod 18 = 15 ∨ a1.tmod 18 = 16 ∨ a1.tmod 18 = 17 := by
      have g1 := Int.tmod_lt_of_pos a1 (show (0 : Int) < 18 by omega)
      have g2 := Int.tmod_nonneg 18 (show 0 ≤ a1 by omega)
      omega
    cases a2 with
    | true =>
      rcases h0 with h0 | h0 | h0 | h0 | h0 | h0 | h0 | h0
      ·
        exact topC (v := v3 a0 a1 0) (vals := [.int .i64 a0, .int .i64 a1, .bool true]) (hs _ h0) (xK_ok 1) (by exact ⟨rfl, rfl, rfl, trivial⟩) pf0tany w
      ·
        exact topC (v := v3 a0 a1 0) (vals := [.int .i64 a0, .int .i64 a1, .bool true]) (hs _ h0) (xK_ok 1) (by exact ⟨rfl, rfl, rfl, trivial⟩) pf1tany w
      ·
        exact topC (v := v3 a0 a1 0) (vals := [.int .i64 a0, .int .i64 a1, .bool true]) (hs _ h0) (xK_ok 1) (by exact ⟨rfl, rfl, rfl, trivial⟩) pf2tany w
      ·
        exact topC (v := v3 a0 a1 0) (vals := [.int .i64 a0, .int .i64 a1, .bool true]) (hs _ h0) (xK_ok 1) (by exact ⟨rfl, rfl, rfl, trivial⟩) pf3tany w
      ·
        exact topC (v := v3 a0 a1 0) (vals := [.int .i64 a0, .int .i64 a1, .bool true]) (hs _ h0) (xK_ok 1) (by exact ⟨rfl, rfl, rfl, trivial⟩) pf4tany w
      ·
        exact topC (v := v3 a0 a1 0) (vals := [.int .i64 a0, .int .i64 a1, .bool true]) (hs _ h0) (xK_ok 1) (by exact ⟨rfl, rfl, rfl, trivial⟩) pf5tany w
      ·
        exact topC (v := v3 a0 a1 0) (vals := [.int .i64 a0, .int .i64 a1, .bool true]) (hs _ h0) (xK_ok 1) (by exact ⟨rfl, rfl, rfl, trivial⟩) pf6tany w
      ·
        exact topC (v := v3 a0 a1 0) (vals := [.int .i64 a0, .int .i64 a1, .bool true]) (hs _ h0) (xK_ok 1) (by exact ⟨rfl, rfl, rfl, trivial⟩) pf7tany w
    | false =>
      rcases h0 with h0 | h0 | h0 | h0 | h0 | h0 | h0 | h0
      ·
        exact topC (v := v3 a0 a1 0) (vals := [.int .i64 a0, .int .i64 a1, .bool false]) (hs _ h0) (xK_ok 1) (by exact ⟨rfl, rfl, rfl, trivial⟩) pf0fany w
      ·
        exact topC (v := v3 a0 a1 0) (vals := [.int .i64 a0, .int .i64 a1, .bool false]) (hs _ h0) (xK_ok 1) (by exact ⟨rfl, rfl, rfl, trivial⟩) pf1fany w
      ·
        exact topC (v := v3 a0 a1 0) (vals := [.int .i64 a0, .int .i64 a1, .bool false]) (hs _ h0) (xK_ok 1) (by exact ⟨rfl, rfl, rfl, trivial⟩) pf2fany w
      ·
        exact topC (v := v3 a0 a1 0) (vals := [.int .i64 a0, .int .i64 a1, .bool false]) (hs _ h0) (xK_ok 1) (by exact ⟨rfl, rfl, rfl, trivial⟩) pf3fany w
      ·
        exact topC (v := v3 a0 a1 0) (vals := [.int .i64 a0, .int .i64 a1, .bool false]) (hs _ h0) (xK_ok 1) (by exact ⟨rfl, rfl, rfl, trivial⟩) pf4fany w
      ·
        rcases hr with hr | hr | hr | hr | hr | hr | hr | hr | hr | hr | hr | hr | hr | hr | hr | hr | hr | hr
        ·
          exact topC (v := v3 a0 a1 0) (vals := [.int .i64 a0, .int .i64 a1, .bool false]) (hs _ h0) (pf_yes (by show 0 < a1; omega) hr) (by exact ⟨rfl, rfl, rfl, trivial⟩) pf5f0 w
        ·
          exact topC (v := v3 a0 a1 0) (vals := [.int .i64 a0, .int .i64 a1, .bool false]) (hs _ h0) (pf_yes (by show 0 < a1; omega) hr) (by exact ⟨rfl, rfl, rfl, trivial⟩) pf5f1 w
        ·
          exact topC (v := v3 a0 a1 0) (vals := [.int .i64 a0, .int .i64 a1, .bool false]) (hs _ h0) (pf_yes (by show 0 < a1; omega) hr) (by exact ⟨rfl, rfl, rfl, trivial⟩) pf5f2 w
        ·
          exact topC (v := v3 a0 a1 0) (vals := [.int .i64 a0, .int .i64 a1, .bool false]) (hs _ h0) (pf_yes (by show 0 < a1; omega) hr) (by exact ⟨rfl, rfl, rfl, trivial⟩) pf5f3 w
        ·
          exact topC (v := v3 a0 a1 0) (vals := [.int .i64 a0, .int .i64 a1, .bool false]) (hs _ h0) (pf_yes (by show 0 < a1; omega) hr) (by exact ⟨rfl, rfl, rfl, trivial⟩) pf5f4 w
        ·
          exact topC (v := v3 a0 a1 0) (vals := [.int .i64 a0, .int .i64 a1, .bool false]) (hs _ h0) (pf_yes (by show 0 < a1; omega) hr) (by exact ⟨rfl, rfl, rfl, trivial⟩) pf5f5 w
        ·
          exact topC (v := v3 a0 a1 0) (vals := [.int .i64 a0, .int .i64 a1, .bool false]) (hs _ h0) (pf_yes (by show 0 < a1; omega) hr) (by exact ⟨rfl, rfl, rfl, trivial⟩) pf5f6 w
        ·
          exact topC (v := v3 a0 a1 0) (vals := [.int .i64 a0, .int .i64 a1, .bool false]) (hs _ h0) (pf_yes (by show 0 < a1; omega) hr) (by exact ⟨rfl, rfl, rfl, trivial⟩) pf5f7 w
        ·
          exact topC (v := v3 a0 a1 0) (vals := [.int .i64 a0, .int .i64 a1, .bool false]) (hs _ h0) (pf_yes (by show 0 < a1; omega) hr) (by exact ⟨rfl, rfl, rfl, trivial⟩) pf5f8 w
        ·
          exact topC (v := v3 a0 a1 0) (vals := [.int .i64 a0, .int .i64 a1, .bool false]) (hs _ h0) (pf_yes (by show 0 < a1; omega) hr) (by exact ⟨rfl, rfl, rfl, trivial⟩) pf5f9 w
        ·
          exact topC (v := v3 a0 a1 0) (vals := [.int .i64 a0, .int .i64 a1, .bool false]) (hs _ h0) (pf_yes (by show 0 < a1; omega) hr) (by exact ⟨rfl, rfl, rfl, trivial⟩) pf5f10 w
        ·
          exact topC (v := v3 a0 a1 0) (vals := [.int .i64 a0, .int .i64 a1, .bool false]) (hs _ h0) (pf_yes (by show 0 < a1; omega) hr) (by exact ⟨rfl, rfl, rfl, trivial⟩) pf5f11 w
        ·
          exact topC (v := v3 a0 a1 0) (vals := [.int .i64 a0, .int .i64 a1, .bool false]) (hs _ h0) (pf_yes (by show 0 < a1; omega) hr) (by exact ⟨rfl, rfl, rfl, trivial⟩) pf5f12 w
        ·
          exact topC (v := v3 a0 a1 0) (vals := [.int .i64 a0, .int .i64 a1, .bool false]) (hs _ h0) (pf_yes (by show 0 < a1; omega) hr) (by exact ⟨rfl, rfl, rfl, trivial⟩) pf5f13 w
        ·
          exact topC (v := v3 a0 a1 0) (vals := [.int .i64 a0, .int .i64 a1, .bool false]) (hs _ h0) (pf_yes (by show 0 < a1; omega) hr) (by exact ⟨rfl, rfl, rfl, trivial⟩) pf5f14 w
        ·
          exact topC (v := v3 a0 a1 0) (vals := [.int .i64 a0, .int .i64 a1, .bool false]) (hs _ h0) (pf_yes (by show 0 < a1; omega) hr) (by exact ⟨rfl, rfl, rfl, trivial⟩) pf5f15 w
        ·
          exact topC (v := v3 a0 a1 0) (vals := [.int .i64 a0, .int .i64 a1, .bool false]) (hs _ h0) (pf_yes (by show 0 < a1; omega) hr) (by exact ⟨rfl, rfl, rfl, trivial⟩) pf5f16 w
        ·
          exact topC (v := v3 a0 a1 0) (vals := [.int .i64 a0, .int .i64 a1, .bool false]) (hs _ h0) (pf_yes (by show 0 < a1; omega) hr) (by exact ⟨rfl, rfl, rfl, trivial⟩) pf5f17 w
      ·
        rcases hr with hr | hr | hr | hr | hr | hr | hr | hr | hr | hr | hr | hr | hr | hr | hr | hr | hr | hr
        ·
          exact topC (v := v3 a0 a1 0) (vals := [.int .i64 a0, .int .i64 a1, .bool false]) (hs _ h0) (pf_yes (by show 0 < a1; omega) hr) (by exact ⟨rfl, rfl, rfl, trivial⟩) pf6f0 w
        ·
          exact topC (v := v3 a0 a1 0) (vals := [.int .i64 a0, .int .i64 a1, .bool false]) (hs _ h0) (pf_yes (by show 0 < a1; omega) hr) (by exact ⟨rfl, rfl, rfl, trivial⟩) pf6f1 w
        ·
          exact topC (v := v3 a0 a1 0) (vals := [.int .i64 a0, .int .i64 a1, .bool false]) (hs _ h0) (pf_yes (by show 0 < a1; omega) hr) (by exact ⟨rfl, rfl, rfl, trivial⟩) pf6f2 w
        ·
          exact topC (v := v3 a0 a1 0) (vals := [.int .i64 a0, .int .i64 a1, .bool false]) (hs _ h0) (pf_yes (by show 0 < a1; omega) hr) (by exact ⟨rfl, rfl, rfl, trivial⟩) pf6f3 w
        ·
          exact topC (v := v3 a0 a1 0) (vals := [.int .i64 a0, .int .i64 a1, .bool false]) (hs _ h0) (pf_yes (by show 0 < a1; omega) hr) (by exact ⟨rfl, rfl, rfl, trivial⟩) pf6f4 w
        ·
          exact topC (v := v3 a0 a1 0) (vals := [.int .i64 a0, .int .i64 a1, .bool false]) (hs _ h0) (pf_yes (by show 0 < a1; omega) hr) (by exact ⟨rfl, rfl, rfl, trivial⟩) pf6f5 w
        ·
          exact topC (v := v3 a0 a1 0) (vals := [.int .i64 a0, .int .i64 a1, .bool false]) (hs _ h0) (pf_yes (by show 0 < a1; omega) hr) (by exact ⟨rfl, rfl, rfl, trivial⟩) pf6f6 w
        ·
          exact topC (v := v3 a0 a1 0) (vals := [.int .i64 a0, .int .i64 a1, .bool false]) (hs _ h0) (pf_yes (by show 0 < a1; omega) hr) (by exact ⟨rfl, rfl, rfl, trivial⟩) pf6f7 w
        ·
          exact topC (v := v3 a0 a1 0) (vals := [.int .i64 a0, .int .i64 a1, .bool false]) (hs _ h0) (pf_yes (by show 0 < a1; omega) hr) (by exact ⟨rfl, rfl, rfl, trivial⟩) pf6f8 w
        ·
          exact topC (v := v3 a0 a1 0) (vals := [.int .i64 a0, .int .i64 a1, .bool false]) (hs _ h0) (pf_yes (by show 0 < a1; omega) hr) (by exact ⟨rfl, rfl, rfl, trivial⟩) pf6f9 w
        ·
          exact topC (v := v3 a0 a1 0) (vals := [.int .i64 a0, .int .i64 a1, .bool false]) (hs _ h0) (pf_yes (by show 0 < a1; omega) hr) (by exact ⟨rfl, rfl, rfl, trivial⟩) pf6f10 w
        ·
          exact topC (v := v3 a0 a1 0) (vals := [.int .i64 a0, .int .i64 a1, .bool false]) (hs _ h0) (pf_yes (by show 0 < a1; omega) hr) (by exact ⟨rfl, rfl, rfl, trivial⟩) pf6f11 w
        ·
          exact topC (v := v3 a0 a1 0) (vals := [.int .i64 a0, .int .i64 a1, .bool false]) (hs _ h0) (pf_yes (by show 0 < a1; omega) hr) (by exact ⟨rfl, rfl, rfl, trivial⟩) pf6f12 w
        ·
          exact topC (v := v3 a0 a1 0) (vals := [.int .i64 a0, .int .i64 a1, .bool false]) (hs _ h0) (pf_yes (by show 0 < a1; omega) hr) (by exact ⟨rfl, rfl, rfl, trivial⟩) pf6f13 w
        ·
          exact topC (v := v3 a0 a1 0) (vals := [.int .i64 a0, .int .i64 a1, .bool false]) (hs _ h0) (pf_yes (by show 0 < a1; omega) hr) (by exact ⟨rfl, rfl, rfl, trivial⟩) pf6f14 w
        ·
          exact topC (v := v3 a0 a1 0) (vals := [.int .i64 a0, .int .i64 a1, .bool false]) (hs _ h0) (pf_yes (by show 0 < a1; omega) hr) (by exact ⟨rfl, rfl, rfl, trivial⟩) pf6f15 w
        ·
          exact topC (v := v3 a0 a1 0) (vals := [.int .i64 a0, .int .i64 a1, .bool false]) (hs _ h0) (pf_yes (by show 0 < a1; omega) hr) (by exact ⟨rfl, rfl, rfl, trivial⟩) pf6f16 w
        ·
          exact topC (v := v3 a0 a1 0) (vals := [.int .i64 a0, .int .i64 a1, .bool false]) (hs _ h0) (pf_yes (by show 0 < a1; omega) hr) (by exact ⟨rfl, rfl, rfl, trivial⟩) pf6f17 w
      ·
        rcases hr with hr | hr | hr | hr | hr | hr | hr | hr | hr | hr | hr | hr | hr | hr | hr | hr | hr | hr
        ·
          exact topC (v := v3 a0 a1 0) (vals := [.int .i64 a0, .int .i64 a1, .bool false]) (hs _ h0) (pf_yes (by show 0 < a1; omega) hr) (by exact ⟨rfl, rfl, rfl, trivial⟩) pf7f0 w
        ·
          exact topC (v := v3 a0 a1 0) (vals := [.int .i64 a0, .int .i64 a1, .bool false]) (hs _ h0) (pf_yes (by show 0 < a1; omega) hr) (by exact ⟨rfl, rfl, rfl, trivial⟩) pf7f1 w
        ·
          exact topC (v := v3 a0 a1 0) (vals := [.int .i64 a0, .int .i64 a1, .bool false]) (hs _ h0) (pf_yes (by show 0 < a1; omega) hr) (by exact ⟨rfl, rfl, rfl, trivial⟩) pf7f2 w
        ·
          exact topC (v := v3 a0 a1 0) (vals := [.int .i64 a0, .int .i64 a1, .bool false]) (hs _ h0) (pf_yes (by show 0 < a1; omega) hr) (by exact ⟨rfl, rfl, rfl, trivial⟩) pf7f3 w
        ·
          exact topC (v := v3 a0 a1 0) (vals := [.int .i64 a0, .int .i64 a1, .bool false]) (hs _ h0) (pf_yes (by show 0 < a1; omega) hr) (by exact ⟨rfl, rfl, rfl, trivial⟩) pf7f4 w
        ·
          exact topC (v := v3 a0 a1 0) (vals := [.int .i64 a0, .int .i64 a1, .bool false]) (hs _ h0) (pf_yes (by show 0 < a1; omega) hr) (by exact ⟨rfl, rfl, rfl, trivial⟩) pf7f5 w
        ·
          exact topC (v := v3 a0 a1 0) (vals := [.int .i64 a0, .int .i64 a1, .bool false]) (hs _ h0) (pf_yes (by show 0 < a1; omega) hr) (by exact ⟨rfl, rfl, rfl, trivial⟩) pf7f6 w
        ·
          exact topC (v := v3 a0 a1 0) (vals := [.int .i64 a0, .int .i64 a1, .bool false]) (hs _ h0) (pf_yes (by show 0 < a1; omega) hr) (by exact ⟨rfl, rfl, rfl, trivial⟩) pf7f7 w
        ·
          exact topC (v := v3 a0 a1 0) (vals := [.int .i64 a0, .int .i64 a1, .bool false]) (hs _ h0) (pf_yes (by show 0 < a1; omega) hr) (by exact ⟨rfl, rfl, rfl, trivial⟩) pf7f8 w
        ·
          exact topC (v := v3 a0 a1 0) (vals := [.int .i64 a0, .int .i64 a1, .bool false]) (hs _ h0) (pf_yes (by show 0 < a1; omega) hr) (by exact ⟨rfl, rfl, rfl, trivial⟩) pf7f9 w
        ·
          exact topC (v := v3 a0 a1 0) (vals := [.int .i64 a0, .int .i64 a1, .bool false]) (hs _ h0) (pf_yes (by show 0 < a1; omega) hr) (by exact ⟨rfl, rfl, rfl, trivial⟩) pf7f10 w
        ·
          exact topC (v := v3 a0 a1 0) (vals := [.int .i64 a0, .int .i64 a1, .bool false]) (hs _ h0) (pf_yes (by show 0 < a1; omega) hr) (by exact ⟨rfl, rfl, rfl, trivial⟩) pf7f11 w
        ·
          exact topC (v := v3 a0 a1 0) (vals := [.int .i64 a0, .int .i64 a1, .bool false]) (hs _ h0) (pf_yes (by show 0 < a1; omega) hr) (by exact ⟨rfl, rfl, rfl, trivial⟩) pf7f12 w
        ·
          exact topC (v := v3 a0 a1 0) (vals := [.int .i64 a0, .int .i64 a1, .bool false]) (hs _ h0) (pf_yes (by show 0 < a1; omega) hr) (by exact ⟨rfl, rfl, rfl, trivial⟩) pf7f13 w
        ·
          exact topC (v := v3 a0 a1 0) (vals := [.int .i64 a0, .int .i64 a1, .bool false]) (hs _ h0) (pf_yes (by show 0 < a1; omega) hr) (by exact ⟨rfl, rfl, rfl, trivial⟩) pf7f14 w
        ·
          exact topC (v := v3 a0 a1 0) (vals := [.int .i64 a0, .int .i64 a1, .bool false]) (hs _ h0) (pf_yes (by show 0 < a1; omega) hr) (by exact ⟨rfl, rfl, rfl, trivial⟩) pf7f15 w
        ·
          exact topC (v := v3 a0 a1 0) (vals := [.int .i64 a0, .int .i64 a1, .bool false]) (hs _ h0) (pf_yes (by show 0 < a1; omega) hr) (by exact ⟨rfl, rfl, rfl, trivial⟩) pf7f16 w
        ·
          exact topC (v := v3 a0 a1 0) (vals := [.int .i64 a0, .int .i64 a1, .bool false]) (hs _ h0) (pf_yes (by show 0 < a1; omega) hr) (by exact ⟨rfl, rfl, rfl, trivial⟩) pf7f17 w
end Go.Proofs.YtcmlgmiomcegeaaGreat.Ev
