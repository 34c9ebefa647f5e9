/- TopPartFalls: what is told of the number of bytes kept. No condition. -/
import Derived.Test.YtcmlgmiomcegeaaGreatTgTC0
namespace Go.Proofs.YtcmlgmiomcegeaaGreat.Ev
open Go Go.RowKit Go.Maps
set_option linter.unusedVariables false
set_option linter.unusedSimpArgs false
set_option linter.unusedSectionVars false
theorem pf_no {v : Nat → Int} (h : v 1 ≤ 0) : ∀ e ∈ ([⟨.gtr, 1, 1, 0, .bool false, false⟩] : List XE), @XE.Ok (envP v) e := by
  intro e he
  simp only [List.mem_cons, List.not_mem_nil, or_false] at he
  rcases he with rfl
  intro i k1 k2
  obtain rfl : i = 1 := by simp only at k1 k2; omega
  exact ⟨_, .bool (decide (0 < v 1)), rfl, by simp [intC], fun σ D w g => by rw [decide_eq_false (by omega)] at g; exact g⟩
theorem pf_yes {v : Nat → Int} {r : Int} (h : 0 < v 1) (hr : (v 1).tmod 18 = r) : ∀ e ∈ ([⟨.gtr, 1, 1, 0, .bool true, false⟩, ⟨.rem, 1, 1, 1, .int .i64 0, false⟩, ⟨.rem, 1, 1, 18, .int .i64 r, false⟩] : List XE), @XE.Ok (envP v) e := by
  intro e he
  simp only [List.mem_cons, List.not_mem_nil, or_false] at he
  rcases he with rfl | rfl | rfl
  · intro i k1 k2
    obtain rfl : i = 1 := by simp only at k1 k2; omega
    exact ⟨_, .bool (decide (0 < v 1)), rfl, by simp [intC], fun σ D w g => by rw [decide_eq_true h] at g; exact g⟩
  · intro i k1 k2
    obtain rfl : i = 1 := by simp only at k1 k2; omega
    exact ⟨_, .int .i64 ((v 1).tmod 1), rfl, by simp [intC], fun σ D w g => by rw [Int.tmod_one] at g; exact g⟩
  · intro i k1 k2
    obtain rfl : i = 1 := by simp only at k1 k2; omega
    exact ⟨_, .int .i64 ((v 1).tmod 18), rfl, by simp [intC], fun σ D w g => by rw [hr] at g; exact g⟩
end Go.Proofs.YtcmlgmiomcegeaaGreat.Ev
