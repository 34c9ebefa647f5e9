/- Part 35 of what the proof of TopTwice rests on. No condition. -/
import Derived.Test.YtohodhkdmnokdaaGreatPTopTwice34
namespace Go.Proofs.YtohodhkdmnokdaaGreat
set_option maxRecDepth 100000
set_option maxHeartbeats 60000000
set_option linter.unusedVariables false
set_option linter.unusedSimpArgs false
set_option linter.unusedSectionVars false
namespace Ev
open Go Go.RowKit Go.Maps
@[reducible] def envR (z : Nat -> Int) (q : Addr) : Env := envV (fun j => .int .i64 (z (j - 10))) (fun _ => rfl) (fun _ => q)
noncomputable def xR : List XE := [⟨.gtr, 10, 15, 0, .ub, false⟩, ⟨.rem, 10, 15, 1, .int .i64 0, false⟩]
theorem xR_ok {z : Nat -> Int} {q : Addr} : ∀ e ∈ xR, @XE.Ok (envR z q) e := by
 intro e he
 simp only [xR, List.mem_cons, List.not_mem_nil, or_false] at he
 rcases he with rfl | rfl
 ·intro i g1 g2
  exact ⟨_, .bool (decide (0 < z (i - 10))), rfl, by simp [intC], fun σ D v h => ⟨_, h⟩⟩
 ·intro i g1 g2
  exact ⟨_, .int .i64 ((z (i - 10)).tmod 1), rfl, by simp [intC], fun σ D v h => by rw [Int.tmod_one] at h; exact h⟩
end Ev
end Go.Proofs.YtohodhkdmnokdaaGreat
