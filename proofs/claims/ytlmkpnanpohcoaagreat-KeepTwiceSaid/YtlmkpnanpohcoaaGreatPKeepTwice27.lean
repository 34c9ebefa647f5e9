/- Part 27 of what the proof of KeepTwice rests on. No condition. -/
import Derived.Test.YtlmkpnanpohcoaaGreatPKeepTwice26
namespace Go.Proofs.YtlmkpnanpohcoaaGreat
set_option maxRecDepth 100000
set_option maxHeartbeats 60000000
set_option linter.unusedVariables false
set_option linter.unusedSimpArgs false
set_option linter.unusedSectionVars false
namespace Ev
open Go Go.RowKit Go.Maps
def tv (a : Int) (z : Nat -> Int) : Nat -> Int
 | 0 => a | 1 => a.tmod 5 | 2 => a.tmod 5 + 5 | j => z (j - 10)
@[reducible] def envT (a : Int) (z : Nat -> Int) (q : Addr) : Env := ⟨fun j => .int .i64 (tv a z j), fun _ => rfl, fun _ => q⟩
noncomputable def xT (r : Int) : List XE := [⟨.rem, 0, 0, 5, .ext 1⟩, ⟨.add, 1, 1, 5, .ext 2⟩, ⟨.rem, 2, 2, 5, .int .i64 r⟩, ⟨.gtr, 10, 14, 0, .ub⟩, ⟨.rem, 10, 14, 1, .int .i64 0⟩]
theorem xT_ok {a : Int} {z : Nat -> Int} {q : Addr} {r : Int} (h1 : (a.tmod 5 + 5).tmod 5 = r) : ∀ e ∈ xT r, @XE.Ok (envT a z q) e := by
 have hb := Int.tmod_lt_of_pos a (show (0 : Int) < 5 by omega)
 have hb2 : -5 < a.tmod 5 := by
  have := Int.lt_tmod_of_pos a (show (0 : Int) < 5 by omega)
  omega
 have hw : ∀ x : Int, -5 < x -> x < 5 -> IntKind.wrap .i64 (x + 5) = x + 5 := fun x _ _ => by rw [IntKind.wrap_i64]; omega
 intro e he
 simp only [xT, List.mem_cons, List.not_mem_nil, or_false] at he
 rcases he with rfl | rfl | rfl | rfl | rfl
 ·intro i g1 g2
  obtain rfl : i = 0 := by simp only at g1 g2; omega
  exact ⟨a, .int .i64 (a.tmod 5), rfl, by simp [intC], fun σ D v h => h⟩
 ·intro i g1 g2
  obtain rfl : i = 1 := by simp only at g1 g2; omega
  exact ⟨a.tmod 5, .int .i64 (IntKind.wrap .i64 (a.tmod 5 + 5)), rfl, by simp [intC], fun σ D v h => by
   rw [show v = .int .i64 (IntKind.wrap .i64 (a.tmod 5 + 5)) from h, hw _ hb2 hb]; rfl⟩
 ·intro i g1 g2
  obtain rfl : i = 2 := by simp only at g1 g2; omega
  exact ⟨a.tmod 5 + 5, .int .i64 ((a.tmod 5 + 5).tmod 5), rfl, by simp [intC], fun σ D v h => by rw [h1] at h; exact h⟩
 ·intro i g1 g2
  exact ⟨_, .bool (decide (0 < tv a z i)), rfl, by simp [intC], fun σ D v h => ⟨_, h⟩⟩
 ·intro i g1 g2
  exact ⟨_, .int .i64 ((tv a z i).tmod 1), rfl, by simp [intC], fun σ D v h => by rw [Int.tmod_one] at h; exact h⟩
end Ev
end Go.Proofs.YtlmkpnanpohcoaaGreat
