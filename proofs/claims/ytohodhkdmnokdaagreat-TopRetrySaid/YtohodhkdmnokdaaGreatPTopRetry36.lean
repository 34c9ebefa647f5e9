/- Part 36 of what the proof of TopRetry rests on. No condition. -/
import Derived.Test.YtohodhkdmnokdaaGreatPTopRetry35
namespace Go.Proofs.YtohodhkdmnokdaaGreat
set_option maxRecDepth 100000
set_option maxHeartbeats 60000000
set_option linter.unusedVariables false
set_option linter.unusedSimpArgs false
set_option linter.unusedSectionVars false
namespace Ev
open Go Go.RowKit Go.Maps
theorem topRetry_any (a0 : Int) (a1 : Int) (w : World) : Calls Tryz.prog 9 #[.int .i64 a0, .int .i64 a1] w fun e w' => e = .returned (.bool true) /\ Tch No w w' := by
 have h0 : smv a0 3 = 0 ∨ smv a0 3 = 1 ∨ smv a0 3 = 2 := by
  have := smv_lt a0 (k := 3) (by decide)
  omega
 rcases h0 with h0 | h0 | h0
 ·
  have hs : ∀ e ∈ ([(0, 3, 0)] : List (Nat × Int × Int)), smv ((v3 a0 a1 0) e.1) e.2.1 = e.2.2 /\ 0 < e.2.1 /\ e.2.1 <= 1000 := by
   intro e he
   simp only [List.mem_cons, List.not_mem_nil, or_false] at he
   rcases he with rfl
   ·exact ⟨h0, by decide, by decide⟩
  exact topC (v := (v3 a0 a1 0)) (vals := [.int .i64 a0, .int .i64 a1]) hs (xK_ok 1) (by exact ⟨rfl, rfl, trivial⟩) topRetry_f0 w
 ·
  have hs : ∀ e ∈ ([(0, 3, 1)] : List (Nat × Int × Int)), smv ((v3 a0 a1 0) e.1) e.2.1 = e.2.2 /\ 0 < e.2.1 /\ e.2.1 <= 1000 := by
   intro e he
   simp only [List.mem_cons, List.not_mem_nil, or_false] at he
   rcases he with rfl
   ·exact ⟨h0, by decide, by decide⟩
  exact topC (v := (v3 a0 a1 0)) (vals := [.int .i64 a0, .int .i64 a1]) hs (xK_ok 1) (by exact ⟨rfl, rfl, trivial⟩) topRetry_f1 w
 ·
  have hs : ∀ e ∈ ([(0, 3, 2)] : List (Nat × Int × Int)), smv ((v3 a0 a1 0) e.1) e.2.1 = e.2.2 /\ 0 < e.2.1 /\ e.2.1 <= 1000 := by
   intro e he
   simp only [List.mem_cons, List.not_mem_nil, or_false] at he
   rcases he with rfl
   ·exact ⟨h0, by decide, by decide⟩
  exact topC (v := (v3 a0 a1 0)) (vals := [.int .i64 a0, .int .i64 a1]) hs (xK_ok 1) (by exact ⟨rfl, rfl, trivial⟩) topRetry_f2 w
end Ev
end Go.Proofs.YtohodhkdmnokdaaGreat
