/- Part 37 of what the proof of TopLostNo rests on. No condition. -/
import Derived.Test.YtohodhkdmnokdaaGreatPTopLostNo35
import Derived.Test.YtohodhkdmnokdaaGreatPTopLostNo36
namespace Go.Proofs.YtohodhkdmnokdaaGreat
set_option maxRecDepth 100000
set_option maxHeartbeats 60000000
set_option linter.unusedVariables false
set_option linter.unusedSimpArgs false
set_option linter.unusedSectionVars false
namespace Ev
open Go Go.RowKit Go.Maps
theorem topLostNo_any (a0 : Int) (a1 : Int) (w : World) : Calls Tryz.prog 8 #[.int .i64 a0, .int .i64 a1] w fun e w' => e = .returned (.bool true) /\ Tch No w w' := by
 have h0 : smv a0 5 = 0 ∨ smv a0 5 = 1 ∨ smv a0 5 = 2 ∨ smv a0 5 = 3 ∨ smv a0 5 = 4 := by
  have := smv_lt a0 (k := 5) (by decide)
  omega
 rcases h0 with h0 | h0 | h0 | h0 | h0
 ·
  have hs : ∀ e ∈ ([(0, 5, 0)] : List (Nat × Int × Int)), smv ((v3 a0 a1 0) e.1) e.2.1 = e.2.2 /\ 0 < e.2.1 /\ e.2.1 <= 1000 := by
   intro e he
   simp only [List.mem_cons, List.not_mem_nil, or_false] at he
   rcases he with rfl
   ·exact ⟨h0, by decide, by decide⟩
  exact topC (v := (v3 a0 a1 0)) (vals := [.int .i64 a0, .int .i64 a1]) hs (xK_ok 1) (by exact ⟨rfl, rfl, trivial⟩) topLostNo_d0 w
 ·
  have hs : ∀ e ∈ ([(0, 5, 1)] : List (Nat × Int × Int)), smv ((v3 a0 a1 0) e.1) e.2.1 = e.2.2 /\ 0 < e.2.1 /\ e.2.1 <= 1000 := by
   intro e he
   simp only [List.mem_cons, List.not_mem_nil, or_false] at he
   rcases he with rfl
   ·exact ⟨h0, by decide, by decide⟩
  exact topC (v := (v3 a0 a1 0)) (vals := [.int .i64 a0, .int .i64 a1]) hs (xK_ok 1) (by exact ⟨rfl, rfl, trivial⟩) topLostNo_d1 w
 ·
  have hs : ∀ e ∈ ([(0, 5, 2)] : List (Nat × Int × Int)), smv ((v3 a0 a1 0) e.1) e.2.1 = e.2.2 /\ 0 < e.2.1 /\ e.2.1 <= 1000 := by
   intro e he
   simp only [List.mem_cons, List.not_mem_nil, or_false] at he
   rcases he with rfl
   ·exact ⟨h0, by decide, by decide⟩
  exact topC (v := (v3 a0 a1 0)) (vals := [.int .i64 a0, .int .i64 a1]) hs (xK_ok 1) (by exact ⟨rfl, rfl, trivial⟩) topLostNo_d2 w
 ·
  have hs : ∀ e ∈ ([(0, 5, 3)] : List (Nat × Int × Int)), smv ((v3 a0 a1 0) e.1) e.2.1 = e.2.2 /\ 0 < e.2.1 /\ e.2.1 <= 1000 := by
   intro e he
   simp only [List.mem_cons, List.not_mem_nil, or_false] at he
   rcases he with rfl
   ·exact ⟨h0, by decide, by decide⟩
  exact topC (v := (v3 a0 a1 0)) (vals := [.int .i64 a0, .int .i64 a1]) hs (xK_ok 1) (by exact ⟨rfl, rfl, trivial⟩) topLostNo_d3 w
 ·
  have hs : ∀ e ∈ ([(0, 5, 4)] : List (Nat × Int × Int)), smv ((v3 a0 a1 0) e.1) e.2.1 = e.2.2 /\ 0 < e.2.1 /\ e.2.1 <= 1000 := by
   intro e he
   simp only [List.mem_cons, List.not_mem_nil, or_false] at he
   rcases he with rfl
   ·exact ⟨h0, by decide, by decide⟩
  exact topC (v := (v3 a0 a1 0)) (vals := [.int .i64 a0, .int .i64 a1]) hs (xK_ok 1) (by exact ⟨rfl, rfl, trivial⟩) topLostNo_d4 w
end Ev
end Go.Proofs.YtohodhkdmnokdaaGreat
