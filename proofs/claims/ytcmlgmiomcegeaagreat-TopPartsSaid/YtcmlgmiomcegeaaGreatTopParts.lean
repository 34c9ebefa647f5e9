/- TopParts, run by the kernel, joined. No condition. -/
import Derived.Test.YtcmlgmiomcegeaaGreatTopParts1
import Derived.Test.YtcmlgmiomcegeaaGreatTopParts2
import Derived.Test.YtcmlgmiomcegeaaGreatTopParts3
import Derived.Test.YtcmlgmiomcegeaaGreatTopParts4
import Derived.Test.YtcmlgmiomcegeaaGreatTopParts5
import Derived.Test.YtcmlgmiomcegeaaGreatTopParts6
namespace Go.Proofs.YtcmlgmiomcegeaaGreat.Ev
open Go Go.RowKit Go.Maps
set_option linter.unusedVariables false
set_option linter.unusedSimpArgs false
set_option linter.unusedSectionVars false
theorem topParts_any (a0 : Int) (a1 : Int) (a2 : Int) (w : World) : Calls Tryz.prog 5 #[.int .i64 a0, .int .i64 a1, .int .i64 a2] w fun e w' => e = .returned (.bool true) ∧ Tch No w w' := by
  have h0 : smv a0 4 = 0 ∨ smv a0 4 = 1 ∨ smv a0 4 = 2 ∨ smv a0 4 = 3 := by
    have := smv_lt a0 (k := 4) (by decide)
    omega
  rcases h0 with h0 | h0 | h0 | h0
  ·
    have h1 : smv a1 2 = 0 ∨ smv a1 2 = 1 := by
      have := smv_lt a1 (k := 2) (by decide)
      omega
    rcases h1 with h1 | h1
    ·
      have hs : ∀ e ∈ ([(0, 4, 0), (1, 2, 0)] : List (Nat × Int × Int)), smv ((v3 a0 a1 a2) e.1) e.2.1 = e.2.2 ∧ 0 < e.2.1 ∧ e.2.1 ≤ 1000 := by
        intro e he
        simp only [List.mem_cons, List.not_mem_nil, or_false] at he
        rcases he with rfl | rfl
        · exact ⟨h0, by decide, by decide⟩
        · exact ⟨h1, by decide, by decide⟩
      exact topC (v := (v3 a0 a1 a2)) (vals := [.int .i64 a0, .int .i64 a1, .int .i64 a2]) hs (xK_ok 2) (by exact ⟨rfl, rfl, rfl, trivial⟩) topParts_b0w0 w
    ·
      have hs : ∀ e ∈ ([(0, 4, 0), (1, 2, 1)] : List (Nat × Int × Int)), smv ((v3 a0 a1 a2) e.1) e.2.1 = e.2.2 ∧ 0 < e.2.1 ∧ e.2.1 ≤ 1000 := by
        intro e he
        simp only [List.mem_cons, List.not_mem_nil, or_false] at he
        rcases he with rfl | rfl
        · exact ⟨h0, by decide, by decide⟩
        · exact ⟨h1, by decide, by decide⟩
      exact topC (v := (v3 a0 a1 a2)) (vals := [.int .i64 a0, .int .i64 a1, .int .i64 a2]) hs (xK_ok 2) (by exact ⟨rfl, rfl, rfl, trivial⟩) topParts_b0w1 w
  ·
    have h1 : smv a1 3 = 0 ∨ smv a1 3 = 1 ∨ smv a1 3 = 2 := by
      have := smv_lt a1 (k := 3) (by decide)
      omega
    rcases h1 with h1 | h1 | h1
    ·
      have hs : ∀ e ∈ ([(0, 4, 1), (1, 3, 0)] : List (Nat × Int × Int)), smv ((v3 a0 a1 a2) e.1) e.2.1 = e.2.2 ∧ 0 < e.2.1 ∧ e.2.1 ≤ 1000 := by
        intro e he
        simp only [List.mem_cons, List.not_mem_nil, or_false] at he
        rcases he with rfl | rfl
        · exact ⟨h0, by decide, by decide⟩
        · exact ⟨h1, by decide, by decide⟩
      exact topC (v := (v3 a0 a1 a2)) (vals := [.int .i64 a0, .int .i64 a1, .int .i64 a2]) hs (xK_ok 2) (by exact ⟨rfl, rfl, rfl, trivial⟩) topParts_b1w0 w
    ·
      have hs : ∀ e ∈ ([(0, 4, 1), (1, 3, 1)] : List (Nat × Int × Int)), smv ((v3 a0 a1 a2) e.1) e.2.1 = e.2.2 ∧ 0 < e.2.1 ∧ e.2.1 ≤ 1000 := by
        intro e he
        simp only [List.mem_cons, List.not_mem_nil, or_false] at he
        rcases he with rfl | rfl
        · exact ⟨h0, by decide, by decide⟩
        · exact ⟨h1, by decide, by decide⟩
      exact topC (v := (v3 a0 a1 a2)) (vals := [.int .i64 a0, .int .i64 a1, .int .i64 a2]) hs (xK_ok 2) (by exact ⟨rfl, rfl, rfl, trivial⟩) topParts_b1w1 w
    ·
      have hs : ∀ e ∈ ([(0, 4, 1), (1, 3, 2)] : List (Nat × Int × Int)), smv ((v3 a0 a1 a2) e.1) e.2.1 = e.2.2 ∧ 0 < e.2.1 ∧ e.2.1 ≤ 1000 := by
        intro e he
        simp only [List.mem_cons, List.not_mem_nil, or_false] at he
        rcases he with rfl | rfl
        · exact ⟨h0, by decide, by decide⟩
        · exact ⟨h1, by decide, by decide⟩
      exact topC (v := (v3 a0 a1 a2)) (vals := [.int .i64 a0, .int .i64 a1, .int .i64 a2]) hs (xK_ok 2) (by exact ⟨rfl, rfl, rfl, trivial⟩) topParts_b1w2 w
  ·
    have h1 : smv a1 4 = 0 ∨ smv a1 4 = 1 ∨ smv a1 4 = 2 ∨ smv a1 4 = 3 := by
      have := smv_lt a1 (k := 4) (by decide)
      omega
    rcases h1 with h1 | h1 | h1 | h1
    ·
      have hs : ∀ e ∈ ([(0, 4, 2), (1, 4, 0)] : List (Nat × Int × Int)), smv ((v3 a0 a1 a2) e.1) e.2.1 = e.2.2 ∧ 0 < e.2.1 ∧ e.2.1 ≤ 1000 := by
        intro e he
        simp only [List.mem_cons, List.not_mem_nil, or_false] at he
        rcases he with rfl | rfl
        · exact ⟨h0, by decide, by decide⟩
        · exact ⟨h1, by decide, by decide⟩
      exact topC (v := (v3 a0 a1 a2)) (vals := [.int .i64 a0, .int .i64 a1, .int .i64 a2]) hs (xK_ok 2) (by exact ⟨rfl, rfl, rfl, trivial⟩) topParts_b2w0 w
    ·
      have hs : ∀ e ∈ ([(0, 4, 2), (1, 4, 1)] : List (Nat × Int × Int)), smv ((v3 a0 a1 a2) e.1) e.2.1 = e.2.2 ∧ 0 < e.2.1 ∧ e.2.1 ≤ 1000 := by
        intro e he
        simp only [List.mem_cons, List.not_mem_nil, or_false] at he
        rcases he with rfl | rfl
        · exact ⟨h0, by decide, by decide⟩
        · exact ⟨h1, by decide, by decide⟩
      exact topC (v := (v3 a0 a1 a2)) (vals := [.int .i64 a0, .int .i64 a1, .int .i64 a2]) hs (xK_ok 2) (by exact ⟨rfl, rfl, rfl, trivial⟩) topParts_b2w1 w
    ·
      have hs : ∀ e ∈ ([(0, 4, 2), (1, 4, 2)] : List (Nat × Int × Int)), smv ((v3 a0 a1 a2) e.1) e.2.1 = e.2.2 ∧ 0 < e.2.1 ∧ e.2.1 ≤ 1000 := by
        intro e he
        simp only [List.mem_cons, List.not_mem_nil, or_false] at he
        rcases he with rfl | rfl
        · exact ⟨h0, by decide, by decide⟩
        · exact ⟨h1, by decide, by decide⟩
      exact topC (v := (v3 a0 a1 a2)) (vals := [.int .i64 a0, .int .i64 a1, .int .i64 a2]) hs (xK_ok 2) (by exact ⟨rfl, rfl, rfl, trivial⟩) topParts_b2w2 w
    ·
      have hs : ∀ e ∈ ([(0, 4, 2), (1, 4, 3)] : List (Nat × Int × Int)), smv ((v3 a0 a1 a2) e.1) e.2.1 = e.2.2 ∧ 0 < e.2.1 ∧ e.2.1 ≤ 1000 := by
        intro e he
        simp only [List.mem_cons, List.not_mem_nil, or_false] at he
        rcases he with rfl | rfl
        · exact ⟨h0, by decide, by decide⟩
        · exact ⟨h1, by decide, by decide⟩
      exact topC (v := (v3 a0 a1 a2)) (vals := [.int .i64 a0, .int .i64 a1, .int .i64 a2]) hs (xK_ok 2) (by exact ⟨rfl, rfl, rfl, trivial⟩) topParts_b2w3 w
  ·
    have h1 : smv a1 5 = 0 ∨ smv a1 5 = 1 ∨ smv a1 5 = 2 ∨ smv a1 5 = 3 ∨ smv a1 5 = 4 := by
      have := smv_lt a1 (k := 5) (by decide)
      omega
    rcases h1 with h1 | h1 | h1 | h1 | h1
    ·
      have hs : ∀ e ∈ ([(0, 4, 3), (1, 5, 0)] : List (Nat × Int × Int)), smv ((v3 a0 a1 a2) e.1) e.2.1 = e.2.2 ∧ 0 < e.2.1 ∧ e.2.1 ≤ 1000 := by
        intro e he
        simp only [List.mem_cons, List.not_mem_nil, or_false] at he
        rcases he with rfl | rfl
        · exact ⟨h0, by decide, by decide⟩
        · exact ⟨h1, by decide, by decide⟩
      exact topC (v := (v3 a0 a1 a2)) (vals := [.int .i64 a0, .int .i64 a1, .int .i64 a2]) hs (xK_ok 2) (by exact ⟨rfl, rfl, rfl, trivial⟩) topParts_b3w0 w
    ·
      have hs : ∀ e ∈ ([(0, 4, 3), (1, 5, 1)] : List (Nat × Int × Int)), smv ((v3 a0 a1 a2) e.1) e.2.1 = e.2.2 ∧ 0 < e.2.1 ∧ e.2.1 ≤ 1000 := by
        intro e he
        simp only [List.mem_cons, List.not_mem_nil, or_false] at he
        rcases he with rfl | rfl
        · exact ⟨h0, by decide, by decide⟩
        · exact ⟨h1, by decide, by decide⟩
      exact topC (v := (v3 a0 a1 a2)) (vals := [.int .i64 a0, .int .i64 a1, .int .i64 a2]) hs (xK_ok 2) (by exact ⟨rfl, rfl, rfl, trivial⟩) topParts_b3w1 w
    ·
      have hs : ∀ e ∈ ([(0, 4, 3), (1, 5, 2)] : List (Nat × Int × Int)), smv ((v3 a0 a1 a2) e.1) e.2.1 = e.2.2 ∧ 0 < e.2.1 ∧ e.2.1 ≤ 1000 := by
        intro e he
        simp only [List.mem_cons, List.not_mem_nil, or_false] at he
        rcases he with rfl | rfl
        · exact ⟨h0, by decide, by decide⟩
        · exact ⟨h1, by decide, by decide⟩
      exact topC (v := (v3 a0 a1 a2)) (vals := [.int .i64 a0, .int .i64 a1, .int .i64 a2]) hs (xK_ok 2) (by exact ⟨rfl, rfl, rfl, trivial⟩) topParts_b3w2 w
    ·
      have hs : ∀ e ∈ ([(0, 4, 3), (1, 5, 3)] : List (Nat × Int × Int)), smv ((v3 a0 a1 a2) e.1) e.2.1 = e.2.2 ∧ 0 < e.2.1 ∧ e.2.1 ≤ 1000 := by
        intro e he
        simp only [List.mem_cons, List.not_mem_nil, or_false] at he
        rcases he with rfl | rfl
        · exact ⟨h0, by decide, by decide⟩
        · exact ⟨h1, by decide, by decide⟩
      exact topC (v := (v3 a0 a1 a2)) (vals := [.int .i64 a0, .int .i64 a1, .int .i64 a2]) hs (xK_ok 2) (by exact ⟨rfl, rfl, rfl, trivial⟩) topParts_b3w3 w
    ·
      have hs : ∀ e ∈ ([(0, 4, 3), (1, 5, 4)] : List (Nat × Int × Int)), smv ((v3 a0 a1 a2) e.1) e.2.1 = e.2.2 ∧ 0 < e.2.1 ∧ e.2.1 ≤ 1000 := by
        intro e he
        simp only [List.mem_cons, List.not_mem_nil, or_false] at he
        rcases he with rfl | rfl
        · exact ⟨h0, by decide, by decide⟩
        · exact ⟨h1, by decide, by decide⟩
      exact topC (v := (v3 a0 a1 a2)) (vals := [.int .i64 a0, .int .i64 a1, .int .i64 a2]) hs (xK_ok 2) (by exact ⟨rfl, rfl, rfl, trivial⟩) topParts_b3w4 w
end Go.Proofs.YtcmlgmiomcegeaaGreat.Ev
