/- TopFall, run by the kernel, joined. No condition. -/
import Derived.Test.YtcmlgmiomcegeaaGreatTopFall1
import Derived.Test.YtcmlgmiomcegeaaGreatTopFall2
import Derived.Test.YtcmlgmiomcegeaaGreatTopFall3
import Derived.Test.YtcmlgmiomcegeaaGreatTopFall4
import Derived.Test.YtcmlgmiomcegeaaGreatTopFall5
import Derived.Test.YtcmlgmiomcegeaaGreatTopFall6
import Derived.Test.YtcmlgmiomcegeaaGreatTopFall7
import Derived.Test.YtcmlgmiomcegeaaGreatTopFall8
import Derived.Test.YtcmlgmiomcegeaaGreatTopFall9
import Derived.Test.YtcmlgmiomcegeaaGreatTopFall10
import Derived.Test.YtcmlgmiomcegeaaGreatTopFall11
import Derived.Test.YtcmlgmiomcegeaaGreatTopFall12
import Derived.Test.YtcmlgmiomcegeaaGreatTopFall13
import Derived.Test.YtcmlgmiomcegeaaGreatTopFall14
import Derived.Test.YtcmlgmiomcegeaaGreatTopFall15
namespace Go.Proofs.YtcmlgmiomcegeaaGreat.Ev
open Go Go.RowKit Go.Maps
set_option linter.unusedVariables false
set_option linter.unusedSimpArgs false
set_option linter.unusedSectionVars false
theorem topFall_any (a0 : Int) (a1 : Int) (a2 : Int) (a3 : Bool) (w : World) : Calls Tryz.prog 3 #[.int .i64 a0, .int .i64 a1, .int .i64 a2, .bool a3] w fun e w' => e = .returned (.bool true) ∧ Tch No w w' := by
  have h0 : smv a0 3 = 0 ∨ smv a0 3 = 1 ∨ smv a0 3 = 2 := by
    have := smv_lt a0 (k := 3) (by decide)
    omega
  rcases h0 with h0 | h0 | h0
  ·
    have h1 : smv a1 12 = 0 ∨ smv a1 12 = 1 ∨ smv a1 12 = 2 ∨ smv a1 12 = 3 ∨ smv a1 12 = 4 ∨ smv a1 12 = 5 ∨ smv a1 12 = 6 ∨ smv a1 12 = 7 ∨ smv a1 12 = 8 ∨ smv a1 12 = 9 ∨ smv a1 12 = 10 ∨ smv a1 12 = 11 := by
      have := smv_lt a1 (k := 12) (by decide)
      omega
    rcases h1 with h1 | h1 | h1 | h1 | h1 | h1 | h1 | h1 | h1 | h1 | h1 | h1
    ·
      cases a3 with
      | true =>
        have hs : ∀ e ∈ ([(0, 3, 0), (1, 12, 0)] : List (Nat × Int × Int)), smv ((v3 a0 a1 a2) e.1) e.2.1 = e.2.2 ∧ 0 < e.2.1 ∧ e.2.1 ≤ 1000 := by
          intro e he
          simp only [List.mem_cons, List.not_mem_nil, or_false] at he
          rcases he with rfl | rfl
          · exact ⟨h0, by decide, by decide⟩
          · exact ⟨h1, by decide, by decide⟩
        exact topC (v := (v3 a0 a1 a2)) (vals := [.int .i64 a0, .int .i64 a1, .int .i64 a2, .bool true]) hs (xK_ok 2) (by exact ⟨rfl, rfl, rfl, rfl, trivial⟩) topFall_b0s0at w
      | false =>
        have hs : ∀ e ∈ ([(0, 3, 0), (1, 12, 0)] : List (Nat × Int × Int)), smv ((v3 a0 a1 a2) e.1) e.2.1 = e.2.2 ∧ 0 < e.2.1 ∧ e.2.1 ≤ 1000 := by
          intro e he
          simp only [List.mem_cons, List.not_mem_nil, or_false] at he
          rcases he with rfl | rfl
          · exact ⟨h0, by decide, by decide⟩
          · exact ⟨h1, by decide, by decide⟩
        exact topC (v := (v3 a0 a1 a2)) (vals := [.int .i64 a0, .int .i64 a1, .int .i64 a2, .bool false]) hs (xK_ok 2) (by exact ⟨rfl, rfl, rfl, rfl, trivial⟩) topFall_b0s0af w
    ·
      cases a3 with
      | true =>
        have hs : ∀ e ∈ ([(0, 3, 0), (1, 12, 1)] : List (Nat × Int × Int)), smv ((v3 a0 a1 a2) e.1) e.2.1 = e.2.2 ∧ 0 < e.2.1 ∧ e.2.1 ≤ 1000 := by
          intro e he
          simp only [List.mem_cons, List.not_mem_nil, or_false] at he
          rcases he with rfl | rfl
          · exact ⟨h0, by decide, by decide⟩
          · exact ⟨h1, by decide, by decide⟩
        exact topC (v := (v3 a0 a1 a2)) (vals := [.int .i64 a0, .int .i64 a1, .int .i64 a2, .bool true]) hs (xK_ok 2) (by exact ⟨rfl, rfl, rfl, rfl, trivial⟩) topFall_b0s1at w
      | false =>
        have hs : ∀ e ∈ ([(0, 3, 0), (1, 12, 1)] : List (Nat × Int × Int)), smv ((v3 a0 a1 a2) e.1) e.2.1 = e.2.2 ∧ 0 < e.2.1 ∧ e.2.1 ≤ 1000 := by
          intro e he
          simp only [List.mem_cons, List.not_mem_nil, or_false] at he
          rcases he with rfl | rfl
          · exact ⟨h0, by decide, by decide⟩
          · exact ⟨h1, by decide, by decide⟩
        exact topC (v := (v3 a0 a1 a2)) (vals := [.int .i64 a0, .int .i64 a1, .int .i64 a2, .bool false]) hs (xK_ok 2) (by exact ⟨rfl, rfl, rfl, rfl, trivial⟩) topFall_b0s1af w
    ·
      cases a3 with
      | true =>
        have hs : ∀ e ∈ ([(0, 3, 0), (1, 12, 2)] : List (Nat × Int × Int)), smv ((v3 a0 a1 a2) e.1) e.2.1 = e.2.2 ∧ 0 < e.2.1 ∧ e.2.1 ≤ 1000 := by
          intro e he
          simp only [List.mem_cons, List.not_mem_nil, or_false] at he
          rcases he with rfl | rfl
          · exact ⟨h0, by decide, by decide⟩
          · exact ⟨h1, by decide, by decide⟩
        exact topC (v := (v3 a0 a1 a2)) (vals := [.int .i64 a0, .int .i64 a1, .int .i64 a2, .bool true]) hs (xK_ok 2) (by exact ⟨rfl, rfl, rfl, rfl, trivial⟩) topFall_b0s2at w
      | false =>
        have hs : ∀ e ∈ ([(0, 3, 0), (1, 12, 2)] : List (Nat × Int × Int)), smv ((v3 a0 a1 a2) e.1) e.2.1 = e.2.2 ∧ 0 < e.2.1 ∧ e.2.1 ≤ 1000 := by
          intro e he
          simp only [List.mem_cons, List.not_mem_nil, or_false] at he
          rcases he with rfl | rfl
          · exact ⟨h0, by decide, by decide⟩
          · exact ⟨h1, by decide, by decide⟩
        exact topC (v := (v3 a0 a1 a2)) (vals := [.int .i64 a0, .int .i64 a1, .int .i64 a2, .bool false]) hs (xK_ok 2) (by exact ⟨rfl, rfl, rfl, rfl, trivial⟩) topFall_b0s2af w
    ·
      cases a3 with
      | true =>
        have hs : ∀ e ∈ ([(0, 3, 0), (1, 12, 3)] : List (Nat × Int × Int)), smv ((v3 a0 a1 a2) e.1) e.2.1 = e.2.2 ∧ 0 < e.2.1 ∧ e.2.1 ≤ 1000 := by
          intro e he
          simp only [List.mem_cons, List.not_mem_nil, or_false] at he
          rcases he with rfl | rfl
          · exact ⟨h0, by decide, by decide⟩
          · exact ⟨h1, by decide, by decide⟩
        exact topC (v := (v3 a0 a1 a2)) (vals := [.int .i64 a0, .int .i64 a1, .int .i64 a2, .bool true]) hs (xK_ok 2) (by exact ⟨rfl, rfl, rfl, rfl, trivial⟩) topFall_b0s3at w
      | false =>
        have hs : ∀ e ∈ ([(0, 3, 0), (1, 12, 3)] : List (Nat × Int × Int)), smv ((v3 a0 a1 a2) e.1) e.2.1 = e.2.2 ∧ 0 < e.2.1 ∧ e.2.1 ≤ 1000 := by
          intro e he
          simp only [List.mem_cons, List.not_mem_nil, or_false] at he
          rcases he with rfl | rfl
          · exact ⟨h0, by decide, by decide⟩
          · exact ⟨h1, by decide, by decide⟩
        exact topC (v := (v3 a0 a1 a2)) (vals := [.int .i64 a0, .int .i64 a1, .int .i64 a2, .bool false]) hs (xK_ok 2) (by exact ⟨rfl, rfl, rfl, rfl, trivial⟩) topFall_b0s3af w
    ·
      cases a3 with
      | true =>
        have hs : ∀ e ∈ ([(0, 3, 0), (1, 12, 4)] : List (Nat × Int × Int)), smv ((v3 a0 a1 a2) e.1) e.2.1 = e.2.2 ∧ 0 < e.2.1 ∧ e.2.1 ≤ 1000 := by
          intro e he
          simp only [List.mem_cons, List.not_mem_nil, or_false] at he
          rcases he with rfl | rfl
          · exact ⟨h0, by decide, by decide⟩
          · exact ⟨h1, by decide, by decide⟩
        exact topC (v := (v3 a0 a1 a2)) (vals := [.int .i64 a0, .int .i64 a1, .int .i64 a2, .bool true]) hs (xK_ok 2) (by exact ⟨rfl, rfl, rfl, rfl, trivial⟩) topFall_b0s4at w
      | false =>
        have hs : ∀ e ∈ ([(0, 3, 0), (1, 12, 4)] : List (Nat × Int × Int)), smv ((v3 a0 a1 a2) e.1) e.2.1 = e.2.2 ∧ 0 < e.2.1 ∧ e.2.1 ≤ 1000 := by
          intro e he
          simp only [List.mem_cons, List.not_mem_nil, or_false] at he
          rcases he with rfl | rfl
          · exact ⟨h0, by decide, by decide⟩
          · exact ⟨h1, by decide, by decide⟩
        exact topC (v := (v3 a0 a1 a2)) (vals := [.int .i64 a0, .int .i64 a1, .int .i64 a2, .bool false]) hs (xK_ok 2) (by exact ⟨rfl, rfl, rfl, rfl, trivial⟩) topFall_b0s4af w
    ·
      cases a3 with
      | true =>
        have hs : ∀ e ∈ ([(0, 3, 0), (1, 12, 5)] : List (Nat × Int × Int)), smv ((v3 a0 a1 a2) e.1) e.2.1 = e.2.2 ∧ 0 < e.2.1 ∧ e.2.1 ≤ 1000 := by
          intro e he
          simp only [List.mem_cons, List.not_mem_nil, or_false] at he
          rcases he with rfl | rfl
          · exact ⟨h0, by decide, by decide⟩
          · exact ⟨h1, by decide, by decide⟩
        exact topC (v := (v3 a0 a1 a2)) (vals := [.int .i64 a0, .int .i64 a1, .int .i64 a2, .bool true]) hs (xK_ok 2) (by exact ⟨rfl, rfl, rfl, rfl, trivial⟩) topFall_b0s5at w
      | false =>
        have hs : ∀ e ∈ ([(0, 3, 0), (1, 12, 5)] : List (Nat × Int × Int)), smv ((v3 a0 a1 a2) e.1) e.2.1 = e.2.2 ∧ 0 < e.2.1 ∧ e.2.1 ≤ 1000 := by
          intro e he
          simp only [List.mem_cons, List.not_mem_nil, or_false] at he
          rcases he with rfl | rfl
          · exact ⟨h0, by decide, by decide⟩
          · exact ⟨h1, by decide, by decide⟩
        exact topC (v := (v3 a0 a1 a2)) (vals := [.int .i64 a0, .int .i64 a1, .int .i64 a2, .bool false]) hs (xK_ok 2) (by exact ⟨rfl, rfl, rfl, rfl, trivial⟩) topFall_b0s5af w
    ·
      cases a3 with
      | true =>
        have hs : ∀ e ∈ ([(0, 3, 0), (1, 12, 6)] : List (Nat × Int × Int)), smv ((v3 a0 a1 a2) e.1) e.2.1 = e.2.2 ∧ 0 < e.2.1 ∧ e.2.1 ≤ 1000 := by
          intro e he
          simp only [List.mem_cons, List.not_mem_nil, or_false] at he
          rcases he with rfl | rfl
          · exact ⟨h0, by decide, by decide⟩
          · exact ⟨h1, by decide, by decide⟩
        exact topC (v := (v3 a0 a1 a2)) (vals := [.int .i64 a0, .int .i64 a1, .int .i64 a2, .bool true]) hs (xK_ok 2) (by exact ⟨rfl, rfl, rfl, rfl, trivial⟩) topFall_b0s6at w
      | false =>
        have hs : ∀ e ∈ ([(0, 3, 0), (1, 12, 6)] : List (Nat × Int × Int)), smv ((v3 a0 a1 a2) e.1) e.2.1 = e.2.2 ∧ 0 < e.2.1 ∧ e.2.1 ≤ 1000 := by
          intro e he
          simp only [List.mem_cons, List.not_mem_nil, or_false] at he
          rcases he with rfl | rfl
          · exact ⟨h0, by decide, by decide⟩
          · exact ⟨h1, by decide, by decide⟩
        exact topC (v := (v3 a0 a1 a2)) (vals := [.int .i64 a0, .int .i64 a1, .int .i64 a2, .bool false]) hs (xK_ok 2) (by exact ⟨rfl, rfl, rfl, rfl, trivial⟩) topFall_b0s6af w
    ·
      cases a3 with
      | true =>
        have hs : ∀ e ∈ ([(0, 3, 0), (1, 12, 7)] : List (Nat × Int × Int)), smv ((v3 a0 a1 a2) e.1) e.2.1 = e.2.2 ∧ 0 < e.2.1 ∧ e.2.1 ≤ 1000 := by
          intro e he
          simp only [List.mem_cons, List.not_mem_nil, or_false] at he
          rcases he with rfl | rfl
          · exact ⟨h0, by decide, by decide⟩
          · exact ⟨h1, by decide, by decide⟩
        exact topC (v := (v3 a0 a1 a2)) (vals := [.int .i64 a0, .int .i64 a1, .int .i64 a2, .bool true]) hs (xK_ok 2) (by exact ⟨rfl, rfl, rfl, rfl, trivial⟩) topFall_b0s7at w
      | false =>
        have hs : ∀ e ∈ ([(0, 3, 0), (1, 12, 7)] : List (Nat × Int × Int)), smv ((v3 a0 a1 a2) e.1) e.2.1 = e.2.2 ∧ 0 < e.2.1 ∧ e.2.1 ≤ 1000 := by
          intro e he
          simp only [List.mem_cons, List.not_mem_nil, or_false] at he
          rcases he with rfl | rfl
          · exact ⟨h0, by decide, by decide⟩
          · exact ⟨h1, by decide, by decide⟩
        exact topC (v := (v3 a0 a1 a2)) (vals := [.int .i64 a0, .int .i64 a1, .int .i64 a2, .bool false]) hs (xK_ok 2) (by exact ⟨rfl, rfl, rfl, rfl, trivial⟩) topFall_b0s7af w
    ·
      cases a3 with
      | true =>
        have hs : ∀ e ∈ ([(0, 3, 0), (1, 12, 8)] : List (Nat × Int × Int)), smv ((v3 a0 a1 a2) e.1) e.2.1 = e.2.2 ∧ 0 < e.2.1 ∧ e.2.1 ≤ 1000 := by
          intro e he
          simp only [List.mem_cons, List.not_mem_nil, or_false] at he
          rcases he with rfl | rfl
          · exact ⟨h0, by decide, by decide⟩
          · exact ⟨h1, by decide, by decide⟩
        exact topC (v := (v3 a0 a1 a2)) (vals := [.int .i64 a0, .int .i64 a1, .int .i64 a2, .bool true]) hs (xK_ok 2) (by exact ⟨rfl, rfl, rfl, rfl, trivial⟩) topFall_b0s8at w
      | false =>
        have hs : ∀ e ∈ ([(0, 3, 0), (1, 12, 8)] : List (Nat × Int × Int)), smv ((v3 a0 a1 a2) e.1) e.2.1 = e.2.2 ∧ 0 < e.2.1 ∧ e.2.1 ≤ 1000 := by
          intro e he
          simp only [List.mem_cons, List.not_mem_nil, or_false] at he
          rcases he with rfl | rfl
          · exact ⟨h0, by decide, by decide⟩
          · exact ⟨h1, by decide, by decide⟩
        exact topC (v := (v3 a0 a1 a2)) (vals := [.int .i64 a0, .int .i64 a1, .int .i64 a2, .bool false]) hs (xK_ok 2) (by exact ⟨rfl, rfl, rfl, rfl, trivial⟩) topFall_b0s8af w
    ·
      cases a3 with
      | true =>
        have hs : ∀ e ∈ ([(0, 3, 0), (1, 12, 9)] : List (Nat × Int × Int)), smv ((v3 a0 a1 a2) e.1) e.2.1 = e.2.2 ∧ 0 < e.2.1 ∧ e.2.1 ≤ 1000 := by
          intro e he
          simp only [List.mem_cons, List.not_mem_nil, or_false] at he
          rcases he with rfl | rfl
          · exact ⟨h0, by decide, by decide⟩
          · exact ⟨h1, by decide, by decide⟩
        exact topC (v := (v3 a0 a1 a2)) (vals := [.int .i64 a0, .int .i64 a1, .int .i64 a2, .bool true]) hs (xK_ok 2) (by exact ⟨rfl, rfl, rfl, rfl, trivial⟩) topFall_b0s9at w
      | false =>
        have hs : ∀ e ∈ ([(0, 3, 0), (1, 12, 9)] : List (Nat × Int × Int)), smv ((v3 a0 a1 a2) e.1) e.2.1 = e.2.2 ∧ 0 < e.2.1 ∧ e.2.1 ≤ 1000 := by
          intro e he
          simp only [List.mem_cons, List.not_mem_nil, or_false] at he
          rcases he with rfl | rfl
          · exact ⟨h0, by decide, by decide⟩
          · exact ⟨h1, by decide, by decide⟩
        exact topC (v := (v3 a0 a1 a2)) (vals := [.int .i64 a0, .int .i64 a1, .int .i64 a2, .bool false]) hs (xK_ok 2) (by exact ⟨rfl, rfl, rfl, rfl, trivial⟩) topFall_b0s9af w
    ·
      cases a3 with
      | true =>
        have hs : ∀ e ∈ ([(0, 3, 0), (1, 12, 10)] : List (Nat × Int × Int)), smv ((v3 a0 a1 a2) e.1) e.2.1 = e.2.2 ∧ 0 < e.2.1 ∧ e.2.1 ≤ 1000 := by
          intro e he
          simp only [List.mem_cons, List.not_mem_nil, or_false] at he
          rcases he with rfl | rfl
          · exact ⟨h0, by decide, by decide⟩
          · exact ⟨h1, by decide, by decide⟩
        exact topC (v := (v3 a0 a1 a2)) (vals := [.int .i64 a0, .int .i64 a1, .int .i64 a2, .bool true]) hs (xK_ok 2) (by exact ⟨rfl, rfl, rfl, rfl, trivial⟩) topFall_b0s10at w
      | false =>
        have hs : ∀ e ∈ ([(0, 3, 0), (1, 12, 10)] : List (Nat × Int × Int)), smv ((v3 a0 a1 a2) e.1) e.2.1 = e.2.2 ∧ 0 < e.2.1 ∧ e.2.1 ≤ 1000 := by
          intro e he
          simp only [List.mem_cons, List.not_mem_nil, or_false] at he
          rcases he with rfl | rfl
          · exact ⟨h0, by decide, by decide⟩
          · exact ⟨h1, by decide, by decide⟩
        exact topC (v := (v3 a0 a1 a2)) (vals := [.int .i64 a0, .int .i64 a1, .int .i64 a2, .bool false]) hs (xK_ok 2) (by exact ⟨rfl, rfl, rfl, rfl, trivial⟩) topFall_b0s10af w
    ·
      cases a3 with
      | true =>
        have hs : ∀ e ∈ ([(0, 3, 0), (1, 12, 11)] : List (Nat × Int × Int)), smv ((v3 a0 a1 a2) e.1) e.2.1 = e.2.2 ∧ 0 < e.2.1 ∧ e.2.1 ≤ 1000 := by
          intro e he
          simp only [List.mem_cons, List.not_mem_nil, or_false] at he
          rcases he with rfl | rfl
          · exact ⟨h0, by decide, by decide⟩
          · exact ⟨h1, by decide, by decide⟩
        exact topC (v := (v3 a0 a1 a2)) (vals := [.int .i64 a0, .int .i64 a1, .int .i64 a2, .bool true]) hs (xK_ok 2) (by exact ⟨rfl, rfl, rfl, rfl, trivial⟩) topFall_b0s11at w
      | false =>
        have hs : ∀ e ∈ ([(0, 3, 0), (1, 12, 11)] : List (Nat × Int × Int)), smv ((v3 a0 a1 a2) e.1) e.2.1 = e.2.2 ∧ 0 < e.2.1 ∧ e.2.1 ≤ 1000 := by
          intro e he
          simp only [List.mem_cons, List.not_mem_nil, or_false] at he
          rcases he with rfl | rfl
          · exact ⟨h0, by decide, by decide⟩
          · exact ⟨h1, by decide, by decide⟩
        exact topC (v := (v3 a0 a1 a2)) (vals := [.int .i64 a0, .int .i64 a1, .int .i64 a2, .bool false]) hs (xK_ok 2) (by exact ⟨rfl, rfl, rfl, rfl, trivial⟩) topFall_b0s11af w
  ·
    have h1 : smv a1 12 = 0 ∨ smv a1 12 = 1 ∨ smv a1 12 = 2 ∨ smv a1 12 = 3 ∨ smv a1 12 = 4 ∨ smv a1 12 = 5 ∨ smv a1 12 = 6 ∨ smv a1 12 = 7 ∨ smv a1 12 = 8 ∨ smv a1 12 = 9 ∨ smv a1 12 = 10 ∨ smv a1 12 = 11 := by
      have := smv_lt a1 (k := 12) (by decide)
      omega
    rcases h1 with h1 | h1 | h1 | h1 | h1 | h1 | h1 | h1 | h1 | h1 | h1 | h1
    ·
      cases a3 with
      | true =>
        have hs : ∀ e ∈ ([(0, 3, 1), (1, 12, 0)] : List (Nat × Int × Int)), smv ((v3 a0 a1 a2) e.1) e.2.1 = e.2.2 ∧ 0 < e.2.1 ∧ e.2.1 ≤ 1000 := by
          intro e he
          simp only [List.mem_cons, List.not_mem_nil, or_false] at he
          rcases he with rfl | rfl
          · exact ⟨h0, by decide, by decide⟩
          · exact ⟨h1, by decide, by decide⟩
        exact topC (v := (v3 a0 a1 a2)) (vals := [.int .i64 a0, .int .i64 a1, .int .i64 a2, .bool true]) hs (xK_ok 2) (by exact ⟨rfl, rfl, rfl, rfl, trivial⟩) topFall_b1s0at w
      | false =>
        have hs : ∀ e ∈ ([(0, 3, 1), (1, 12, 0)] : List (Nat × Int × Int)), smv ((v3 a0 a1 a2) e.1) e.2.1 = e.2.2 ∧ 0 < e.2.1 ∧ e.2.1 ≤ 1000 := by
          intro e he
          simp only [List.mem_cons, List.not_mem_nil, or_false] at he
          rcases he with rfl | rfl
          · exact ⟨h0, by decide, by decide⟩
          · exact ⟨h1, by decide, by decide⟩
        exact topC (v := (v3 a0 a1 a2)) (vals := [.int .i64 a0, .int .i64 a1, .int .i64 a2, .bool false]) hs (xK_ok 2) (by exact ⟨rfl, rfl, rfl, rfl, trivial⟩) topFall_b1s0af w
    ·
      cases a3 with
      | true =>
        have hs : ∀ e ∈ ([(0, 3, 1), (1, 12, 1)] : List (Nat × Int × Int)), smv ((v3 a0 a1 a2) e.1) e.2.1 = e.2.2 ∧ 0 < e.2.1 ∧ e.2.1 ≤ 1000 := by
          intro e he
          simp only [List.mem_cons, List.not_mem_nil, or_false] at he
          rcases he with rfl | rfl
          · exact ⟨h0, by decide, by decide⟩
          · exact ⟨h1, by decide, by decide⟩
        exact topC (v := (v3 a0 a1 a2)) (vals := [.int .i64 a0, .int .i64 a1, .int .i64 a2, .bool true]) hs (xK_ok 2) (by exact ⟨rfl, rfl, rfl, rfl, trivial⟩) topFall_b1s1at w
      | false =>
        have hs : ∀ e ∈ ([(0, 3, 1), (1, 12, 1)] : List (Nat × Int × Int)), smv ((v3 a0 a1 a2) e.1) e.2.1 = e.2.2 ∧ 0 < e.2.1 ∧ e.2.1 ≤ 1000 := by
          intro e he
          simp only [List.mem_cons, List.not_mem_nil, or_false] at he
          rcases he with rfl | rfl
          · exact ⟨h0, by decide, by decide⟩
          · exact ⟨h1, by decide, by decide⟩
        exact topC (v := (v3 a0 a1 a2)) (vals := [.int .i64 a0, .int .i64 a1, .int .i64 a2, .bool false]) hs (xK_ok 2) (by exact ⟨rfl, rfl, rfl, rfl, trivial⟩) topFall_b1s1af w
    ·
      cases a3 with
      | true =>
        have hs : ∀ e ∈ ([(0, 3, 1), (1, 12, 2)] : List (Nat × Int × Int)), smv ((v3 a0 a1 a2) e.1) e.2.1 = e.2.2 ∧ 0 < e.2.1 ∧ e.2.1 ≤ 1000 := by
          intro e he
          simp only [List.mem_cons, List.not_mem_nil, or_false] at he
          rcases he with rfl | rfl
          · exact ⟨h0, by decide, by decide⟩
          · exact ⟨h1, by decide, by decide⟩
        exact topC (v := (v3 a0 a1 a2)) (vals := [.int .i64 a0, .int .i64 a1, .int .i64 a2, .bool true]) hs (xK_ok 2) (by exact ⟨rfl, rfl, rfl, rfl, trivial⟩) topFall_b1s2at w
      | false =>
        have hs : ∀ e ∈ ([(0, 3, 1), (1, 12, 2)] : List (Nat × Int × Int)), smv ((v3 a0 a1 a2) e.1) e.2.1 = e.2.2 ∧ 0 < e.2.1 ∧ e.2.1 ≤ 1000 := by
          intro e he
          simp only [List.mem_cons, List.not_mem_nil, or_false] at he
          rcases he with rfl | rfl
          · exact ⟨h0, by decide, by decide⟩
          · exact ⟨h1, by decide, by decide⟩
        exact topC (v := (v3 a0 a1 a2)) (vals := [.int .i64 a0, .int .i64 a1, .int .i64 a2, .bool false]) hs (xK_ok 2) (by exact ⟨rfl, rfl, rfl, rfl, trivial⟩) topFall_b1s2af w
    ·
      cases a3 with
      | true =>
        have hs : ∀ e ∈ ([(0, 3, 1), (1, 12, 3)] : List (Nat × Int × Int)), smv ((v3 a0 a1 a2) e.1) e.2.1 = e.2.2 ∧ 0 < e.2.1 ∧ e.2.1 ≤ 1000 := by
          intro e he
          simp only [List.mem_cons, List.not_mem_nil, or_false] at he
          rcases he with rfl | rfl
          · exact ⟨h0, by decide, by decide⟩
          · exact ⟨h1, by decide, by decide⟩
        exact topC (v := (v3 a0 a1 a2)) (vals := [.int .i64 a0, .int .i64 a1, .int .i64 a2, .bool true]) hs (xK_ok 2) (by exact ⟨rfl, rfl, rfl, rfl, trivial⟩) topFall_b1s3at w
      | false =>
        have hs : ∀ e ∈ ([(0, 3, 1), (1, 12, 3)] : List (Nat × Int × Int)), smv ((v3 a0 a1 a2) e.1) e.2.1 = e.2.2 ∧ 0 < e.2.1 ∧ e.2.1 ≤ 1000 := by
          intro e he
          simp only [List.mem_cons, List.not_mem_nil, or_false] at he
          rcases he with rfl | rfl
          · exact ⟨h0, by decide, by decide⟩
          · exact ⟨h1, by decide, by decide⟩
        exact topC (v := (v3 a0 a1 a2)) (vals := [.int .i64 a0, .int .i64 a1, .int .i64 a2, .bool false]) hs (xK_ok 2) (by exact ⟨rfl, rfl, rfl, rfl, trivial⟩) topFall_b1s3af w
    ·
      cases a3 with
      | true =>
        have hs : ∀ e ∈ ([(0, 3, 1), (1, 12, 4)] : List (Nat × Int × Int)), smv ((v3 a0 a1 a2) e.1) e.2.1 = e.2.2 ∧ 0 < e.2.1 ∧ e.2.1 ≤ 1000 := by
          intro e he
          simp only [List.mem_cons, List.not_mem_nil, or_false] at he
          rcases he with rfl | rfl
          · exact ⟨h0, by decide, by decide⟩
          · exact ⟨h1, by decide, by decide⟩
        exact topC (v := (v3 a0 a1 a2)) (vals := [.int .i64 a0, .int .i64 a1, .int .i64 a2, .bool true]) hs (xK_ok 2) (by exact ⟨rfl, rfl, rfl, rfl, trivial⟩) topFall_b1s4at w
      | false =>
        have hs : ∀ e ∈ ([(0, 3, 1), (1, 12, 4)] : List (Nat × Int × Int)), smv ((v3 a0 a1 a2) e.1) e.2.1 = e.2.2 ∧ 0 < e.2.1 ∧ e.2.1 ≤ 1000 := by
          intro e he
          simp only [List.mem_cons, List.not_mem_nil, or_false] at he
          rcases he with rfl | rfl
          · exact ⟨h0, by decide, by decide⟩
          · exact ⟨h1, by decide, by decide⟩
        exact topC (v := (v3 a0 a1 a2)) (vals := [.int .i64 a0, .int .i64 a1, .int .i64 a2, .bool false]) hs (xK_ok 2) (by exact ⟨rfl, rfl, rfl, rfl, trivial⟩) topFall_b1s4af w
    ·
      cases a3 with
      | true =>
        have hs : ∀ e ∈ ([(0, 3, 1), (1, 12, 5)] : List (Nat × Int × Int)), smv ((v3 a0 a1 a2) e.1) e.2.1 = e.2.2 ∧ 0 < e.2.1 ∧ e.2.1 ≤ 1000 := by
          intro e he
          simp only [List.mem_cons, List.not_mem_nil, or_false] at he
          rcases he with rfl | rfl
          · exact ⟨h0, by decide, by decide⟩
          · exact ⟨h1, by decide, by decide⟩
        exact topC (v := (v3 a0 a1 a2)) (vals := [.int .i64 a0, .int .i64 a1, .int .i64 a2, .bool true]) hs (xK_ok 2) (by exact ⟨rfl, rfl, rfl, rfl, trivial⟩) topFall_b1s5at w
      | false =>
        have hs : ∀ e ∈ ([(0, 3, 1), (1, 12, 5)] : List (Nat × Int × Int)), smv ((v3 a0 a1 a2) e.1) e.2.1 = e.2.2 ∧ 0 < e.2.1 ∧ e.2.1 ≤ 1000 := by
          intro e he
          simp only [List.mem_cons, List.not_mem_nil, or_false] at he
          rcases he with rfl | rfl
          · exact ⟨h0, by decide, by decide⟩
          · exact ⟨h1, by decide, by decide⟩
        exact topC (v := (v3 a0 a1 a2)) (vals := [.int .i64 a0, .int .i64 a1, .int .i64 a2, .bool false]) hs (xK_ok 2) (by exact ⟨rfl, rfl, rfl, rfl, trivial⟩) topFall_b1s5af w
    ·
      cases a3 with
      | true =>
        have hs : ∀ e ∈ ([(0, 3, 1), (1, 12, 6)] : List (Nat × Int × Int)), smv ((v3 a0 a1 a2) e.1) e.2.1 = e.2.2 ∧ 0 < e.2.1 ∧ e.2.1 ≤ 1000 := by
          intro e he
          simp only [List.mem_cons, List.not_mem_nil, or_false] at he
          rcases he with rfl | rfl
          · exact ⟨h0, by decide, by decide⟩
          · exact ⟨h1, by decide, by decide⟩
        exact topC (v := (v3 a0 a1 a2)) (vals := [.int .i64 a0, .int .i64 a1, .int .i64 a2, .bool true]) hs (xK_ok 2) (by exact ⟨rfl, rfl, rfl, rfl, trivial⟩) topFall_b1s6at w
      | false =>
        have hs : ∀ e ∈ ([(0, 3, 1), (1, 12, 6)] : List (Nat × Int × Int)), smv ((v3 a0 a1 a2) e.1) e.2.1 = e.2.2 ∧ 0 < e.2.1 ∧ e.2.1 ≤ 1000 := by
          intro e he
          simp only [List.mem_cons, List.not_mem_nil, or_false] at he
          rcases he with rfl | rfl
          · exact ⟨h0, by decide, by decide⟩
          · exact ⟨h1, by decide, by decide⟩
        exact topC (v := (v3 a0 a1 a2)) (vals := [.int .i64 a0, .int .i64 a1, .int .i64 a2, .bool false]) hs (xK_ok 2) (by exact ⟨rfl, rfl, rfl, rfl, trivial⟩) topFall_b1s6af w
    ·
      cases a3 with
      | true =>
        have hs : ∀ e ∈ ([(0, 3, 1), (1, 12, 7)] : List (Nat × Int × Int)), smv ((v3 a0 a1 a2) e.1) e.2.1 = e.2.2 ∧ 0 < e.2.1 ∧ e.2.1 ≤ 1000 := by
          intro e he
          simp only [List.mem_cons, List.not_mem_nil, or_false] at he
          rcases he with rfl | rfl
          · exact ⟨h0, by decide, by decide⟩
          · exact ⟨h1, by decide, by decide⟩
        exact topC (v := (v3 a0 a1 a2)) (vals := [.int .i64 a0, .int .i64 a1, .int .i64 a2, .bool true]) hs (xK_ok 2) (by exact ⟨rfl, rfl, rfl, rfl, trivial⟩) topFall_b1s7at w
      | false =>
        have hs : ∀ e ∈ ([(0, 3, 1), (1, 12, 7)] : List (Nat × Int × Int)), smv ((v3 a0 a1 a2) e.1) e.2.1 = e.2.2 ∧ 0 < e.2.1 ∧ e.2.1 ≤ 1000 := by
          intro e he
          simp only [List.mem_cons, List.not_mem_nil, or_false] at he
          rcases he with rfl | rfl
          · exact ⟨h0, by decide, by decide⟩
          · exact ⟨h1, by decide, by decide⟩
        exact topC (v := (v3 a0 a1 a2)) (vals := [.int .i64 a0, .int .i64 a1, .int .i64 a2, .bool false]) hs (xK_ok 2) (by exact ⟨rfl, rfl, rfl, rfl, trivial⟩) topFall_b1s7af w
    ·
      cases a3 with
      | true =>
        have hs : ∀ e ∈ ([(0, 3, 1), (1, 12, 8)] : List (Nat × Int × Int)), smv ((v3 a0 a1 a2) e.1) e.2.1 = e.2.2 ∧ 0 < e.2.1 ∧ e.2.1 ≤ 1000 := by
          intro e he
          simp only [List.mem_cons, List.not_mem_nil, or_false] at he
          rcases he with rfl | rfl
          · exact ⟨h0, by decide, by decide⟩
          · exact ⟨h1, by decide, by decide⟩
        exact topC (v := (v3 a0 a1 a2)) (vals := [.int .i64 a0, .int .i64 a1, .int .i64 a2, .bool true]) hs (xK_ok 2) (by exact ⟨rfl, rfl, rfl, rfl, trivial⟩) topFall_b1s8at w
      | false =>
        have hs : ∀ e ∈ ([(0, 3, 1), (1, 12, 8)] : List (Nat × Int × Int)), smv ((v3 a0 a1 a2) e.1) e.2.1 = e.2.2 ∧ 0 < e.2.1 ∧ e.2.1 ≤ 1000 := by
          intro e he
          simp only [List.mem_cons, List.not_mem_nil, or_false] at he
          rcases he with rfl | rfl
          · exact ⟨h0, by decide, by decide⟩
          · exact ⟨h1, by decide, by decide⟩
        exact topC (v := (v3 a0 a1 a2)) (vals := [.int .i64 a0, .int .i64 a1, .int .i64 a2, .bool false]) hs (xK_ok 2) (by exact ⟨rfl, rfl, rfl, rfl, trivial⟩) topFall_b1s8af w
    ·
      cases a3 with
      | true =>
        have hs : ∀ e ∈ ([(0, 3, 1), (1, 12, 9)] : List (Nat × Int × Int)), smv ((v3 a0 a1 a2) e.1) e.2.1 = e.2.2 ∧ 0 < e.2.1 ∧ e.2.1 ≤ 1000 := by
          intro e he
          simp only [List.mem_cons, List.not_mem_nil, or_false] at he
          rcases he with rfl | rfl
          · exact ⟨h0, by decide, by decide⟩
          · exact ⟨h1, by decide, by decide⟩
        exact topC (v := (v3 a0 a1 a2)) (vals := [.int .i64 a0, .int .i64 a1, .int .i64 a2, .bool true]) hs (xK_ok 2) (by exact ⟨rfl, rfl, rfl, rfl, trivial⟩) topFall_b1s9at w
      | false =>
        have hs : ∀ e ∈ ([(0, 3, 1), (1, 12, 9)] : List (Nat × Int × Int)), smv ((v3 a0 a1 a2) e.1) e.2.1 = e.2.2 ∧ 0 < e.2.1 ∧ e.2.1 ≤ 1000 := by
          intro e he
          simp only [List.mem_cons, List.not_mem_nil, or_false] at he
          rcases he with rfl | rfl
          · exact ⟨h0, by decide, by decide⟩
          · exact ⟨h1, by decide, by decide⟩
        exact topC (v := (v3 a0 a1 a2)) (vals := [.int .i64 a0, .int .i64 a1, .int .i64 a2, .bool false]) hs (xK_ok 2) (by exact ⟨rfl, rfl, rfl, rfl, trivial⟩) topFall_b1s9af w
    ·
      cases a3 with
      | true =>
        have hs : ∀ e ∈ ([(0, 3, 1), (1, 12, 10)] : List (Nat × Int × Int)), smv ((v3 a0 a1 a2) e.1) e.2.1 = e.2.2 ∧ 0 < e.2.1 ∧ e.2.1 ≤ 1000 := by
          intro e he
          simp only [List.mem_cons, List.not_mem_nil, or_false] at he
          rcases he with rfl | rfl
          · exact ⟨h0, by decide, by decide⟩
          · exact ⟨h1, by decide, by decide⟩
        exact topC (v := (v3 a0 a1 a2)) (vals := [.int .i64 a0, .int .i64 a1, .int .i64 a2, .bool true]) hs (xK_ok 2) (by exact ⟨rfl, rfl, rfl, rfl, trivial⟩) topFall_b1s10at w
      | false =>
        have hs : ∀ e ∈ ([(0, 3, 1), (1, 12, 10)] : List (Nat × Int × Int)), smv ((v3 a0 a1 a2) e.1) e.2.1 = e.2.2 ∧ 0 < e.2.1 ∧ e.2.1 ≤ 1000 := by
          intro e he
          simp only [List.mem_cons, List.not_mem_nil, or_false] at he
          rcases he with rfl | rfl
          · exact ⟨h0, by decide, by decide⟩
          · exact ⟨h1, by decide, by decide⟩
        exact topC (v := (v3 a0 a1 a2)) (vals := [.int .i64 a0, .int .i64 a1, .int .i64 a2, .bool false]) hs (xK_ok 2) (by exact ⟨rfl, rfl, rfl, rfl, trivial⟩) topFall_b1s10af w
    ·
      cases a3 with
      | true =>
        have hs : ∀ e ∈ ([(0, 3, 1), (1, 12, 11)] : List (Nat × Int × Int)), smv ((v3 a0 a1 a2) e.1) e.2.1 = e.2.2 ∧ 0 < e.2.1 ∧ e.2.1 ≤ 1000 := by
          intro e he
          simp only [List.mem_cons, List.not_mem_nil, or_false] at he
          rcases he with rfl | rfl
          · exact ⟨h0, by decide, by decide⟩
          · exact ⟨h1, by decide, by decide⟩
        exact topC (v := (v3 a0 a1 a2)) (vals := [.int .i64 a0, .int .i64 a1, .int .i64 a2, .bool true]) hs (xK_ok 2) (by exact ⟨rfl, rfl, rfl, rfl, trivial⟩) topFall_b1s11at w
      | false =>
        have hs : ∀ e ∈ ([(0, 3, 1), (1, 12, 11)] : List (Nat × Int × Int)), smv ((v3 a0 a1 a2) e.1) e.2.1 = e.2.2 ∧ 0 < e.2.1 ∧ e.2.1 ≤ 1000 := by
          intro e he
          simp only [List.mem_cons, List.not_mem_nil, or_false] at he
          rcases he with rfl | rfl
          · exact ⟨h0, by decide, by decide⟩
          · exact ⟨h1, by decide, by decide⟩
        exact topC (v := (v3 a0 a1 a2)) (vals := [.int .i64 a0, .int .i64 a1, .int .i64 a2, .bool false]) hs (xK_ok 2) (by exact ⟨rfl, rfl, rfl, rfl, trivial⟩) topFall_b1s11af w
  ·
    have h1 : smv a1 12 = 0 ∨ smv a1 12 = 1 ∨ smv a1 12 = 2 ∨ smv a1 12 = 3 ∨ smv a1 12 = 4 ∨ smv a1 12 = 5 ∨ smv a1 12 = 6 ∨ smv a1 12 = 7 ∨ smv a1 12 = 8 ∨ smv a1 12 = 9 ∨ smv a1 12 = 10 ∨ smv a1 12 = 11 := by
      have := smv_lt a1 (k := 12) (by decide)
      omega
    rcases h1 with h1 | h1 | h1 | h1 | h1 | h1 | h1 | h1 | h1 | h1 | h1 | h1
    ·
      cases a3 with
      | true =>
        have hs : ∀ e ∈ ([(0, 3, 2), (1, 12, 0)] : List (Nat × Int × Int)), smv ((v3 a0 a1 a2) e.1) e.2.1 = e.2.2 ∧ 0 < e.2.1 ∧ e.2.1 ≤ 1000 := by
          intro e he
          simp only [List.mem_cons, List.not_mem_nil, or_false] at he
          rcases he with rfl | rfl
          · exact ⟨h0, by decide, by decide⟩
          · exact ⟨h1, by decide, by decide⟩
        exact topC (v := (v3 a0 a1 a2)) (vals := [.int .i64 a0, .int .i64 a1, .int .i64 a2, .bool true]) hs (xK_ok 2) (by exact ⟨rfl, rfl, rfl, rfl, trivial⟩) topFall_b2s0at w
      | false =>
        have hs : ∀ e ∈ ([(0, 3, 2), (1, 12, 0)] : List (Nat × Int × Int)), smv ((v3 a0 a1 a2) e.1) e.2.1 = e.2.2 ∧ 0 < e.2.1 ∧ e.2.1 ≤ 1000 := by
          intro e he
          simp only [List.mem_cons, List.not_mem_nil, or_false] at he
          rcases he with rfl | rfl
          · exact ⟨h0, by decide, by decide⟩
          · exact ⟨h1, by decide, by decide⟩
        exact topC (v := (v3 a0 a1 a2)) (vals := [.int .i64 a0, .int .i64 a1, .int .i64 a2, .bool false]) hs (xK_ok 2) (by exact ⟨rfl, rfl, rfl, rfl, trivial⟩) topFall_b2s0af w
    ·
      cases a3 with
      | true =>
        have hs : ∀ e ∈ ([(0, 3, 2), (1, 12, 1)] : List (Nat × Int × Int)), smv ((v3 a0 a1 a2) e.1) e.2.1 = e.2.2 ∧ 0 < e.2.1 ∧ e.2.1 ≤ 1000 := by
          intro e he
          simp only [List.mem_cons, List.not_mem_nil, or_false] at he
          rcases he with rfl | rfl
          · exact ⟨h0, by decide, by decide⟩
          · exact ⟨h1, by decide, by decide⟩
        exact topC (v := (v3 a0 a1 a2)) (vals := [.int .i64 a0, .int .i64 a1, .int .i64 a2, .bool true]) hs (xK_ok 2) (by exact ⟨rfl, rfl, rfl, rfl, trivial⟩) topFall_b2s1at w
      | false =>
        have hs : ∀ e ∈ ([(0, 3, 2), (1, 12, 1)] : List (Nat × Int × Int)), smv ((v3 a0 a1 a2) e.1) e.2.1 = e.2.2 ∧ 0 < e.2.1 ∧ e.2.1 ≤ 1000 := by
          intro e he
          simp only [List.mem_cons, List.not_mem_nil, or_false] at he
          rcases he with rfl | rfl
          · exact ⟨h0, by decide, by decide⟩
          · exact ⟨h1, by decide, by decide⟩
        exact topC (v := (v3 a0 a1 a2)) (vals := [.int .i64 a0, .int .i64 a1, .int .i64 a2, .bool false]) hs (xK_ok 2) (by exact ⟨rfl, rfl, rfl, rfl, trivial⟩) topFall_b2s1af w
    ·
      cases a3 with
      | true =>
        have hs : ∀ e ∈ ([(0, 3, 2), (1, 12, 2)] : List (Nat × Int × Int)), smv ((v3 a0 a1 a2) e.1) e.2.1 = e.2.2 ∧ 0 < e.2.1 ∧ e.2.1 ≤ 1000 := by
          intro e he
          simp only [List.mem_cons, List.not_mem_nil, or_false] at he
          rcases he with rfl | rfl
          · exact ⟨h0, by decide, by decide⟩
          · exact ⟨h1, by decide, by decide⟩
        exact topC (v := (v3 a0 a1 a2)) (vals := [.int .i64 a0, .int .i64 a1, .int .i64 a2, .bool true]) hs (xK_ok 2) (by exact ⟨rfl, rfl, rfl, rfl, trivial⟩) topFall_b2s2at w
      | false =>
        have hs : ∀ e ∈ ([(0, 3, 2), (1, 12, 2)] : List (Nat × Int × Int)), smv ((v3 a0 a1 a2) e.1) e.2.1 = e.2.2 ∧ 0 < e.2.1 ∧ e.2.1 ≤ 1000 := by
          intro e he
          simp only [List.mem_cons, List.not_mem_nil, or_false] at he
          rcases he with rfl | rfl
          · exact ⟨h0, by decide, by decide⟩
          · exact ⟨h1, by decide, by decide⟩
        exact topC (v := (v3 a0 a1 a2)) (vals := [.int .i64 a0, .int .i64 a1, .int .i64 a2, .bool false]) hs (xK_ok 2) (by exact ⟨rfl, rfl, rfl, rfl, trivial⟩) topFall_b2s2af w
    ·
      cases a3 with
      | true =>
        have hs : ∀ e ∈ ([(0, 3, 2), (1, 12, 3)] : List (Nat × Int × Int)), smv ((v3 a0 a1 a2) e.1) e.2.1 = e.2.2 ∧ 0 < e.2.1 ∧ e.2.1 ≤ 1000 := by
          intro e he
          simp only [List.mem_cons, List.not_mem_nil, or_false] at he
          rcases he with rfl | rfl
          · exact ⟨h0, by decide, by decide⟩
          · exact ⟨h1, by decide, by decide⟩
        exact topC (v := (v3 a0 a1 a2)) (vals := [.int .i64 a0, .int .i64 a1, .int .i64 a2, .bool true]) hs (xK_ok 2) (by exact ⟨rfl, rfl, rfl, rfl, trivial⟩) topFall_b2s3at w
      | false =>
        have hs : ∀ e ∈ ([(0, 3, 2), (1, 12, 3)] : List (Nat × Int × Int)), smv ((v3 a0 a1 a2) e.1) e.2.1 = e.2.2 ∧ 0 < e.2.1 ∧ e.2.1 ≤ 1000 := by
          intro e he
          simp only [List.mem_cons, List.not_mem_nil, or_false] at he
          rcases he with rfl | rfl
          · exact ⟨h0, by decide, by decide⟩
          · exact ⟨h1, by decide, by decide⟩
        exact topC (v := (v3 a0 a1 a2)) (vals := [.int .i64 a0, .int .i64 a1, .int .i64 a2, .bool false]) hs (xK_ok 2) (by exact ⟨rfl, rfl, rfl, rfl, trivial⟩) topFall_b2s3af w
    ·
      cases a3 with
      | true =>
        have hs : ∀ e ∈ ([(0, 3, 2), (1, 12, 4)] : List (Nat × Int × Int)), smv ((v3 a0 a1 a2) e.1) e.2.1 = e.2.2 ∧ 0 < e.2.1 ∧ e.2.1 ≤ 1000 := by
          intro e he
          simp only [List.mem_cons, List.not_mem_nil, or_false] at he
          rcases he with rfl | rfl
          · exact ⟨h0, by decide, by decide⟩
          · exact ⟨h1, by decide, by decide⟩
        exact topC (v := (v3 a0 a1 a2)) (vals := [.int .i64 a0, .int .i64 a1, .int .i64 a2, .bool true]) hs (xK_ok 2) (by exact ⟨rfl, rfl, rfl, rfl, trivial⟩) topFall_b2s4at w
      | false =>
        have hs : ∀ e ∈ ([(0, 3, 2), (1, 12, 4)] : List (Nat × Int × Int)), smv ((v3 a0 a1 a2) e.1) e.2.1 = e.2.2 ∧ 0 < e.2.1 ∧ e.2.1 ≤ 1000 := by
          intro e he
          simp only [List.mem_cons, List.not_mem_nil, or_false] at he
          rcases he with rfl | rfl
          · exact ⟨h0, by decide, by decide⟩
          · exact ⟨h1, by decide, by decide⟩
        exact topC (v := (v3 a0 a1 a2)) (vals := [.int .i64 a0, .int .i64 a1, .int .i64 a2, .bool false]) hs (xK_ok 2) (by exact ⟨rfl, rfl, rfl, rfl, trivial⟩) topFall_b2s4af w
    ·
      cases a3 with
      | true =>
        have hs : ∀ e ∈ ([(0, 3, 2), (1, 12, 5)] : List (Nat × Int × Int)), smv ((v3 a0 a1 a2) e.1) e.2.1 = e.2.2 ∧ 0 < e.2.1 ∧ e.2.1 ≤ 1000 := by
          intro e he
          simp only [List.mem_cons, List.not_mem_nil, or_false] at he
          rcases he with rfl | rfl
          · exact ⟨h0, by decide, by decide⟩
          · exact ⟨h1, by decide, by decide⟩
        exact topC (v := (v3 a0 a1 a2)) (vals := [.int .i64 a0, .int .i64 a1, .int .i64 a2, .bool true]) hs (xK_ok 2) (by exact ⟨rfl, rfl, rfl, rfl, trivial⟩) topFall_b2s5at w
      | false =>
        have hs : ∀ e ∈ ([(0, 3, 2), (1, 12, 5)] : List (Nat × Int × Int)), smv ((v3 a0 a1 a2) e.1) e.2.1 = e.2.2 ∧ 0 < e.2.1 ∧ e.2.1 ≤ 1000 := by
          intro e he
          simp only [List.mem_cons, List.not_mem_nil, or_false] at he
          rcases he with rfl | rfl
          · exact ⟨h0, by decide, by decide⟩
          · exact ⟨h1, by decide, by decide⟩
        exact topC (v := (v3 a0 a1 a2)) (vals := [.int .i64 a0, .int .i64 a1, .int .i64 a2, .bool false]) hs (xK_ok 2) (by exact ⟨rfl, rfl, rfl, rfl, trivial⟩) topFall_b2s5af w
    ·
      cases a3 with
      | true =>
        have hs : ∀ e ∈ ([(0, 3, 2), (1, 12, 6)] : List (Nat × Int × Int)), smv ((v3 a0 a1 a2) e.1) e.2.1 = e.2.2 ∧ 0 < e.2.1 ∧ e.2.1 ≤ 1000 := by
          intro e he
          simp only [List.mem_cons, List.not_mem_nil, or_false] at he
          rcases he with rfl | rfl
          · exact ⟨h0, by decide, by decide⟩
          · exact ⟨h1, by decide, by decide⟩
        exact topC (v := (v3 a0 a1 a2)) (vals := [.int .i64 a0, .int .i64 a1, .int .i64 a2, .bool true]) hs (xK_ok 2) (by exact ⟨rfl, rfl, rfl, rfl, trivial⟩) topFall_b2s6at w
      | false =>
        have hs : ∀ e ∈ ([(0, 3, 2), (1, 12, 6)] : List (Nat × Int × Int)), smv ((v3 a0 a1 a2) e.1) e.2.1 = e.2.2 ∧ 0 < e.2.1 ∧ e.2.1 ≤ 1000 := by
          intro e he
          simp only [List.mem_cons, List.not_mem_nil, or_false] at he
          rcases he with rfl | rfl
          · exact ⟨h0, by decide, by decide⟩
          · exact ⟨h1, by decide, by decide⟩
        exact topC (v := (v3 a0 a1 a2)) (vals := [.int .i64 a0, .int .i64 a1, .int .i64 a2, .bool false]) hs (xK_ok 2) (by exact ⟨rfl, rfl, rfl, rfl, trivial⟩) topFall_b2s6af w
    ·
      cases a3 with
      | true =>
        have hs : ∀ e ∈ ([(0, 3, 2), (1, 12, 7)] : List (Nat × Int × Int)), smv ((v3 a0 a1 a2) e.1) e.2.1 = e.2.2 ∧ 0 < e.2.1 ∧ e.2.1 ≤ 1000 := by
          intro e he
          simp only [List.mem_cons, List.not_mem_nil, or_false] at he
          rcases he with rfl | rfl
          · exact ⟨h0, by decide, by decide⟩
          · exact ⟨h1, by decide, by decide⟩
        exact topC (v := (v3 a0 a1 a2)) (vals := [.int .i64 a0, .int .i64 a1, .int .i64 a2, .bool true]) hs (xK_ok 2) (by exact ⟨rfl, rfl, rfl, rfl, trivial⟩) topFall_b2s7at w
      | false =>
        have hs : ∀ e ∈ ([(0, 3, 2), (1, 12, 7)] : List (Nat × Int × Int)), smv ((v3 a0 a1 a2) e.1) e.2.1 = e.2.2 ∧ 0 < e.2.1 ∧ e.2.1 ≤ 1000 := by
          intro e he
          simp only [List.mem_cons, List.not_mem_nil, or_false] at he
          rcases he with rfl | rfl
          · exact ⟨h0, by decide, by decide⟩
          · exact ⟨h1, by decide, by decide⟩
        exact topC (v := (v3 a0 a1 a2)) (vals := [.int .i64 a0, .int .i64 a1, .int .i64 a2, .bool false]) hs (xK_ok 2) (by exact ⟨rfl, rfl, rfl, rfl, trivial⟩) topFall_b2s7af w
    ·
      cases a3 with
      | true =>
        have hs : ∀ e ∈ ([(0, 3, 2), (1, 12, 8)] : List (Nat × Int × Int)), smv ((v3 a0 a1 a2) e.1) e.2.1 = e.2.2 ∧ 0 < e.2.1 ∧ e.2.1 ≤ 1000 := by
          intro e he
          simp only [List.mem_cons, List.not_mem_nil, or_false] at he
          rcases he with rfl | rfl
          · exact ⟨h0, by decide, by decide⟩
          · exact ⟨h1, by decide, by decide⟩
        exact topC (v := (v3 a0 a1 a2)) (vals := [.int .i64 a0, .int .i64 a1, .int .i64 a2, .bool true]) hs (xK_ok 2) (by exact ⟨rfl, rfl, rfl, rfl, trivial⟩) topFall_b2s8at w
      | false =>
        have hs : ∀ e ∈ ([(0, 3, 2), (1, 12, 8)] : List (Nat × Int × Int)), smv ((v3 a0 a1 a2) e.1) e.2.1 = e.2.2 ∧ 0 < e.2.1 ∧ e.2.1 ≤ 1000 := by
          intro e he
          simp only [List.mem_cons, List.not_mem_nil, or_false] at he
          rcases he with rfl | rfl
          · exact ⟨h0, by decide, by decide⟩
          · exact ⟨h1, by decide, by decide⟩
        exact topC (v := (v3 a0 a1 a2)) (vals := [.int .i64 a0, .int .i64 a1, .int .i64 a2, .bool false]) hs (xK_ok 2) (by exact ⟨rfl, rfl, rfl, rfl, trivial⟩) topFall_b2s8af w
    ·
      cases a3 with
      | true =>
        have hs : ∀ e ∈ ([(0, 3, 2), (1, 12, 9)] : List (Nat × Int × Int)), smv ((v3 a0 a1 a2) e.1) e.2.1 = e.2.2 ∧ 0 < e.2.1 ∧ e.2.1 ≤ 1000 := by
          intro e he
          simp only [List.mem_cons, List.not_mem_nil, or_false] at he
          rcases he with rfl | rfl
          · exact ⟨h0, by decide, by decide⟩
          · exact ⟨h1, by decide, by decide⟩
        exact topC (v := (v3 a0 a1 a2)) (vals := [.int .i64 a0, .int .i64 a1, .int .i64 a2, .bool true]) hs (xK_ok 2) (by exact ⟨rfl, rfl, rfl, rfl, trivial⟩) topFall_b2s9at w
      | false =>
        have hs : ∀ e ∈ ([(0, 3, 2), (1, 12, 9)] : List (Nat × Int × Int)), smv ((v3 a0 a1 a2) e.1) e.2.1 = e.2.2 ∧ 0 < e.2.1 ∧ e.2.1 ≤ 1000 := by
          intro e he
          simp only [List.mem_cons, List.not_mem_nil, or_false] at he
          rcases he with rfl | rfl
          · exact ⟨h0, by decide, by decide⟩
          · exact ⟨h1, by decide, by decide⟩
        exact topC (v := (v3 a0 a1 a2)) (vals := [.int .i64 a0, .int .i64 a1, .int .i64 a2, .bool false]) hs (xK_ok 2) (by exact ⟨rfl, rfl, rfl, rfl, trivial⟩) topFall_b2s9af w
    ·
      cases a3 with
      | true =>
        have hs : ∀ e ∈ ([(0, 3, 2), (1, 12, 10)] : List (Nat × Int × Int)), smv ((v3 a0 a1 a2) e.1) e.2.1 = e.2.2 ∧ 0 < e.2.1 ∧ e.2.1 ≤ 1000 := by
          intro e he
          simp only [List.mem_cons, List.not_mem_nil, or_false] at he
          rcases he with rfl | rfl
          · exact ⟨h0, by decide, by decide⟩
          · exact ⟨h1, by decide, by decide⟩
        exact topC (v := (v3 a0 a1 a2)) (vals := [.int .i64 a0, .int .i64 a1, .int .i64 a2, .bool true]) hs (xK_ok 2) (by exact ⟨rfl, rfl, rfl, rfl, trivial⟩) topFall_b2s10at w
      | false =>
        have hs : ∀ e ∈ ([(0, 3, 2), (1, 12, 10)] : List (Nat × Int × Int)), smv ((v3 a0 a1 a2) e.1) e.2.1 = e.2.2 ∧ 0 < e.2.1 ∧ e.2.1 ≤ 1000 := by
          intro e he
          simp only [List.mem_cons, List.not_mem_nil, or_false] at he
          rcases he with rfl | rfl
          · exact ⟨h0, by decide, by decide⟩
          · exact ⟨h1, by decide, by decide⟩
        exact topC (v := (v3 a0 a1 a2)) (vals := [.int .i64 a0, .int .i64 a1, .int .i64 a2, .bool false]) hs (xK_ok 2) (by exact ⟨rfl, rfl, rfl, rfl, trivial⟩) topFall_b2s10af w
    ·
      cases a3 with
      | true =>
        have hs : ∀ e ∈ ([(0, 3, 2), (1, 12, 11)] : List (Nat × Int × Int)), smv ((v3 a0 a1 a2) e.1) e.2.1 = e.2.2 ∧ 0 < e.2.1 ∧ e.2.1 ≤ 1000 := by
          intro e he
          simp only [List.mem_cons, List.not_mem_nil, or_false] at he
          rcases he with rfl | rfl
          · exact ⟨h0, by decide, by decide⟩
          · exact ⟨h1, by decide, by decide⟩
        exact topC (v := (v3 a0 a1 a2)) (vals := [.int .i64 a0, .int .i64 a1, .int .i64 a2, .bool true]) hs (xK_ok 2) (by exact ⟨rfl, rfl, rfl, rfl, trivial⟩) topFall_b2s11at w
      | false =>
        have hs : ∀ e ∈ ([(0, 3, 2), (1, 12, 11)] : List (Nat × Int × Int)), smv ((v3 a0 a1 a2) e.1) e.2.1 = e.2.2 ∧ 0 < e.2.1 ∧ e.2.1 ≤ 1000 := by
          intro e he
          simp only [List.mem_cons, List.not_mem_nil, or_false] at he
          rcases he with rfl | rfl
          · exact ⟨h0, by decide, by decide⟩
          · exact ⟨h1, by decide, by decide⟩
        exact topC (v := (v3 a0 a1 a2)) (vals := [.int .i64 a0, .int .i64 a1, .int .i64 a2, .bool false]) hs (xK_ok 2) (by exact ⟨rfl, rfl, rfl, rfl, trivial⟩) topFall_b2s11af w
end Go.Proofs.YtcmlgmiomcegeaaGreat.Ev
