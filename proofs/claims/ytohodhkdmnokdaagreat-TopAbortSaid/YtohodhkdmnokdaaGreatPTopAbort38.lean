/- Part 38 of what the proof of TopAbort rests on. No condition. -/
import Derived.Test.YtohodhkdmnokdaaGreatPTopAbort35
import Derived.Test.YtohodhkdmnokdaaGreatPTopAbort36
import Derived.Test.YtohodhkdmnokdaaGreatPTopAbort37
namespace Go.Proofs.YtohodhkdmnokdaaGreat
set_option maxRecDepth 100000
set_option maxHeartbeats 60000000
set_option linter.unusedVariables false
set_option linter.unusedSimpArgs false
set_option linter.unusedSectionVars false
namespace Ev
open Go Go.RowKit Go.Maps
theorem topAbort_any (a0 : Int) (a1 : Bool) (w : World) : Calls Tryz.prog 4 #[.int .i64 a0, .bool a1] w fun e w' => e = .returned (.bool true) /\ Tch No w w' := by
 have h0 : smv a0 4 = 0 ∨ smv a0 4 = 1 ∨ smv a0 4 = 2 ∨ smv a0 4 = 3 := by
  have := smv_lt a0 (k := 4) (by decide)
  omega
 rcases h0 with h0 | h0 | h0 | h0
 ·
  cases a1 with
  | true =>
   have hs : ∀ e ∈ ([(0, 4, 0)] : List (Nat × Int × Int)), smv ((v3 a0 0 0) e.1) e.2.1 = e.2.2 /\ 0 < e.2.1 /\ e.2.1 <= 1000 := by
    intro e he
    simp only [List.mem_cons, List.not_mem_nil, or_false] at he
    rcases he with rfl
    ·exact ⟨h0, by decide, by decide⟩
   exact topC (v := (v3 a0 0 0)) (vals := [.int .i64 a0, .bool true]) hs (xN_ok) (by exact ⟨rfl, rfl, trivial⟩) topAbort_b0htrue w
  | false =>
   have hs : ∀ e ∈ ([(0, 4, 0)] : List (Nat × Int × Int)), smv ((v3 a0 0 0) e.1) e.2.1 = e.2.2 /\ 0 < e.2.1 /\ e.2.1 <= 1000 := by
    intro e he
    simp only [List.mem_cons, List.not_mem_nil, or_false] at he
    rcases he with rfl
    ·exact ⟨h0, by decide, by decide⟩
   exact topC (v := (v3 a0 0 0)) (vals := [.int .i64 a0, .bool false]) hs (xN_ok) (by exact ⟨rfl, rfl, trivial⟩) topAbort_b0hfalse w
 ·
  cases a1 with
  | true =>
   have hs : ∀ e ∈ ([(0, 4, 1)] : List (Nat × Int × Int)), smv ((v3 a0 0 0) e.1) e.2.1 = e.2.2 /\ 0 < e.2.1 /\ e.2.1 <= 1000 := by
    intro e he
    simp only [List.mem_cons, List.not_mem_nil, or_false] at he
    rcases he with rfl
    ·exact ⟨h0, by decide, by decide⟩
   exact topC (v := (v3 a0 0 0)) (vals := [.int .i64 a0, .bool true]) hs (xN_ok) (by exact ⟨rfl, rfl, trivial⟩) topAbort_b1htrue w
  | false =>
   have hs : ∀ e ∈ ([(0, 4, 1)] : List (Nat × Int × Int)), smv ((v3 a0 0 0) e.1) e.2.1 = e.2.2 /\ 0 < e.2.1 /\ e.2.1 <= 1000 := by
    intro e he
    simp only [List.mem_cons, List.not_mem_nil, or_false] at he
    rcases he with rfl
    ·exact ⟨h0, by decide, by decide⟩
   exact topC (v := (v3 a0 0 0)) (vals := [.int .i64 a0, .bool false]) hs (xN_ok) (by exact ⟨rfl, rfl, trivial⟩) topAbort_b1hfalse w
 ·
  cases a1 with
  | true =>
   have hs : ∀ e ∈ ([(0, 4, 2)] : List (Nat × Int × Int)), smv ((v3 a0 0 0) e.1) e.2.1 = e.2.2 /\ 0 < e.2.1 /\ e.2.1 <= 1000 := by
    intro e he
    simp only [List.mem_cons, List.not_mem_nil, or_false] at he
    rcases he with rfl
    ·exact ⟨h0, by decide, by decide⟩
   exact topC (v := (v3 a0 0 0)) (vals := [.int .i64 a0, .bool true]) hs (xN_ok) (by exact ⟨rfl, rfl, trivial⟩) topAbort_b2htrue w
  | false =>
   have hs : ∀ e ∈ ([(0, 4, 2)] : List (Nat × Int × Int)), smv ((v3 a0 0 0) e.1) e.2.1 = e.2.2 /\ 0 < e.2.1 /\ e.2.1 <= 1000 := by
    intro e he
    simp only [List.mem_cons, List.not_mem_nil, or_false] at he
    rcases he with rfl
    ·exact ⟨h0, by decide, by decide⟩
   exact topC (v := (v3 a0 0 0)) (vals := [.int .i64 a0, .bool false]) hs (xN_ok) (by exact ⟨rfl, rfl, trivial⟩) topAbort_b2hfalse w
 ·
  cases a1 with
  | true =>
   have hs : ∀ e ∈ ([(0, 4, 3)] : List (Nat × Int × Int)), smv ((v3 a0 0 0) e.1) e.2.1 = e.2.2 /\ 0 < e.2.1 /\ e.2.1 <= 1000 := by
    intro e he
    simp only [List.mem_cons, List.not_mem_nil, or_false] at he
    rcases he with rfl
    ·exact ⟨h0, by decide, by decide⟩
   exact topC (v := (v3 a0 0 0)) (vals := [.int .i64 a0, .bool true]) hs (xN_ok) (by exact ⟨rfl, rfl, trivial⟩) topAbort_b3htrue w
  | false =>
   have hs : ∀ e ∈ ([(0, 4, 3)] : List (Nat × Int × Int)), smv ((v3 a0 0 0) e.1) e.2.1 = e.2.2 /\ 0 < e.2.1 /\ e.2.1 <= 1000 := by
    intro e he
    simp only [List.mem_cons, List.not_mem_nil, or_false] at he
    rcases he with rfl
    ·exact ⟨h0, by decide, by decide⟩
   exact topC (v := (v3 a0 0 0)) (vals := [.int .i64 a0, .bool false]) hs (xN_ok) (by exact ⟨rfl, rfl, trivial⟩) topAbort_b3hfalse w
end Ev
end Go.Proofs.YtohodhkdmnokdaaGreat
