/- Segments: what a disk's file is behind an append, a sync. No condition. -/
import Derived.Test.YtcjlgdldhcbcjaaSegO
namespace Go.Proofs.Ytcjlgdldhcbcjaa
open Go.RowKit Go.Maps
set_option linter.unusedVariables false
set_option linter.unusedSimpArgs false

theorem get_sync (M : List FE) (n m : Key) : mGet (mSync M n) m = (mGet M m).map (fun x => if m = n then { x with sure := x.b.length, named := true } else x) := by
  unfold mGet mSync
  induction M with
  | nil => rfl
  | cons x r ih =>
    rw [List.map_cons, List.find?_cons, List.find?_cons]
    have hn : (if x.name = n then { x with sure := x.b.length, named := true } else x).name = x.name := by split <;> rfl
    by_cases hx : x.name = m
    · rw [show ((if x.name = n then { x with sure := x.b.length, named := true } else x).name == m) = true by rw [hn]; simpa using hx, show (x.name == m) = true by simpa using hx]
      simp only [Option.map_some, hx]
    · rw [show ((if x.name = n then { x with sure := x.b.length, named := true } else x).name == m) = false by rw [hn]; simpa using hx, show (x.name == m) = false by simpa using hx]
      exact ih
theorem get_appL_ne (M : List FE) (n m : Key) (bs : List UInt8) (h : m ≠ n) : mGet (mAppL M n bs) m = mGet M m := by
  unfold mAppL
  split
  · unfold mGet
    induction M with
    | nil => rfl
    | cons x r ih =>
      rename_i hs
      rw [List.map_cons, List.find?_cons, List.find?_cons]
      have hn : (if x.name = n then { x with b := x.b ++ bs } else x).name = x.name := by split <;> rfl
      by_cases hx : x.name = m
      · rw [show ((if x.name = n then { x with b := x.b ++ bs } else x).name == m) = true by rw [hn]; simpa using hx, show (x.name == m) = true by simpa using hx]
        rw [if_neg (by rw [hx]; exact h)]
      · rw [show ((if x.name = n then { x with b := x.b ++ bs } else x).name == m) = false by rw [hn]; simpa using hx, show (x.name == m) = false by simpa using hx]
        have key : ∀ r : List FE, List.find? (fun x => x.name == m) (r.map fun x => if x.name = n then { x with b := x.b ++ bs } else x) = List.find? (fun x => x.name == m) r := by
          intro r
          induction r with
          | nil => rfl
          | cons y r ih =>
            rw [List.map_cons, List.find?_cons, List.find?_cons]
            have hn : (if y.name = n then { y with b := y.b ++ bs } else y).name = y.name := by split <;> rfl
            by_cases hy : y.name = m
            · rw [show ((if y.name = n then { y with b := y.b ++ bs } else y).name == m) = true by rw [hn]; simpa using hy, show (y.name == m) = true by simpa using hy]
              rw [if_neg (by rw [hy]; exact h)]
            · rw [show ((if y.name = n then { y with b := y.b ++ bs } else y).name == m) = false by rw [hn]; simpa using hy, show (y.name == m) = false by simpa using hy]
              exact ih
        exact key r
  · unfold mGet
    rw [List.find?_append]
    cases List.find? (fun x => x.name == m) M with
    | some y => rfl
    | none => simp [show ¬ n = m from fun e => h e.symm]
theorem get_appL_eq (M : List FE) (n : Key) (bs : List UInt8) : mGet (mAppL M n bs) n = some (match mGet M n with | some x => { x with b := x.b ++ bs } | none => ⟨n, bs, 0, false⟩) := by
  unfold mAppL
  cases hg : mGet M n with
  | none =>
    rw [if_neg (by simp)]
    unfold mGet at hg ⊢
    rw [List.find?_append, hg]
    simp
  | some x =>
    rw [if_pos (show (some x).isSome = true from rfl)]
    unfold mGet at hg ⊢
    have key : ∀ r : List FE, List.find? (fun x => x.name == n) r = some x → List.find? (fun x => x.name == n) (r.map fun x => if x.name = n then { x with b := x.b ++ bs } else x) = some { x with b := x.b ++ bs } := by
      intro r
      induction r with
      | nil => intro h; simp at h
      | cons y r ih =>
        intro h
        rw [List.map_cons]
        rw [List.find?_cons] at h ⊢
        have hn : (if y.name = n then { y with b := y.b ++ bs } else y).name = y.name := by split <;> rfl
        by_cases hy : y.name = n
        · rw [show (y.name == n) = true by simpa using hy] at h
          rw [show ((if y.name = n then { y with b := y.b ++ bs } else y).name == n) = true by rw [hn]; simpa using hy]
          injection h with h
          subst h
          simp [hy]
        · rw [show (y.name == n) = false by simpa using hy] at h
          rw [show ((if y.name = n then { y with b := y.b ++ bs } else y).name == n) = false by rw [hn]; simpa using hy]
          exact ih h
    exact key M hg
theorem used_sync (M : List FE) (n : Key) : mUsed (mSync M n) = mUsed M := by
  unfold mUsed mSync
  rw [List.map_map]
  congr 1
  refine List.map_congr_left fun x _ => ?_
  simp only [Function.comp]
  split <;> rfl
theorem used_appL (M : List FE) (n : Key) (bs : List UInt8) (hnd : (names M).Nodup) : mUsed (mAppL M n bs) = mUsed M + bs.length := by
  unfold mAppL
  cases hg : mGet M n with
  | none =>
    rw [if_neg (by simp), mUsed_append]; simp [mUsed]
  | some x =>
    rw [if_pos (show (some x).isSome = true from rfl)]
    unfold mGet at hg
    have key0 : ∀ r : List FE, n ∉ names r → mUsed (r.map fun x => if x.name = n then { x with b := x.b ++ bs } else x) = mUsed r := by
      intro r hr
      congr 1
      have : ∀ x ∈ r, (if x.name = n then { x with b := x.b ++ bs } else x) = x := fun x hx => if_neg (fun e => hr (by unfold names; rw [← e]; exact List.mem_map_of_mem (f := fun x : FE => x.name) hx))
      rw [List.map_congr_left this]; simp
    have key : ∀ r : List FE, (names r).Nodup → List.find? (fun x => x.name == n) r = some x → mUsed (r.map fun x => if x.name = n then { x with b := x.b ++ bs } else x) = mUsed r + bs.length := by
      intro r
      induction r with
      | nil => intro _ h; simp at h
      | cons y r ih =>
        intro hnd h
        simp only [names, List.map_cons, List.nodup_cons] at hnd
        rw [List.map_cons]
        by_cases hy : y.name = n
        · have := key0 r (by rw [← hy]; exact hnd.1)
          simp only [mUsed, List.map_cons, List.sum_cons] at this ⊢
          rw [if_pos hy, this]; simp; omega
        · rw [List.find?_cons, show (y.name == n) = false by simpa using hy] at h
          have := ih hnd.2 h
          simp only [mUsed, List.map_cons, List.sum_cons] at this ⊢
          rw [if_neg hy, this]; omega
    exact key M hnd hg
theorem good_seg : ∀ n, n ≤ 999 → goodB (segNm n) = true := by
  have h : (List.range 1000).all (fun n => goodB (segNm n)) = true := by kernel_rfl
  intro n hn
  exact List.all_eq_true.1 h n (List.mem_range.2 (by omega))
theorem lenAL (M : List FE) (n : Key) (bs : List UInt8) : (mAppL M n bs).length ≤ M.length + 1 := by
  unfold mAppL; split <;> simp
theorem lenSy (M : List FE) (n : Key) : (mSync M n).length = M.length := by unfold mSync; simp
end Go.Proofs.Ytcjlgdldhcbcjaa
