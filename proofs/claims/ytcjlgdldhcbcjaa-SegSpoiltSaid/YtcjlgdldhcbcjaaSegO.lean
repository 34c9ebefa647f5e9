/- Segments: a log of one segment, in plain lists. No condition. -/
import Derived.Test.YtcjlgdldhcbcjaaBeg4
namespace Go.Proofs.Ytcjlgdldhcbcjaa
open Go.RowKit Go.Maps
set_option linter.unusedVariables false
set_option linter.unusedSimpArgs false

def oneM (A : List (List UInt8)) : List FE := if A = [] then [] else [⟨segNm 0, framed A, 0, false⟩]
theorem oneM_nil : oneM [] = [] := rfl
theorem oneM_cons {A : List (List UInt8)} (h : A ≠ []) : oneM A = [⟨segNm 0, framed A, 0, false⟩] := if_neg h
theorem framed_nil : framed [] = [] := rfl
theorem mUsed_one (A : List (List UInt8)) : mUsed (oneM A) = (framed A).length := by
  by_cases h : A = []
  · subst h; rfl
  · rw [oneM_cons h]; simp [mUsed]
theorem get_one (A : List (List UInt8)) : mGet (oneM A) (segNm 0) = if A = [] then none else some ⟨segNm 0, framed A, 0, false⟩ := by
  by_cases h : A = []
  · subst h; rfl
  · rw [oneM_cons h, if_neg h]; simp [mGet]
theorem segB_one (A : List (List UInt8)) : segB (oneM A) 0 = framed A := by
  unfold segB
  rw [get_one]
  by_cases h : A = []
  · subst h; rfl
  · rw [if_neg h]; rfl
theorem oneM_len (A : List (List UInt8)) : (oneM A).length ≤ 1 := by
  by_cases h : A = []
  · subst h; simp [oneM]
  · rw [oneM_cons h]; simp
theorem good_seg0 : goodB (segNm 0) = true := by kernel_rfl
theorem framed_snoc (A : List (List UInt8)) (b : List UInt8) : framed (A ++ [b]) = framed A ++ frameM b := by rw [framed_append, framed_one]
theorem framed_snoc_len (A : List (List UInt8)) (b : List UInt8) : (framed (A ++ [b])).length = (framed A).length + (6 + b.length) := by rw [framed_snoc, List.length_append, frameM_length]
theorem mApp_one (room : Nat) (A : List (List UInt8)) (bs : List UInt8) : mAppend (oneM A) room (segNm 0) (frameM bs) = if room < (framed A).length + (6 + bs.length) then (5, oneM A) else (0, oneM (A ++ [bs])) := by
  unfold mAppend
  rw [good_seg0, if_neg (by simp), mUsed_one, frameM_length]
  split
  · rfl
  · congr 1
    unfold mAppL
    rw [get_one]
    by_cases h : A = []
    · subst h
      simp [oneM, framed]
    · rw [if_neg h, oneM_cons h, oneM_cons (by simp), framed_snoc]
      simp
theorem addM_one (room : Nat) (A : List (List UInt8)) (bs : List UInt8) (hf : fits bs) (hl : (framed A).length < 2000) : addM room (oneM A) 0 A bs = if room < (framed A).length + (6 + bs.length) then ⟨5, oneM A, 0, A⟩ else ⟨0, oneM (A ++ [bs]), 0, A ++ [bs]⟩ := by
  have hsb : ((mGet (oneM A) (segNm 0)).elim [] (·.b)).length < 2000 := by
    have := segB_one A
    unfold segB at this
    rw [this]; exact hl
  unfold addM
  rw [if_neg (fun h => h hf), if_neg (by omega)]
  unfold putM
  rw [mApp_one]
  by_cases h : room < (framed A).length + (6 + bs.length)
  · rw [if_pos h, if_pos h]; rfl
  · rw [if_neg h, if_neg h]; rfl
theorem addM_no (room : Nat) (M : List FE) (last : Nat) (A : List (List UInt8)) (bs : List UInt8) (hf : ¬ fits bs) : addM room M last A bs = ⟨1, M, last, A⟩ := by
  unfold addM; rw [if_pos (show ¬ (1 ≤ bs.length ∧ bs.length ≤ 4000) from hf)]
/-- A disk whose one file is the first segment. -/
theorem topF_none {M : List FE} {f : Nat} (h : ∀ n, f < n → n ≤ 999 → mGet M (segNm n) = none) : ∀ n, f ≤ n → n ≤ 999 → topF M f n = f
  | 0, h1, _ => rfl
  | n + 1, h1, h2 => by
    unfold topF
    by_cases hf : n + 1 ≤ f
    · rw [if_pos hf]
    · rw [if_neg hf, h (n + 1) (by omega) h2, if_neg (by simp)]
      exact topF_none h n (by omega) (by omega)
theorem segNm_inj {n m : Nat} (hn : n ≤ 999) (hm : m ≤ 999) (h : segNm n = segNm m) : n = m := by
  unfold segNm at h
  simp only [List.cons.injEq, true_and, and_true] at h
  obtain ⟨h1, h2, h3⟩ := h
  have e1 := congrArg UInt8.toNat h1
  have e2 := congrArg UInt8.toNat h2
  have e3 := congrArg UInt8.toNat h3
  simp at e1 e2 e3
  omega
theorem seg_ne_new (n : Nat) : segNm n ≠ newK := by
  intro h
  have := congrArg List.length h
  simp [segNm, newK] at this
end Go.Proofs.Ytcjlgdldhcbcjaa
