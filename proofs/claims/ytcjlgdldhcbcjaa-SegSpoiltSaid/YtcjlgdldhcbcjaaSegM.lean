/- Segments in plain lists: names, frames, what is cut of bytes, what a log tells. No condition. -/
import Derived.Test.YtcjlgdldhcbcjaaSum
import Derived.Test.YtcjlgdldhcbcjaaIn
import Derived.Test.YtcjlgdldhcbcjaaDisk
namespace Go.Proofs.Ytcjlgdldhcbcjaa
open Go.RowKit Go.Maps
set_option linter.unusedVariables false
set_option linter.unusedSimpArgs false

def segNm (n : Nat) : Key := [108, 111, 103, UInt8.ofNat (48 + n / 100), UInt8.ofNat (48 + n / 10 % 10), UInt8.ofNat (48 + n % 10)]
def sumM (b : List UInt8) : Nat := crcOn (crcOn 0 (leBytes 2 b.length)) b
def sizedM (b : List UInt8) : List UInt8 := leBytes 2 b.length ++ leBytes 2 (sumM b) ++ leBytes 2 (sumM b / 65536)
def frameM (b : List UInt8) : List UInt8 := sizedM b ++ b
def fits (b : List UInt8) : Prop := 1 ≤ b.length ∧ b.length ≤ 4000
/-- The first frame of bytes: what it has, how long it is, an error. -/
def cutM (b : List UInt8) : List UInt8 × Nat × Nat :=
  if b.length < 2 then ([], 0, 2)
  else if leNum (b.take 2) < 1 ∨ 4000 < leNum (b.take 2) then ([], 0, 3)
  else if b.length < 6 + leNum (b.take 2) then ([], 0, 2)
  else if sizedM ((b.drop 6).take (leNum (b.take 2))) ≠ b.take 6 then ([], 0, 3)
  else ((b.drop 6).take (leNum (b.take 2)), 6 + leNum (b.take 2), 0)
/-- What the frames of a segment give: their texts, how many bytes they have, is something torn behind them, an error. -/
structure FRes where
  all : List (List UInt8)
  len : Nat
  torn : Bool
  err : Nat
def framesF : Nat → List UInt8 → FRes
  | 0, _ => ⟨[], 0, false, 0⟩
  | k + 1, b =>
    if b = [] then ⟨[], 0, false, 0⟩
    else if (cutM b).2.2 = 0 then ⟨(cutM b).1 :: (framesF k (b.drop (cutM b).2.1)).all, (cutM b).2.1 + (framesF k (b.drop (cutM b).2.1)).len, (framesF k (b.drop (cutM b).2.1)).torn, (framesF k (b.drop (cutM b).2.1)).err⟩
    else if (cutM b).2.2 = 2 then ⟨[], 0, true, 0⟩
    else ⟨[], 0, false, (cutM b).2.2⟩
def framesM (b : List UInt8) : FRes := framesF b.length b

theorem sizedM_length (b : List UInt8) : (sizedM b).length = 6 := by simp [sizedM, leBytes_length]
theorem cutM_ok {b : List UInt8} (h : (cutM b).2.2 = 0) : (cutM b).2.1 = 6 + (cutM b).1.length ∧ 1 ≤ (cutM b).1.length ∧ (cutM b).1.length ≤ 4000 ∧ (cutM b).2.1 ≤ b.length := by
  unfold cutM at h ⊢
  split at h
  · simp at h
  split at h
  · simp at h
  split at h
  · simp at h
  split at h
  · simp at h
  · next h1 h2 h3 h4 =>
    rw [if_neg h1, if_neg h2, if_neg h3, if_neg h4]
    simp only [List.length_take, List.length_drop]
    omega
theorem cutM_err (b : List UInt8) : (cutM b).2.2 = 0 ∨ (cutM b).2.2 = 2 ∨ (cutM b).2.2 = 3 := by
  unfold cutM
  split
  · simp
  split
  · simp
  split
  · simp
  split <;> simp
theorem framesF_fuel : ∀ (k k' : Nat) (b : List UInt8), b.length ≤ k → b.length ≤ k' → framesF k b = framesF k' b
  | 0, 0, b, _, _ => rfl
  | 0, k' + 1, b, h, _ => by
    have : b = [] := List.eq_nil_of_length_eq_zero (by omega)
    simp [framesF, this]
  | k + 1, 0, b, _, h => by
    have : b = [] := List.eq_nil_of_length_eq_zero (by omega)
    simp [framesF, this]
  | k + 1, k' + 1, b, h, h' => by
    unfold framesF
    by_cases hb : b = []
    · rw [if_pos hb, if_pos hb]
    · rw [if_neg hb, if_neg hb]
      by_cases hc : (cutM b).2.2 = 0
      · rw [if_pos hc, if_pos hc]
        have := cutM_ok hc
        have hl : (b.drop (cutM b).2.1).length + 1 ≤ b.length := by rw [List.length_drop]; omega
        rw [framesF_fuel k k' (b.drop (cutM b).2.1) (by omega) (by omega)]
      · rw [if_neg hc, if_neg hc]
theorem framesM_nil : framesM [] = ⟨[], 0, false, 0⟩ := rfl
theorem framesM_ok {b : List UInt8} (h : (cutM b).2.2 = 0) (hb : b ≠ []) : framesM b = ⟨(cutM b).1 :: (framesM (b.drop (cutM b).2.1)).all, (cutM b).2.1 + (framesM (b.drop (cutM b).2.1)).len, (framesM (b.drop (cutM b).2.1)).torn, (framesM (b.drop (cutM b).2.1)).err⟩ := by
  have hc := cutM_ok h
  obtain ⟨k, hk⟩ : ∃ k, b.length = k + 1 := ⟨b.length - 1, by have := List.length_pos_iff.2 hb; omega⟩
  have h1 : framesM b = framesF (k + 1) b := by unfold framesM; rw [hk]
  rw [h1]
  unfold framesF
  rw [if_neg hb, if_pos h]
  have h2 : framesF k (b.drop (cutM b).2.1) = framesM (b.drop (cutM b).2.1) := framesF_fuel _ _ _ (by rw [List.length_drop]; omega) (Nat.le_refl _)
  rw [h2]
theorem framesM_torn {b : List UInt8} (h : (cutM b).2.2 = 2) (hb : b ≠ []) : framesM b = ⟨[], 0, true, 0⟩ := by
  obtain ⟨k, hk⟩ : ∃ k, b.length = k + 1 := ⟨b.length - 1, by have := List.length_pos_iff.2 hb; omega⟩
  unfold framesM
  rw [hk]
  unfold framesF
  rw [if_neg hb, if_neg (by omega), if_pos h]
theorem framesM_bad {b : List UInt8} (h : (cutM b).2.2 ≠ 0) (h2 : (cutM b).2.2 ≠ 2) (hb : b ≠ []) : framesM b = ⟨[], 0, false, (cutM b).2.2⟩ := by
  obtain ⟨k, hk⟩ : ∃ k, b.length = k + 1 := ⟨b.length - 1, by have := List.length_pos_iff.2 hb; omega⟩
  unfold framesM
  rw [hk]
  unfold framesF
  rw [if_neg hb, if_neg h, if_neg h2]
theorem frameM_length (b : List UInt8) : (frameM b).length = 6 + b.length := by simp [frameM, sizedM_length]
theorem le2 (n : Nat) (h : n < 65536) : leNum (leBytes 2 n) = n := by
  have h1 : (UInt8.ofNat (n % 256)).toNat = n % 256 := by simp
  have h2 : (UInt8.ofNat (n / 256 % 256)).toNat = n / 256 := by simp; omega
  show (UInt8.ofNat (n % 256)).toNat + 256 * ((UInt8.ofNat (n / 256 % 256)).toNat + 256 * 0) = n
  omega
theorem frameM_take2 (b r : List UInt8) : (frameM b ++ r).take 2 = leBytes 2 b.length := by
  unfold frameM sizedM
  rw [List.append_assoc, List.append_assoc, List.append_assoc, List.take_append_of_le_length (by simp [leBytes_length]), List.take_of_length_le (by simp [leBytes_length])]
theorem frameM_take6 (b r : List UInt8) : (frameM b ++ r).take 6 = sizedM b := by
  unfold frameM
  rw [List.append_assoc, List.take_append_of_le_length (by simp [sizedM_length]), List.take_of_length_le (by simp [sizedM_length])]
theorem frameM_drop6 (b r : List UInt8) : (frameM b ++ r).drop 6 = b ++ r := by
  unfold frameM
  rw [List.append_assoc, List.drop_append_of_le_length (by simp [sizedM_length]), List.drop_of_length_le (by simp [sizedM_length])]; rfl
theorem cutM_frame (b r : List UInt8) (h : fits b) : cutM (frameM b ++ r) = (b, 6 + b.length, 0) := by
  have hn : leNum ((frameM b ++ r).take 2) = b.length := by rw [frameM_take2, le2 _ (by unfold fits at h; omega)]
  have hl : (frameM b ++ r).length = 6 + b.length + r.length := by rw [List.length_append, frameM_length]
  unfold fits at h
  have ht : ((frameM b ++ r).drop 6).take b.length = b := by rw [frameM_drop6, List.take_append_of_le_length (Nat.le_refl _), List.take_length]
  unfold cutM
  rw [hn, if_neg (by omega), if_neg (by omega), if_neg (by omega), ht, if_neg (by rw [frameM_take6]; simp)]
theorem cutM_part (b : List UInt8) (h : fits b) (k : Nat) (hk : k < 6 + b.length) : (cutM ((frameM b).take k)).2.2 = 2 := by
  unfold cutM
  have hl : ((frameM b).take k).length = k := by rw [List.length_take, frameM_length]; omega
  by_cases h2 : k < 2
  · rw [if_pos (by omega)]
  · have hn : leNum (((frameM b).take k).take 2) = b.length := by
      rw [List.take_take, Nat.min_eq_left (by omega)]
      have := frameM_take2 b []
      rw [List.append_nil] at this
      rw [this, le2 _ (by unfold fits at h; omega)]
    unfold fits at h
    rw [hn, if_neg (by omega), if_neg (by omega), if_pos (by omega)]
/-- The frames of some texts, one behind the other. -/
def framed (A : List (List UInt8)) : List UInt8 := A.flatMap frameM
theorem framed_cons (a : List UInt8) (A : List (List UInt8)) : framed (a :: A) = frameM a ++ framed A := rfl
theorem framed_append (A B : List (List UInt8)) : framed (A ++ B) = framed A ++ framed B := by simp [framed, List.flatMap_append]
theorem framed_one (a : List UInt8) : framed [a] = frameM a := by simp [framed]
theorem framesM_app : ∀ (A : List (List UInt8)) (hA : ∀ b ∈ A, fits b) (r : List UInt8), framesM (framed A ++ r) = ⟨A ++ (framesM r).all, (framed A).length + (framesM r).len, (framesM r).torn, (framesM r).err⟩
  | [], _, r => by simp [framed]
  | a :: A, hA, r => by
    have hc := cutM_frame a (framed A ++ r) (hA a List.mem_cons_self)
    have ha := hA a List.mem_cons_self
    have hne : frameM a ++ (framed A ++ r) ≠ [] := by
      intro e
      have := congrArg List.length e
      simp [frameM_length] at this
    have hd : (frameM a ++ (framed A ++ r)).drop (6 + a.length) = framed A ++ r := by
      rw [← frameM_length, List.drop_left]
    rw [framed_cons, List.append_assoc, framesM_ok (by rw [hc]) hne, hc]
    simp only
    rw [hd, framesM_app A (fun b hb => hA b (List.mem_cons_of_mem _ hb)) r]
    simp [frameM_length]; omega
theorem framesM_framed (A : List (List UInt8)) (hA : ∀ b ∈ A, fits b) : framesM (framed A) = ⟨A, (framed A).length, false, 0⟩ := by
  have := framesM_app A hA []
  rw [List.append_nil, framesM_nil] at this
  simpa using this
theorem framesM_part (A : List (List UInt8)) (hA : ∀ b ∈ A, fits b) (b : List UInt8) (hb : fits b) (k : Nat) (hk : k < 6 + b.length) (h0 : 0 < k) : framesM (framed A ++ (frameM b).take k) = ⟨A, (framed A).length, true, 0⟩ := by
  have h1 : framesM ((frameM b).take k) = ⟨[], 0, true, 0⟩ := framesM_torn (cutM_part b hb k hk) (by
    intro e
    have := congrArg List.length e
    simp [frameM_length] at this
    omega)
  rw [framesM_app A hA, h1]
  simp
theorem framesF_le : ∀ (k : Nat) (b : List UInt8), (framesF k b).all.length ≤ b.length ∧ (framesF k b).len ≤ b.length
  | 0, b => by simp [framesF]
  | k + 1, b => by
    unfold framesF
    by_cases hb : b = []
    · rw [if_pos hb]; simp
    · rw [if_neg hb]
      by_cases hc : (cutM b).2.2 = 0
      · rw [if_pos hc]
        have h1 := cutM_ok hc
        have h2 := framesF_le k (b.drop (cutM b).2.1)
        rw [List.length_drop] at h2
        simp only [List.length_cons]
        omega
      · rw [if_neg hc]
        by_cases h2 : (cutM b).2.2 = 2
        · rw [if_pos h2]; simp
        · rw [if_neg h2]; simp
theorem framesM_le (b : List UInt8) : (framesM b).all.length ≤ b.length ∧ (framesM b).len ≤ b.length := framesF_le _ b
end Go.Proofs.Ytcjlgdldhcbcjaa
