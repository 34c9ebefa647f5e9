/- One byte of a log was turned: in plain lists. No condition. -/
import Derived.Test.YtcjlgdldhcbcjaaTorn0
import Derived.Test.YtcjlgdldhcbcjaaRCut2
namespace Go.Proofs.Ytcjlgdldhcbcjaa
open Go.RowKit Go.Maps
set_option linter.unusedVariables false
set_option linter.unusedSimpArgs false

theorem crcStep_inj {a b : Nat} (ha : a < 4294967296) (hb : b < 4294967296) (h : crcStep a = crcStep b) : a = b := by
  have key : ∀ u v : Nat, u < 2147483648 → v < 2147483648 → u ^^^ 2197175160 ≠ v := fun u v hu hv e => by
    have h1 : (u ^^^ 2197175160).testBit 31 = true := by
      rw [Nat.testBit_xor, Nat.testBit_lt_two_pow (x := u) (i := 31) (by omega)]; decide
    rw [e, Nat.testBit_lt_two_pow (x := v) (i := 31) (by omega)] at h1
    cases h1
  unfold crcStep at h
  split at h
  · split at h
    · have := congrArg (fun n => n ^^^ 2197175160) h
      simp only [Nat.xor_assoc, Nat.xor_self, Nat.xor_zero] at this
      omega
    · exact absurd h (key _ _ (by omega) (by omega))
  · split at h
    · exact absurd h.symm (key _ _ (by omega) (by omega))
    · omega
theorem crcUp_inj {a b : Nat} (ha : a < 4294967296) (hb : b < 4294967296) : ∀ k, crcUp k a = crcUp k b → a = b
  | 0, h => h
  | k + 1, h => crcUp_inj ha hb k (crcStep_inj (crcUp_lt ha k) (crcUp_lt hb k) h)
theorem crcByte_inj {s t : Nat} {x y : UInt8} (hs : s < 4294967296) (ht : t < 4294967296) (h : crcByte s x = crcByte t y) : s ^^^ x.toNat = t ^^^ y.toNat :=
  crcUp_inj (xor32 hs (by have := x.toNat_lt; omega)) (xor32 ht (by have := y.toNat_lt; omega)) 8 h
theorem crcFold_inj : ∀ (bs : List UInt8) {s t : Nat}, s < 4294967296 → t < 4294967296 → bs.foldl crcByte s = bs.foldl crcByte t → s = t
  | [], _, _, _, _, h => h
  | b :: r, s, t, hs, ht, h => by
    have h1 := crcFold_inj r (crcByte_lt hs b) (crcByte_lt ht b) h
    have h2 := crcByte_inj hs ht h1
    have := congrArg (fun n => n ^^^ b.toNat) h2
    simpa only [Nat.xor_assoc, Nat.xor_self, Nat.xor_zero] using this
theorem crcNot_inj {a b : Nat} (h : crcNot a = crcNot b) : a = b := by
  have := congrArg (fun n => 4294967295 ^^^ n) h
  unfold crcNot at this
  simpa only [xor_inv] using this
/-- By one byte the sum is another one. -/
theorem crcOn_one (p q : List UInt8) (x y : UInt8) (h : crcOn 0 (p ++ x :: q) = crcOn 0 (p ++ y :: q)) : x = y := by
  unfold crcOn at h
  have h0 := crcNot_inj h
  rw [List.foldl_append, List.foldl_append, List.foldl_cons, List.foldl_cons] at h0
  have hp := crcFold_lt (crcNot_lt (s := 0) (by decide)) p
  have h1 := crcFold_inj q (crcByte_lt hp x) (crcByte_lt hp y) h0
  have h2 := crcByte_inj hp hp h1
  have h3 := congrArg (fun n => (p.foldl crcByte (crcNot 0)) ^^^ n) h2
  simp only [xor_inv] at h3
  exact UInt8.toNat_inj.1 h3
theorem le4_inj {s t : Nat} (hs : s < 4294967296) (ht : t < 4294967296) (a : List UInt8) (h : a ++ leBytes 2 s ++ leBytes 2 (s / 65536) = a ++ leBytes 2 t ++ leBytes 2 (t / 65536)) : s = t := by
  rw [List.append_assoc, List.append_assoc] at h
  have h1 := List.append_cancel_left h
  simp only [leBytes, List.cons_append, List.nil_append, List.cons.injEq, and_true] at h1
  obtain ⟨e1, e2, e3, e4⟩ := h1
  have f1 := congrArg UInt8.toNat e1
  have f2 := congrArg UInt8.toNat e2
  have f3 := congrArg UInt8.toNat e3
  have f4 := congrArg UInt8.toNat e4
  simp at f1 f2 f3 f4
  omega
theorem sized_one {B : List UInt8} {q : Nat} (hq : q < B.length) {y : UInt8} (hy : y ≠ B[q]) : sizedM (B.set q y) ≠ sizedM B := by
  intro h
  unfold sizedM at h
  rw [List.length_set] at h
  have h1 : sumM (B.set q y) = sumM B := le4_inj (crcOn_lt (crcOn_lt (by decide) _) _) (crcOn_lt (crcOn_lt (by decide) _) _) _ h
  rw [sumM_eq, sumM_eq, List.length_set] at h1
  have e1 : B.set q y = B.take q ++ y :: B.drop (q + 1) := List.set_eq_take_append_cons_drop .. |>.trans (by rw [if_pos hq])
  have e2 : B = B.take q ++ B[q] :: B.drop (q + 1) := by rw [← List.drop_eq_getElem_cons hq, List.take_append_drop]
  rw [e1] at h1
  rw [show crcOn 0 (leBytes 2 B.length ++ B) = crcOn 0 (leBytes 2 B.length ++ (B.take q ++ B[q] :: B.drop (q + 1))) by rw [← e2]] at h1
  rw [← List.append_assoc, ← List.append_assoc] at h1
  exact hy (crcOn_one _ _ _ _ h1)
/-- A frame with one byte turned behind its length. -/
theorem cut_one (B r : List UInt8) (hB : fits B) (p : Nat) (h2 : 2 ≤ p) (hp : p < 6 + B.length) (y : UInt8) (hy : ∀ h : p < (frameM B ++ r).length, y ≠ (frameM B ++ r)[p]) : (cutM ((frameM B ++ r).set p y)).2.2 = 3 := by
  have hl : (frameM B ++ r).length = 6 + B.length + r.length := by rw [List.length_append, frameM_length]
  have hyp := hy (by omega)
  have ht2 : ((frameM B ++ r).set p y).take 2 = (frameM B ++ r).take 2 := by
    rw [List.take_set, List.set_eq_of_length_le (by rw [List.length_take]; omega)]
  have hn : leNum (((frameM B ++ r).set p y).take 2) = B.length := by rw [ht2, frameM_take2, le2 _ (by unfold fits at hB; omega)]
  unfold fits at hB
  unfold cutM
  rw [hn, List.length_set, if_neg (by omega), if_neg (by omega), if_neg (by omega)]
  have ht6 := frameM_take6 B r
  have hd6 := frameM_drop6 B r
  rw [if_pos]
  by_cases h6 : p < 6
  · have e1 : ((frameM B ++ r).set p y).drop 6 = B ++ r := by rw [List.drop_set, if_pos h6, hd6]
    rw [e1, List.take_append_of_le_length (Nat.le_refl _), List.take_length, List.take_set, ht6]
    intro e
    have hps : p < (sizedM B).length := by rw [sizedM_length]; exact h6
    have e2 : (sizedM B)[p] = y := by
      have := congrArg (fun l : List UInt8 => l[p]?) e
      simp only [List.getElem?_set, hps, List.getElem?_eq_getElem hps, if_true] at this
      simpa using this
    have e3 : (frameM B ++ r)[p]'(by omega) = (sizedM B)[p] := by
      have h1 : ((frameM B ++ r).take 6)[p]? = some ((frameM B ++ r)[p]'(by omega)) := by rw [List.getElem?_take, if_pos h6, List.getElem?_eq_getElem (by omega)]
      rw [ht6, List.getElem?_eq_getElem hps] at h1
      injection h1 with h1
      exact h1.symm
    exact hyp (by rw [e3, e2])
  · obtain ⟨q, hq⟩ : ∃ q, p = 6 + q := ⟨p - 6, by omega⟩
    have e1 : ((frameM B ++ r).set p y).drop 6 = B.set q y ++ r := by
      rw [List.drop_set, if_neg h6, hd6, hq, Nat.add_sub_cancel_left, List.set_append, if_pos (by omega)]
    have e0 : ((frameM B ++ r).set p y).take 6 = sizedM B := by rw [List.take_set, ht6, List.set_eq_of_length_le (by rw [sizedM_length]; omega)]
    have e4 : (B.set q y ++ r).take B.length = B.set q y := by
      rw [List.take_append_of_le_length (by rw [List.length_set]; exact Nat.le_refl _), List.take_of_length_le (by rw [List.length_set]; exact Nat.le_refl _)]
    rw [e1, e0, e4]
    refine sized_one (by omega) (fun e => hyp ?_)
    have h1 : ((frameM B ++ r).drop 6)[q]? = some ((frameM B ++ r)[p]'(by omega)) := by rw [List.getElem?_drop, ← hq, List.getElem?_eq_getElem (by omega)]
    rw [hd6, List.getElem?_append_left (by omega), List.getElem?_eq_getElem (show q < B.length by omega)] at h1
    injection h1 with h1
    rw [e, h1]
theorem framesF_err : ∀ (k : Nat) (b : List UInt8), (framesF k b).err = 0 ∨ (framesF k b).err = 3
  | 0, b => by simp [framesF]
  | k + 1, b => by
    unfold framesF
    by_cases hb : b = []
    · rw [if_pos hb]; simp
    · rw [if_neg hb]
      by_cases hc : (cutM b).2.2 = 0
      · rw [if_pos hc]; exact framesF_err k _
      · rw [if_neg hc]
        by_cases h2 : (cutM b).2.2 = 2
        · rw [if_pos h2]; simp
        · rw [if_neg h2]
          rcases cutM_err b with h | h | h
          · exact absurd h hc
          · exact absurd h h2
          · right; exact h
/-- What a log tells of which one byte was turned. -/
theorem spoilt (A : List (List UInt8)) (hA : ∀ b ∈ A, fits b) (at_ k : Nat) (y : UInt8) (hat : at_ < (framed A).length) (hy : y ≠ (framed A)[at_]) (hk : k < A.length) (h1 : (framed (A.take k)).length ≤ at_) (h2 : at_ < (framed (A.take (k + 1))).length) :
    ∃ r, (framesM ((framed A).set at_ y)).all = A.take k ++ r ∧ ((framesM ((framed A).set at_ y)).err = 0 ∨ (framesM ((framed A).set at_ y)).err = 3) ∧ (2 ≤ at_ - (framed (A.take k)).length → (framesM ((framed A).set at_ y)).err = 3) := by
  have e : framed A = framed (A.take k) ++ (frameM A[k] ++ framed (A.drop (k + 1))) := by
    rw [← framed_cons, ← List.drop_eq_getElem_cons hk, ← framed_append, List.take_append_drop]
  obtain ⟨p, hp⟩ : ∃ p, at_ = (framed (A.take k)).length + p := ⟨at_ - (framed (A.take k)).length, by omega⟩
  have hs : A.take (k + 1) = A.take k ++ [A[k]] := by rw [List.take_add_one, List.getElem?_eq_getElem hk]; rfl
  have hpl : p < 6 + A[k].length := by
    rw [hs, framed_append, List.length_append, framed_one, frameM_length] at h2; omega
  have hset : (framed A).set at_ y = framed (A.take k) ++ (frameM A[k] ++ framed (A.drop (k + 1))).set p y := by
    rw [e, List.set_append, if_neg (by omega), hp, Nat.add_sub_cancel_left]
  have hfr := framesM_app (A.take k) (fun b hb => hA b (List.mem_of_mem_take hb)) ((frameM A[k] ++ framed (A.drop (k + 1))).set p y)
  rw [hset, hfr]
  refine ⟨_, rfl, framesF_err _ _, fun hd => ?_⟩
  have hc := cut_one A[k] (framed (A.drop (k + 1))) (hA _ (List.getElem_mem hk)) p (by omega) hpl y (fun hlt e2 => hy (by
    have h3 : (framed A)[at_]? = some y := by
      rw [e, List.getElem?_append_right (by omega), hp, Nat.add_sub_cancel_left, List.getElem?_eq_getElem hlt, ← e2]
    rw [List.getElem?_eq_getElem hat] at h3
    injection h3 with h3
    exact h3.symm))
  have hne : (frameM A[k] ++ framed (A.drop (k + 1))).set p y ≠ [] := fun e3 => by
    have := congrArg List.length e3
    rw [List.length_set, List.length_append, frameM_length] at this
    simp at this
  show (framesM _).err = 3
  rw [framesM_bad (by rw [hc]; simp) (by rw [hc]; simp) hne]
  exact hc
/-- Opened. -/
theorem open_spoilt (p : List UInt8) (hp : p.length ≤ 500000) : (openM 1048576 (segM p 0 false) 0).err = (framesM p).err ∧ ((framesM p).err = 0 → (openM 1048576 (segM p 0 false) 0).A = (framesM p).all) := by
  have hle := (framesM_le p).2
  have hq : ∀ l, (p.take l).length ≤ p.length := fun l => by rw [List.length_take]; omega
  unfold openM
  rw [segM_del, segM_top]
  show (openF 1048576 0 1 (segM p 0 false) 0 []).err = _ ∧ (_ → (openF 1048576 0 1 (segM p 0 false) 0 []).A = _)
  unfold openF
  rw [segM_b]
  by_cases he : (framesM p).err = 0
  · rw [if_neg (by simpa using he), if_neg (by simp)]
    by_cases ht : (framesM p).torn = false
    · rw [if_pos ht]
      exact ⟨by rw [he]; rfl, fun _ => by simp [openF]⟩
    · rw [if_neg ht, mend_one p (p.take (framesM p).len) 0 false (by have := hq (framesM p).len; omega), if_neg (by simp)]
      exact ⟨by rw [he]; rfl, fun _ => by simp [openF]⟩
  · rw [if_pos he]
    exact ⟨rfl, fun h => absurd h he⟩
end Go.Proofs.Ytcjlgdldhcbcjaa
