/- The document's Sum in plain numbers: bit by bit it is Castagnoli's. No condition. -/
import Derived.Test.YtcjlgdldhcbcjaaRCut
namespace Go.Proofs.Ytcjlgdldhcbcjaa
open Go.RowKit Go.Maps
set_option linter.unusedVariables false
set_option linter.unusedSimpArgs false

def polyN : Nat := 2197175160
def bitStep (n : Nat) (b : Bool) : Nat := if (n.testBit 0 != b) = true then n / 2 ^^^ polyN else n / 2
def foldBits (u y : Nat) : Nat → Nat
  | 0 => u
  | k + 1 => bitStep (foldBits u y k) (y.testBit k)
theorem xor_div2 (a b : Nat) : (a ^^^ b) / 2 = a / 2 ^^^ b / 2 := by
  have h := Nat.shiftRight_xor_distrib (a := a) (b := b) (i := 1)
  rw [Nat.shiftRight_eq_div_pow, Nat.shiftRight_eq_div_pow, Nat.shiftRight_eq_div_pow, Nat.pow_one] at h
  exact h
theorem crcStep_bit (u y : Nat) : crcStep (u ^^^ y) = bitStep u (y.testBit 0) ^^^ (y / 2) := by
  unfold crcStep bitStep
  have h0 : ((u ^^^ y) % 2 = 1) ↔ ((u.testBit 0 != y.testBit 0) = true) := by
    have h1 : decide ((u ^^^ y) % 2 = 1) = (u.testBit 0 ^^ y.testBit 0) := by rw [← Nat.testBit_zero, Nat.testBit_xor]
    have h2 : (u.testBit 0 != y.testBit 0) = (u.testBit 0 ^^ y.testBit 0) := by cases u.testBit 0 <;> cases y.testBit 0 <;> rfl
    rw [h2, ← h1]; simp
  by_cases h : (u.testBit 0 != y.testBit 0) = true
  · rw [if_pos (h0.2 h), if_pos h, xor_div2, Nat.xor_assoc, Nat.xor_assoc, Nat.xor_comm (y / 2) _]
    rfl
  · rw [if_neg (fun q => h (h0.1 q)), if_neg h, xor_div2]
theorem crcUp_bits (u y : Nat) : ∀ k, crcUp k (u ^^^ y) = foldBits u y k ^^^ (y / 2 ^ k)
  | 0 => by simp [crcUp, foldBits]
  | k + 1 => by
    unfold crcUp foldBits
    rw [crcUp_bits u y k, crcStep_bit]
    have h1 : (y / 2 ^ k).testBit 0 = y.testBit k := by
      rw [← Nat.shiftRight_eq_div_pow, Nat.testBit_shiftRight]; simp
    have h2 : y / 2 ^ k / 2 = y / 2 ^ (k + 1) := by rw [Nat.div_div_eq_div_mul, Nat.pow_succ]
    rw [h1, h2]
theorem crcByte_bits (u : Nat) (c : UInt8) : crcByte u c = foldBits u c.toNat 8 := by
  unfold crcByte
  rw [crcUp_bits]
  have : c.toNat / 2 ^ 8 = 0 := Nat.div_eq_of_lt (by have := c.toNat_lt; omega)
  rw [this, Nat.xor_zero]
/-- The register behind so many bits. -/
def bitAt (bs : List UInt8) (i : Nat) : Bool := ((bs[i / 8]?).getD 0).toNat.testBit (i % 8)
def stT (bs : List UInt8) : Nat → Nat
  | 0 => 4294967295
  | i + 1 => bitStep (stT bs i) (bitAt bs i)
theorem stT_in (bs : List UInt8) (k : Nat) (hk : k < bs.length) : ∀ j, j ≤ 8 → stT bs (8 * k + j) = foldBits (stT bs (8 * k)) (bs[k].toNat) j
  | 0, _ => rfl
  | j + 1, h => by
    show bitStep (stT bs (8 * k + j)) (bitAt bs (8 * k + j)) = _
    rw [stT_in bs k hk j (by omega)]
    have hb : bitAt bs (8 * k + j) = bs[k].toNat.testBit j := by
      unfold bitAt
      rw [show (8 * k + j) / 8 = k by omega, show (8 * k + j) % 8 = j by omega, List.getElem?_eq_getElem hk]; rfl
    rw [hb]; rfl
theorem stT_bytes (bs : List UInt8) : ∀ k, k ≤ bs.length → stT bs (8 * k) = (bs.take k).foldl crcByte 4294967295
  | 0, _ => by simp [stT]
  | k + 1, h => by
    rw [show 8 * (k + 1) = 8 * k + 8 by omega, stT_in bs k (by omega) 8 (by omega), stT_bytes bs k (by omega), ← crcByte_bits, List.take_succ_eq_append_getElem (by omega), List.foldl_append]
    rfl
theorem sum_final (bs : List UInt8) : crcNot (stT bs (8 * bs.length)) = crcOn 0 bs := by
  rw [stT_bytes bs bs.length (Nat.le_refl _), List.take_length]
  unfold crcOn
  rw [show crcNot 0 = 4294967295 by decide]
/-! ### The register in memory -/
def RegF (w : World) (rb : Nat) (f : Nat → Bool) : Prop := ∃ cs ty, w.heap[rb]? = some (.cells cs ty (0, 0)) ∧ cs.size = 32 ∧ ∀ i, i < 32 → cs[i]? = some (.bool (f i))
theorem RegF.cell {w : World} {rb : Nat} {f : Nat → Bool} (h : RegF w rb f) {i : Nat} (hi : i < 32) : w.cell? ⟨rb, i, none⟩ = some (.bool (f i)) ∧ w.frozen? ⟨rb, i, none⟩ = false := by
  obtain ⟨cs, ty, h1, h2, h3⟩ := h
  exact ⟨by rw [blk_cell h1 i, h3 i hi], blk_free h1 i⟩
theorem RegF.set {w : World} {rb : Nat} {f : Nat → Bool} (h : RegF w rb f) {i : Nat} (hi : i < 32) (b : Bool) : RegF (w.setCell ⟨rb, i, none⟩ (.bool b)) rb (fun k => if k = i then b else f k) := by
  obtain ⟨cs, ty, h1, h2, h3⟩ := h
  refine ⟨_, ty, blk_set h1 i (.bool b), by simpa using h2, fun k hk => ?_⟩
  by_cases e : k = i
  · subst e
    simp [h2, hk]
  · simp only [e, if_false]
    rw [Array.getElem?_setIfInBounds_ne (by omega)]
    exact h3 k hk
theorem RegF.keep {w w' : World} {rb : Nat} {f : Nat → Bool} (h : RegF w rb f) (t : Tch No w w') : RegF w' rb f := by
  obtain ⟨cs, ty, h1, h2, h3⟩ := h
  exact ⟨cs, ty, blk_tch t h1 (fun h => h), h2, h3⟩
theorem RegF.congr {w : World} {rb : Nat} {f g : Nat → Bool} (h : RegF w rb f) (e : ∀ i, i < 32 → f i = g i) : RegF w rb g := by
  obtain ⟨cs, ty, h1, h2, h3⟩ := h
  exact ⟨cs, ty, h1, h2, fun i hi => by rw [h3 i hi, e i hi]⟩
def polyL : List Nat := [0, 6, 8, 9, 10, 11, 13, 14, 18, 19, 20, 22, 23, 25, 26, 27, 28]
/-- The polynomial's first k powers. -/
def polyK : Nat → Nat
  | 0 => 0
  | k + 1 => polyK k ^^^ 2 ^ (31 - (polyL[k]?).getD 0)
theorem polyK_all : polyK 17 = polyN := by decide
theorem bit31 {n : Nat} (h : n < 4294967296) : (n / 2).testBit 31 = false := Nat.testBit_lt_two_pow (by omega)
theorem bit_half (n i : Nat) : (n / 2).testBit i = n.testBit (i + 1) := by rw [Nat.testBit_succ]
theorem flip_bit (m p i : Nat) : (if i = p then !(m.testBit p) else m.testBit i) = (m ^^^ 2 ^ p).testBit i := by
  rw [Nat.testBit_xor, Nat.testBit_two_pow]
  by_cases h : i = p
  · subst h; simp
  · rw [if_neg h]; simp [show ¬ p = i from fun e => h e.symm]
theorem bitStep_lt {n : Nat} (h : n < 4294967296) (b : Bool) : bitStep n b < 4294967296 := by
  unfold bitStep
  split
  · exact xor32 (by omega) (by decide)
  · omega
theorem stT_lt (bs : List UInt8) : ∀ i, stT bs i < 4294967296
  | 0 => show (4294967295 : Nat) < 4294967296 by decide
  | i + 1 => bitStep_lt (stT_lt bs i) _
/-- The number that is put together bit by bit. -/
theorem not_bit {n i : Nat} (hn : n < 4294967296) (hi : i < 32) : (crcNot n).testBit i = !(n.testBit i) := by
  unfold crcNot
  rw [Nat.testBit_xor, show (4294967295 : Nat) = 2 ^ 32 - 1 by decide, Nat.testBit_two_pow_sub_one]
  simp [hi]
theorem low_bit (m i : Nat) : m % 2 ^ (i + 1) = if m.testBit i then m % 2 ^ i + 2 ^ i else m % 2 ^ i := by
  rw [Nat.mod_pow_succ, ← Nat.shiftRight_eq_div_pow]
  have h1 : m >>> i % 2 = (m.testBit i).toNat := by
    rw [Nat.testBit, Nat.and_comm, Nat.and_one_is_mod]
    rcases Nat.mod_two_eq_zero_or_one (m >>> i) with h | h <;> simp [h]
  rw [h1]
  cases m.testBit i <;> simp
end Go.Proofs.Ytcjlgdldhcbcjaa
