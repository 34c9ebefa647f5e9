import Derived.Test.YtcmlgmiomcegeaaGreatMem
namespace Go.Proofs.YtcmlgmiomcegeaaGreat
open Go.RowKit Go.Maps
set_option linter.unusedVariables false
set_option linter.unusedSimpArgs false

def crcStep (n : Nat) : Nat := if n % 2 = 1 then (n / 2) ^^^ 2197175160 else n / 2
def crcUp : Nat → Nat → Nat
  | 0, n => n
  | k + 1, n => crcStep (crcUp k n)
def crcByte (s : Nat) (x : UInt8) : Nat := crcUp 8 (s ^^^ x.toNat)
def crcNot (s : Nat) : Nat := 4294967295 ^^^ s
def crcOn (s : Nat) (bs : List UInt8) : Nat := crcNot (bs.foldl crcByte (crcNot s))

theorem xor32 {a b : Nat} (ha : a < 4294967296) (hb : b < 4294967296) : a ^^^ b < 4294967296 := Nat.xor_lt_two_pow (n := 32) ha hb
theorem crcStep_lt {n : Nat} (h : n < 4294967296) : crcStep n < 4294967296 := by
  unfold crcStep; split
  · exact xor32 (by omega) (by decide)
  · omega
theorem crcUp_lt {n : Nat} (h : n < 4294967296) : ∀ k, crcUp k n < 4294967296
  | 0 => h
  | k + 1 => crcStep_lt (crcUp_lt h k)
theorem crcByte_lt {s : Nat} (h : s < 4294967296) (x : UInt8) : crcByte s x < 4294967296 :=
  crcUp_lt (xor32 h (by have := x.toNat_lt; omega)) 8
theorem crcNot_lt {s : Nat} (h : s < 4294967296) : crcNot s < 4294967296 := xor32 (by decide) h
theorem crcFold_lt {s : Nat} (h : s < 4294967296) : ∀ bs : List UInt8, bs.foldl crcByte s < 4294967296 := by
  intro bs
  induction bs generalizing s with
  | nil => exact h
  | cons b r ih => exact ih (crcByte_lt h b)
theorem crcOn_lt {s : Nat} (h : s < 4294967296) (bs : List UInt8) : crcOn s bs < 4294967296 := crcNot_lt (crcFold_lt (crcNot_lt h) bs)

theorem bitx (m : Nat) (hm : m < 4294967296) : bits .xor .u32 ((m : Int) / 2) 2197175160 = ((m / 2 ^^^ 2197175160 : Nat) : Int) := by
  have := u32_xor_nat (m / 2) 2197175160 (by omega) (by decide)
  simpa using this
theorem bita (m : Nat) (hm : m < 4294967296) : bits .and .u32 (m : Int) 1 = ((m % 2 : Nat) : Int) := by
  have := u32_and_nat m 1 (by omega) (by decide)
  rw [nat_mask1] at this
  simpa using this

set_option maxRecDepth 100000 in
set_option maxHeartbeats 1000000 in
theorem bits_any (s : Nat) (x : UInt8) (hs : s < 4294967296) (w : World) :
    Calls Tryz.prog 419 #[.int .u32 s, .int .u8 (x.toNat : Int)] w fun e w' => e = .returned (.int .u32 (crcByte s x : Nat)) ∧ w = w' := by
  have hx := x.toNat_lt
  have hb : Hid (bits .xor .u32 (s : Int) (x.toNat : Int) = ((s ^^^ x.toNat : Nat) : Int)) := u32_xor_nat s x.toNat hs (by omega)
  have hd : Hid (crcByte s x = crcUp 8 (s ^^^ x.toNat)) := rfl
  have hl : Hid (∀ k, crcUp k (s ^^^ x.toNat) < 4294967296) := crcUp_lt (xor32 hs (by omega))
  obtain ⟨n0, hn0⟩ : ∃ n0, s ^^^ x.toNat = n0 := ⟨_, rfl⟩
  obtain ⟨r, hr⟩ : ∃ r, crcByte s x = r := ⟨_, rfl⟩
  obtain ⟨xn, hxn⟩ : ∃ xn, x.toNat = xn := ⟨_, rfl⟩
  rw [hr]
  rw [hr, hn0] at hd
  rw [hn0] at hl hb
  rw [hxn] at hb hx ⊢
  clear hr hn0 hxn
  go_enter Tryz.func419, Tryz.ntmps419
  go_wp2
  rw [hb.out]
  go_loop [0, 10] (fun s i => ∃ (k n : Nat), k ≤ 8 ∧ i = .int .i64 k ∧ s = .int .u32 n ∧ Hid (n = crcUp k n0)) (fun _ i => 8 - (intOf i).toNat)
  case atStart => exact ⟨0, n0, by omega, rfl, rfl, rfl⟩
  case round =>
    obtain ⟨k, n, hk, rfl, rfl, hn⟩ := hrel
    by_cases hlt : k < 8
    · have hnl : n < 4294967296 := by rw [hn.out]; exact hl.out k
      have hX := Lib.hid (bitx n hnl)
      have hA := bita n hnl
      by_cases hp : n % 2 = 1
      · have hT : (bits .and .u32 (n : Int) 1 == 1) = true := by rw [hA, hp]; rfl
        have hS : Hid (crcUp (k + 1) n0 = n / 2 ^^^ 2197175160) := by rw [Hid, crcUp, ← hn.out, crcStep, if_pos hp]
        clear hA hp
        go_wp2
        refine ⟨⟨k + 1, n / 2 ^^^ 2197175160, by omega, by go_num, by rw [hX.out], hS.out.symm⟩, by simp [intOf]; omega⟩
      · have hT : (bits .and .u32 (n : Int) 1 == 1) = false := by
          rw [hA, show n % 2 = 0 by omega]; rfl
        have hS : Hid (crcUp (k + 1) n0 = n / 2) := by rw [Hid, crcUp, ← hn.out, crcStep, if_neg hp]
        clear hA hp
        go_wp2
        refine ⟨⟨k + 1, n / 2, by omega, by go_num, by go_num, hS.out.symm⟩, by simp [intOf]; omega⟩
    · have hk8 : Hid (r = n) := by
        have e : k = 8 := by omega
        have := hn.out; rw [e] at this; rw [Hid, hd.out, this]
      go_wp2
      go_ret
      exact ⟨ret_i (by rw [hk8.out]), rfl⟩

theorem bitn (m : Nat) (hm : m < 4294967296) : bits .xor .u32 IntKind.u32.max (m : Int) = ((crcNot m : Nat) : Int) := by
  have := u32_xor_nat 4294967295 m (by decide) hm
  have e : IntKind.u32.max = ((4294967295 : Nat) : Int) := by decide
  rw [e, this]; rfl

set_option maxRecDepth 100000 in
set_option maxHeartbeats 1000000 in
theorem on_any (s : Nat) (hs : s < 4294967296) (v : Value) (bs : List UInt8) (w : World) (hv : SlB w v bs) :
    Calls Tryz.prog 316 #[.int .u32 s, v] w fun e w' => e = .returned (.int .u32 (crcOn s bs : Nat)) ∧ w = w' := by
  obtain ⟨a, cap, rfl, hcap, hm⟩ := hv.shape
  have hlim := hv.1
  have hN := Lib.hid (bitn s hs)
  have hnl := crcNot_lt hs
  unfold lim at hlim
  have hF : Hid (∀ l : List UInt8, l.foldl crcByte (crcNot s) < 4294967296) := crcFold_lt hnl
  have hR : Hid (crcOn s bs = crcNot (bs.foldl crcByte (crcNot s))) := rfl
  obtain ⟨q, hq⟩ : ∃ q, crcNot s = q := ⟨_, rfl⟩
  obtain ⟨r, hr⟩ : ∃ r, crcOn s bs = r := ⟨_, rfl⟩
  rw [hq] at hN hF hR hnl
  rw [hr] at hR ⊢
  clear hq hr hm
  have hV := Lib.hid hv; clear hv
  go_enter Tryz.func316, Tryz.ntmps316
  go_wp2
  rw [hN.out]
  go_loop [5, 12] (fun s i => ∃ (k n : Nat), k ≤ bs.length ∧ i = .int .i64 k ∧ s = .int .u32 n ∧ Hid (n = (bs.take k).foldl crcByte q)) (fun _ i => bs.length - (intOf i).toNat)
  case atStart => exact ⟨0, q, by omega, rfl, rfl, by simp [Hid]⟩
  case round =>
    obtain ⟨k, n, hk, rfl, rfl, hn⟩ := hrel
    by_cases hlt : k < bs.length
    · have hnl : n < 4294967296 := by rw [hn.out]; exact hF.out _
      rcases hV.out.2 with ⟨_, h⟩ | ⟨b, o, cap', h, h1, h2, h3, h4⟩
      · rw [h] at hlt; simp at hlt
      · simp only [Value.slice.injEq, true_and] at h
        obtain ⟨rfl, rfl⟩ := h
        have hc := h4 k hlt
        obtain ⟨ch, hch⟩ : ∃ ch, bs[k] = ch := ⟨_, rfl⟩
        rw [hch] at hc
        have hS : Hid ((bs.take (k + 1)).foldl crcByte q = crcByte n ch) := by
          rw [Hid, List.take_succ_eq_append_getElem hlt, List.foldl_append, ← hn.out, hch]; rfl
        clear hch h4 h1 h2 h3
        go_wp2_with (first | (go_at_call 419; refine (bits_any n ch hnl _).mono ?_; rintro e w' ⟨rfl, rfl⟩))
        exact ⟨⟨k + 1, crcByte n ch, by omega, by go_num, rfl, hS.out.symm⟩, by simp [intOf]; omega⟩
    · have hk8 : Hid (r = crcNot n) := by
        have e : k = bs.length := by omega
        have := hn.out; rw [e, List.take_length] at this; rw [Hid, hR.out, this]
      have hnl : n < 4294967296 := by rw [hn.out]; exact hF.out _
      have hB := Lib.hid (bitn n hnl)
      go_wp2
      go_ret
      exact ⟨ret_i (by rw [hk8.out, hB.out]), rfl⟩

set_option maxRecDepth 100000 in
set_option maxHeartbeats 1000000 in
theorem of_any (v : Value) (bs : List UInt8) (w : World) (hv : SlB w v bs) :
    Calls Tryz.prog 230 #[v] w fun e w' => e = .returned (.int .u32 (crcOn 0 bs : Nat)) ∧ w = w' := by
  have hc := Lib.hid (on_any 0 (by decide) v bs w hv)
  go_enter Tryz.func230, Tryz.ntmps230
  go_wp2_with (first | (go_at_call 316; refine hc.out.mono ?_; rintro e w' ⟨rfl, rfl⟩))
  go_ret
  exact ⟨rfl, rfl⟩
end Go.Proofs.YtcmlgmiomcegeaaGreat
