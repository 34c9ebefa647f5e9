import Derived.Test.YtcjlgdldhcbcjaaMem
namespace Go.Proofs.Ytcjlgdldhcbcjaa
open Go.RowKit Go.Maps
set_option linter.unusedVariables false
set_option linter.unusedSimpArgs false

def chOk (c : UInt8) : Bool := (decide (97 ≤ c.toNat) && decide (c.toNat ≤ 122)) || (decide (48 ≤ c.toNat) && decide (c.toNat ≤ 57))
def goodB (l : List UInt8) : Bool := l.all chOk && !l.isEmpty && decide (l.length ≤ 12)

theorem goodB_bad {l : List UInt8} {k : Nat} {c : UInt8} (hk : k < l.length) (hc : l[k] = c) (h : chOk c = false) : goodB l = false := by
  have : l.all chOk = false := by
    rw [List.all_eq_false]
    exact ⟨l[k], List.getElem_mem hk, by rw [hc, h]; simp⟩
  simp [goodB, this]
theorem goodB_end {l : List UInt8} (h : l.all chOk = true) : goodB l = (!l.isEmpty && decide (l.length ≤ 12)) := by simp [goodB, h]
theorem all_snoc {l : List UInt8} {k : Nat} {c : UInt8} (hk : k < l.length) (hc : l[k] = c) (h : chOk c = true) (ha : (l.take k).all chOk = true) : (l.take (k + 1)).all chOk = true := by
  rw [List.take_succ_eq_append_getElem hk, List.all_append, ha, hc]; simp [h]

set_option maxRecDepth 100000 in
set_option maxHeartbeats 1000000 in
theorem good_any (s : ByteArray) (w : World) (hlen : s.data.toList.length ≤ lim) :
    Calls Try.prog 51 #[.string s] w fun e w' => e = .returned (.bool (goodB s.data.toList)) ∧ Tch No w w' := by
  go_enter Try.func51, Try.ntmps51
  go_wp2_with (refine wpList_bytesOf _ rfl (.tmp 7) 9 22 5 rfl Try.underlying9 Try.underlying22 Try.underlying5 s rfl hlen ?_; intro b cap w1 hb1 hb2 hb3)
  have hsz : s.size ≤ lim := by simpa using hlen
  have hsl : s.data.toList.length = s.size := rfl
  unfold lim at hsz
  have HB := Lib.hid hb1; clear hb1 hlen
  have HL := Lib.hid hsl; clear hsl
  go_loop [10] (fun i => ∃ k : Nat, k ≤ s.size ∧ i = .int .i64 k ∧ (s.data.toList.take k).all chOk = true) (fun i => s.size - (intOf i).toNat)
  case atStart => exact ⟨0, Nat.zero_le _, rfl, by simp⟩
  case round =>
    obtain ⟨k, hk, rfl, hall⟩ := hrel
    have HA := Lib.hid hall; clear hall
    by_cases hlt : k < s.size
    · have hkl : k < s.data.toList.length := by rw [HL.out]; exact hlt
      obtain ⟨ch, hch⟩ : ∃ ch, s.data.toList[k] = ch := ⟨_, rfl⟩
      have hc : w1.cell? ⟨b, k, none⟩ = some (.int .u8 (ch.toNat : Int)) := by
        rcases HB.out.2 with ⟨h, _⟩ | ⟨b', o', cap', h, h1, h2, h3, h4⟩
        · cases h
        · simp only [Value.slice.injEq, Option.some.injEq, Addr.mk.injEq, and_true] at h
          obtain ⟨⟨rfl, rfl⟩, _, _⟩ := h
          have := h4 k hkl
          rw [hch, Nat.zero_add] at this
          exact this
      have HC := Lib.hid hch; clear hch
      have h5 : ch.toNat < 48 ∨ (48 ≤ ch.toNat ∧ ch.toNat ≤ 57) ∨ (57 < ch.toNat ∧ ch.toNat < 97) ∨ (97 ≤ ch.toNat ∧ ch.toNat ≤ 122) ∨ 122 < ch.toNat := by omega
      obtain ⟨n, hn⟩ : ∃ n, ch.toNat = n := ⟨_, rfl⟩
      rw [hn] at h5 hc
      have HN := Lib.hid hn; clear hn
      rcases h5 with h | ⟨h, h'⟩ | ⟨h, h'⟩ | ⟨h, h'⟩ | h
      · have H : Hid (chOk ch = false) := by have := HN.out; simp [Hid, chOk]; omega
        go_wp2
        go_ret
        exact ⟨ret_b (goodB_bad hkl HC.out H.out).symm, hb3⟩
      · have H : Hid (chOk ch = true) := by have := HN.out; simp [Hid, chOk]; omega
        have d1 : decide ((n : Int) ≤ 57) = true := by simp; omega
        go_wp2
        exact ⟨⟨k + 1, by omega, by go_num, all_snoc hkl HC.out H.out HA.out⟩, by simp [intOf]; omega⟩
      · have H : Hid (chOk ch = false) := by have := HN.out; simp [Hid, chOk]; omega
        have d1 : decide ((n : Int) ≤ 57) = false := by simp; omega
        go_wp2
        go_ret
        exact ⟨ret_b (goodB_bad hkl HC.out H.out).symm, hb3⟩
      · have H : Hid (chOk ch = true) := by have := HN.out; simp [Hid, chOk]; omega
        have d2 : decide ((n : Int) ≤ 122) = true := by simp; omega
        have d1 : decide ((n : Int) ≤ 57) = false := by simp; omega
        go_wp2
        exact ⟨⟨k + 1, by omega, by go_num, all_snoc hkl HC.out H.out HA.out⟩, by simp [intOf]; omega⟩
      · have H : Hid (chOk ch = false) := by have := HN.out; simp [Hid, chOk]; omega
        have d2 : decide ((n : Int) ≤ 122) = false := by simp; omega
        have d1 : decide ((n : Int) ≤ 57) = false := by simp; omega
        go_wp2
        go_ret
        exact ⟨ret_b (goodB_bad hkl HC.out H.out).symm, hb3⟩
    · have hE : Hid (goodB s.data.toList = (!s.toList.isEmpty && decide ((s.size : Int) ≤ 12))) := by
        have hk' : k = s.data.toList.length := by rw [HL.out]; omega
        have := HA.out
        rw [hk', List.take_length] at this
        rw [Hid, goodB_end this, HL.out]
        congr 1
        · cases s; simp [ByteArray.toList_eq]
        · rw [decide_eq_decide]; omega
      by_cases hem : s.toList = []
      · go_wp2
        go_ret
        exact ⟨ret_b (by rw [hE.out, hem]; rfl), hb3⟩
      · have hem' : s.toList.isEmpty = false := by simpa using hem
        go_wp2
        go_ret
        exact ⟨ret_b (by rw [hE.out, hem']; simp), hb3⟩
end Go.Proofs.Ytcjlgdldhcbcjaa
