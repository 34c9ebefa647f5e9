/- The document's Cut where bytes are not whole; cuts there. No condition. -/
import Derived.Test.YtcjlgdldhcbcjaaOwn4
import Derived.Test.YtcjlgdldhcbcjaaMake
import Derived.BigQuiet
namespace Go.Proofs.Ytcjlgdldhcbcjaa
open Go.RowKit Go.Maps
set_option linter.unusedVariables false
set_option linter.unusedSimpArgs false

theorem leNum2 {bs : List UInt8} (h : 2 ≤ bs.length) : leNum (bs.take 2) = bs[0].toNat + 256 * bs[1].toNat := by
  match bs, h with
  | a :: b :: r, _ => simp [leNum]
set_option maxRecDepth 100000 in
set_option maxHeartbeats 1000000 in
theorem rcut_more (v : Value) (bs : List UInt8) (w : World) (h : SlB w v bs) (hm : (cutM bs).2.2 = 2) : Calls Try.prog 42 #[v] w fun e w' => e = .returned (.tuple #[.slice none 0 0, .int .i64 0, .int .i64 2]) ∧ Tch No w w' := by
  obtain ⟨a, cap, rfl, hc, hmx⟩ := h.shape
  have H := Lib.hid h
  have hl := h.1
  unfold lim at hl
  obtain ⟨n, hn⟩ : ∃ n, bs.length = n := ⟨_, rfl⟩
  have N := Lib.hid hn
  rw [hn] at hc hl ⊢
  by_cases h2 : n < 2
  · have p1 : ¬ 2 ≤ (n : Int) := by omega
    clear h hn hm
    go_enter Try.func42, Try.ntmps42
    go_wp2_with fail
    go_ret3
    exact ⟨rfl, Tch.refl _ _⟩
  · have p1 : 2 ≤ (n : Int) := by omega
    have hln := leNum2 (bs := bs) (by omega)
    obtain ⟨m, hmm⟩ : ∃ m, leNum (bs.take 2) = m := ⟨_, rfl⟩
    have hr : 1 ≤ m ∧ m ≤ 4000 ∧ n < 6 + m := by
      unfold cutM at hm
      rw [hn, hmm, if_neg h2] at hm
      split at hm
      · simp at hm
      split at hm
      · omega
      split at hm <;> simp at hm
    rw [hmm] at hln
    obtain ⟨g, o, ha⟩ : ∃ g o, a = some ⟨g, o, none⟩ := by
      rcases h.2 with ⟨_, h'⟩ | ⟨g, o, d, h', _⟩
      · rw [h'] at hn; simp at hn; omega
      · injection h' with h'; exact ⟨g, o, h'⟩
    subst ha
    obtain ⟨y0, y1⟩ : w.cell? ⟨g, o, none⟩ = some (.int .u8 ((bs[0]'(by omega)).toNat : Int)) ∧ w.cell? ⟨g, o + 1, none⟩ = some (.int .u8 ((bs[1]'(by omega)).toNat : Int)) := by
      rcases h.2 with ⟨h', _⟩ | ⟨g', o', d, h', _, _, _, x1⟩
      · cases h'
      · simp only [Value.slice.injEq, Option.some.injEq, Addr.mk.injEq, and_true] at h'
        obtain ⟨⟨rfl, rfl⟩, _⟩ := h'
        exact ⟨x1 0 (by omega), x1 1 (by omega)⟩
    obtain ⟨e0, he0⟩ : ∃ e0, (bs[0]'(by omega)).toNat = e0 := ⟨_, rfl⟩
    obtain ⟨e1, he1⟩ : ∃ e1, (bs[1]'(by omega)).toNat = e1 := ⟨_, rfl⟩
    have hb0 : e0 < 256 := by rw [← he0]; exact UInt8.toNat_lt _
    have hb1 : e1 < 256 := by rw [← he1]; exact UInt8.toNat_lt _
    rw [he0] at y0 hln
    rw [he1] at y1 hln
    have E1 : IntKind.i64.wrap (256 * (e1 : Int)) = 256 * (e1 : Int) := IntWalk.i64_in _ ⟨by omega, by omega⟩
    have E2 : IntKind.i64.wrap ((e0 : Int) + 256 * (e1 : Int)) = (m : Int) := by rw [IntWalk.i64_in _ ⟨by omega, by omega⟩]; omega
    have E3 : IntKind.i64.wrap (e0 : Int) = (e0 : Int) := IntWalk.i64_in _ ⟨by omega, by omega⟩
    have E4 : IntKind.i64.wrap (e1 : Int) = (e1 : Int) := IntWalk.i64_in _ ⟨by omega, by omega⟩
    have q1 : ¬ (m : Int) < 1 := by omega
    have q2 : ¬ 4000 < (m : Int) := by omega
    have q3 : ¬ 6 + (m : Int) ≤ (n : Int) := by omega
    have q4 : (1 : Int) < (n : Int) := by omega
    have q5 : (0 : Int) < (n : Int) := by omega
    clear h hn hm he0 he1 hmm
    go_enter Try.func42, Try.ntmps42
    go_wp2_with fail
    go_quiet (fail)
    go_wp2_with fail
    go_ret3
    exact ⟨rfl, tch_drewN _ _⟩
set_option maxRecDepth 100000 in
set_option maxHeartbeats 1000000 in
theorem cuts_more (v : Value) (bs : List UInt8) (w : World) (h : SlB w v bs) (hm : (cutM bs).2.2 = 2) : Calls Try.prog 20 #[v] w fun e w' => e = .returned (.bool true) ∧ Tch No w w' := by
  obtain ⟨a, m, cap, rfl, hmx⟩ := h.shape'
  have H := Lib.hid h
  have HM := Lib.hid hm
  have hcu : cutM bs = ([], 0, 2) := by
    unfold cutM at hm ⊢
    split
    · rfl
    · next h1 =>
      rw [if_neg h1] at hm
      split
      · next h2 => rw [if_pos h2] at hm; simp at hm
      · next h2 =>
        rw [if_neg h2] at hm
        split
        · rfl
        · next h3 =>
          rw [if_neg h3] at hm
          split at hm <;> simp at hm
  have hcut := Lib.hid (scut_any _ bs w h)
  have HC := Lib.hid hcu
  clear h hm hcu hmx
  go_enter Try.func20, Try.ntmps20
  go_wp2_with fail
  refine hcut.out.mono ?_
  rintro e w1 ⟨x, rfl, x1, x2, x3⟩
  rw [HC.out] at x1 ⊢
  obtain ⟨ax, mx, cx, rfl, hmx⟩ := x1.shape'
  have X1 := Lib.hid x1; have X3 := Lib.hid x3
  clear x1 x2 x3 hmx hcut
  go_wp2_with fail
  refine (rcut_more _ bs w1 (H.out.tch0 X3.out) HM.out).mono ?_
  rintro e w2 ⟨rfl, t2⟩
  have y1 : (convert 22 9 (.slice ax mx cx)).run Try.prog w2 = .ok (.string ⟨#[]⟩) w2 := str_of (X1.out.tch0 t2)
  have y2 : (convert 22 9 (.slice none 0 0)).run Try.prog w2 = .ok (.string ⟨#[]⟩) w2 := str_of (SlB.nil _)
  have T2 := Lib.hid (X3.out.trans0 t2)
  clear t2 X1 X3 H
  go_wp2_with fail
  go_ret
  exact ⟨rfl, T2.out⟩
end Go.Proofs.Ytcjlgdldhcbcjaa
