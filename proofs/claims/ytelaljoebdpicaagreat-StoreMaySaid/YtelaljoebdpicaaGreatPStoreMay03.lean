/- Part 3 of what the proof of StoreMay rests on. No condition. -/
import Derived.Test.YtelaljoebdpicaaGreatPOrderCounts01
import Derived.Test.YtelaljoebdpicaaGreatPOrderCounts02
import Derived.Test.YtelaljoebdpicaaGreatPOrderCounts03
import Derived.Test.YtelaljoebdpicaaGreatPOrderCounts04
import Derived.Test.YtelaljoebdpicaaGreatPOrderCounts05
import Derived.Test.YtelaljoebdpicaaGreatPOrderCounts06
import Derived.Test.YtelaljoebdpicaaGreatPOrderCounts07
import Derived.Test.YtelaljoebdpicaaGreatPOrderCounts08
import Derived.Test.YtelaljoebdpicaaGreatPOrderCounts09
import Derived.Test.YtelaljoebdpicaaGreatPOrderCounts10
import Derived.Test.YtelaljoebdpicaaGreatPOrderCounts11
import Derived.Test.YtelaljoebdpicaaGreatPOrderCounts12
import Derived.Test.YtelaljoebdpicaaGreatPOrderCounts13
import Derived.Test.YtelaljoebdpicaaGreatPOrderCounts14
import Derived.Test.YtelaljoebdpicaaGreatPOrderCounts15
import Derived.Test.YtelaljoebdpicaaGreatPOrderCounts16
import Derived.Test.YtelaljoebdpicaaGreatPOrderCounts17
import Derived.Test.YtelaljoebdpicaaGreatPOrderCounts18
import Derived.Test.YtelaljoebdpicaaGreatPOrderCounts19
import Derived.Test.YtelaljoebdpicaaGreatPOrderCounts20
import Derived.Test.YtelaljoebdpicaaGreatPOrderCounts21
import Derived.Test.YtelaljoebdpicaaGreatPOrderCounts22
import Derived.Test.YtelaljoebdpicaaGreatPOrderCounts23
import Derived.Test.YtelaljoebdpicaaGreatPOrderCounts24
import Derived.Test.YtelaljoebdpicaaGreatPOrderCounts25
import Derived.Test.YtelaljoebdpicaaGreatPOrderCounts26
import Derived.Test.YtelaljoebdpicaaGreatPOrderCounts27
import Derived.Test.YtelaljoebdpicaaGreatPOrderCounts28
import Derived.Test.YtelaljoebdpicaaGreatPOrderCounts29
import Derived.Test.YtelaljoebdpicaaGreatPOrderCounts30
import Derived.Test.YtelaljoebdpicaaGreatPOrderCounts31
import Derived.Test.YtelaljoebdpicaaGreatPOrderCounts32
import Derived.Test.YtelaljoebdpicaaGreatPOrderCounts33
import Derived.Test.YtelaljoebdpicaaGreatPOrderCounts34
import Derived.Test.YtelaljoebdpicaaGreatPOrderCounts35
import Derived.Test.YtelaljoebdpicaaGreatPOrderCounts36
import Derived.Test.YtelaljoebdpicaaGreatPOrderCounts37
import Derived.Test.YtelaljoebdpicaaGreatPOrderCounts38
import Derived.Test.YtelaljoebdpicaaGreatPOrderCounts39
import Derived.Test.YtelaljoebdpicaaGreatPOrderCounts40
import Derived.Test.YtelaljoebdpicaaGreatPOrderCounts41
import Derived.Test.YtelaljoebdpicaaGreatPOrderCounts42
import Derived.Test.YtelaljoebdpicaaGreatPOrderCounts43
import Derived.Test.YtelaljoebdpicaaGreatPOrderCounts44
import Derived.Test.YtelaljoebdpicaaGreatPOrderCounts45
import Derived.Test.YtelaljoebdpicaaGreatPOrderCounts46
import Derived.Test.YtelaljoebdpicaaGreatPStoreMay02
namespace Go.Proofs.YtelaljoebdpicaaGreat
set_option maxRecDepth 100000
set_option maxHeartbeats 60000000
set_option linter.unusedVariables false
set_option linter.unusedSimpArgs false
set_option linter.unusedSectionVars false
section
open Go.RowKit Go.Maps
theorem kb9 {w : World} {b : Nat} {c0 c1 c2 c3 c4 c5 c6 c7 c8 : Value} (h : BoxAt w b [c0, c1, c2, c3, c4, c5, c6, c7, c8]) : (∀ p : TchW w, p.wo.cell? ⟨b, 0, none⟩ = some c0) /\ (∀ p : TchW w, p.wo.cell? ⟨b, 1, none⟩ = some c1) /\ (∀ p : TchW w, p.wo.cell? ⟨b, 2, none⟩ = some c2) /\ (∀ p : TchW w, p.wo.cell? ⟨b, 3, none⟩ = some c3) /\ (∀ p : TchW w, p.wo.cell? ⟨b, 4, none⟩ = some c4) /\ (∀ p : TchW w, p.wo.cell? ⟨b, 5, none⟩ = some c5) /\ (∀ p : TchW w, p.wo.cell? ⟨b, 6, none⟩ = some c6) /\ (∀ p : TchW w, p.wo.cell? ⟨b, 7, none⟩ = some c7) /\ (∀ p : TchW w, p.wo.cell? ⟨b, 8, none⟩ = some c8) := ⟨fun p => (h.keep p.t) 0 _ rfl, fun p => (h.keep p.t) 1 _ rfl, fun p => (h.keep p.t) 2 _ rfl, fun p => (h.keep p.t) 3 _ rfl, fun p => (h.keep p.t) 4 _ rfl, fun p => (h.keep p.t) 5 _ rfl, fun p => (h.keep p.t) 6 _ rfl, fun p => (h.keep p.t) 7 _ rfl, fun p => (h.keep p.t) 8 _ rfl⟩
theorem kb6 {w : World} {b : Nat} {c0 c1 c2 c3 c4 c5 : Value} (h : BoxAt w b [c0, c1, c2, c3, c4, c5]) : (∀ p : TchW w, p.wo.cell? ⟨b, 0, none⟩ = some c0) /\ (∀ p : TchW w, p.wo.cell? ⟨b, 1, none⟩ = some c1) /\ (∀ p : TchW w, p.wo.cell? ⟨b, 2, none⟩ = some c2) /\ (∀ p : TchW w, p.wo.cell? ⟨b, 3, none⟩ = some c3) /\ (∀ p : TchW w, p.wo.cell? ⟨b, 4, none⟩ = some c4) /\ (∀ p : TchW w, p.wo.cell? ⟨b, 5, none⟩ = some c5) := ⟨fun p => (h.keep p.t) 0 _ rfl, fun p => (h.keep p.t) 1 _ rfl, fun p => (h.keep p.t) 2 _ rfl, fun p => (h.keep p.t) 3 _ rfl, fun p => (h.keep p.t) 4 _ rfl, fun p => (h.keep p.t) 5 _ rfl⟩

theorem eqfbrs_any (l1 l2 : List BrM) (v1 v2 : Value) (w : World) (h1 : IsBrs w v1 l1) (h2 : IsBrs w v2 l2) :
  Calls Tryz.prog 68 #[v1, v2, .func (.func 62) #[] #[]] w fun e w' => e = .returned (.bool (decide (l1 = l2))) /\ Tch No w w' := by
 obtain ⟨a1, c1, rfl, _⟩ := IsBrs.shape h1
 obtain ⟨a2, c2, rfl, _⟩ := IsBrs.shape h2
 have H1 := Lib.hid h1
 have H2 := Lib.hid h2
 clear h1 h2
 by_cases hlen : l1.length = l2.length
 case neg =>
  have HN : Hid (decide (l1 = l2) = false) := eqto_len hlen
  obtain ⟨n, hn⟩ : ∃ n, l1.length = n := ⟨_, rfl⟩
  obtain ⟨m, hm⟩ : ∃ n, l2.length = n := ⟨_, rfl⟩
  rw [hn, hm] at hlen
  rw [hn] at H1 ⊢
  rw [hm] at H2 ⊢
  have hne : ¬ (n : Int) = (m : Int) := by omega
  clear hn hm hlen
  go_enter Tryz.func68, Tryz.ntmps68
  go_wp2_with fail
  go_ret
  exact ⟨ret_b HN.out.symm, Tch.refl _ _⟩
 obtain ⟨n, hn⟩ : ∃ n, l2.length = n := ⟨_, rfl⟩
 rw [hlen, hn] at H1 ⊢
 rw [hn] at H2
 have HM2 := Lib.hid hn
 have HM1 := Lib.hid (hlen.trans hn)
 have hml : n <= 9223372036854775807 := by
  obtain ⟨_, c, _, h1, h2⟩ := IsBrs.shape H1.out
  unfold maxLen at h2; omega
 obtain ⟨res, hres⟩ : ∃ r, decide (l1 = l2) = r := ⟨_, rfl⟩
 have HRES := Lib.hid hres
 rw [hres]
 clear hlen hn hres
 go_enter Tryz.func68, Tryz.ntmps68
 go_wp2_with fail
 go_loopg [17] n (fun kx s5 wr => ∃ k : Nat, s5 = .int .i64 k /\ k <= n /\ n - k <= kx /\ Hid (Tch No w wr) /\ Hid (EqTo l1 l2 k))
 case atStart => exact ⟨0, rfl, Nat.zero_le _, by omega, Tch.refl _ _, fun i _ _ h => absurd h (Nat.not_lt_zero _)⟩
 case round =>
  obtain ⟨k, rfl, hk, hgk, TT, I⟩ := hrel
  by_cases hlt : k < n
  ·have hkl1 : k < l1.length := by have := HM1.out; omega
   have hkl2 : k < l2.length := by have := HM2.out; omega
   have hb1 : ∃ b o, a1 = some ⟨b, o, none⟩ /\ w.cell? ⟨b, o + k * 2, none⟩ = some (.int .i64 (l1[k]'hkl1).tid) /\ ∃ a c, w.cell? ⟨b, o + k * 2 + 1, none⟩ = some (.slice a (l1[k]'hkl1).puts.length c) /\ IsPuts w (.slice a (l1[k]'hkl1).puts.length c) (l1[k]'hkl1).puts := by
    rcases brs_cells H1.out with ⟨_, h0⟩ | ⟨b, o, cap2, h1, _, _, _, h5⟩
    ·rw [h0] at hkl1; simp at hkl1
    ·rw [HM1.out] at h1
     injection h1 with h1 _ _
     exact ⟨b, o, h1, h5 k hkl1⟩
   have hb2 : ∃ b o, a2 = some ⟨b, o, none⟩ /\ w.cell? ⟨b, o + k * 2, none⟩ = some (.int .i64 (l2[k]'hkl2).tid) /\ ∃ a c, w.cell? ⟨b, o + k * 2 + 1, none⟩ = some (.slice a (l2[k]'hkl2).puts.length c) /\ IsPuts w (.slice a (l2[k]'hkl2).puts.length c) (l2[k]'hkl2).puts := by
    rcases brs_cells H2.out with ⟨_, h0⟩ | ⟨b, o, cap2, h1, _, _, _, h5⟩
    ·rw [h0] at hkl2; simp at hkl2
    ·rw [HM2.out] at h1
     injection h1 with h1 _ _
     exact ⟨b, o, h1, h5 k hkl2⟩
   obtain ⟨b1, o1, rfl, hc1⟩ := hb1
   obtain ⟨b2, o2, rfl, hc2⟩ := hb2
   obtain ⟨x, hx⟩ : ∃ x, l1[k] = x := ⟨_, rfl⟩
   obtain ⟨y, hy⟩ : ∃ x, l2[k] = x := ⟨_, rfl⟩
   have HX := Lib.hid hx
   have HY := Lib.hid hy
   rw [hx] at hc1
   rw [hy] at hc2
   obtain ⟨hc1, pa, pc, hc3, hp1⟩ := hc1
   obtain ⟨hc2, qa, qc, hc4, hp2⟩ := hc2
   have HP : Hid (∀ W, Tch No w W -> Calls Tryz.prog 62 #[.agg #[.int .i64 x.tid, .slice pa x.puts.length pc], .agg #[.int .i64 y.tid, .slice qa y.puts.length qc]] W fun e w' => e = .returned (.bool (decide (x = y))) /\ Tch No W w') := fun W T => seq1_any x y _ _ W (hp1.keep T) (hp2.keep T)
   obtain ⟨t1, ht1⟩ : ∃ z, x.tid = z := ⟨_, rfl⟩
   obtain ⟨t2, ht2⟩ : ∃ z, y.tid = z := ⟨_, rfl⟩
   obtain ⟨np, hnp⟩ : ∃ z, x.puts.length = z := ⟨_, rfl⟩
   obtain ⟨nq, hnq⟩ : ∃ z, y.puts.length = z := ⟨_, rfl⟩
   rw [ht1] at hc1 HP
   rw [ht2] at hc2 HP
   rw [hnp] at hc3 HP
   rw [hnq] at hc4 HP
   have e1 := TT.out.cell hc1 (fun h => h)
   have e2 := cal (TT.out.cell hc2 (fun h => h))
   have e3 := TT.out.cell hc3 (fun h => h)
   have e4 := cal (TT.out.cell hc4 (fun h => h))
   obtain ⟨bp, hbp⟩ : ∃ b, decide (x = y) = b := ⟨_, rfl⟩
   have HBP := Lib.hid hbp
   rw [hbp] at HP
   clear hc1 hc2 hc3 hc4 hp1 hp2 hnp hnq ht1 ht2 hx hy hbp
   cases bp with
   | false =>
    have HN : Hid (res = false) := HRES.out.symm.trans (eqto_bad hkl1 hkl2 (by rw [HX.out, HY.out]; exact of_decide_eq_false HBP.out))
    go_wp2_with (go_at_call 62; refine (HP.out _ ((TT.out.trans0 (Tch.alloc _ _)).trans0 (Tch.alloc _ _))).mono ?_; rintro e w3 ⟨rfl, T3⟩)
    go_ret
    exact ⟨ret_b HN.out.symm, ((TT.out.trans0 (Tch.alloc _ _)).trans0 (Tch.alloc _ _)).trans0 T3⟩
   | true =>
    have HI : Hid (EqTo l1 l2 (k + 1)) := eqto_step I.out hkl1 hkl2 (by rw [HX.out, HY.out]; exact of_decide_eq_true HBP.out)
    go_wp2_with (go_at_call 62; refine (HP.out _ ((TT.out.trans0 (Tch.alloc _ _)).trans0 (Tch.alloc _ _))).mono ?_; rintro e w3 ⟨rfl, T3⟩)
    go_roundg (n - (k + 1))
    case measure => omega
    case rel => exact ⟨k + 1, by go_num, by omega, by omega, ((TT.out.trans0 (Tch.alloc _ _)).trans0 (Tch.alloc _ _)).trans0 T3, HI⟩
  ·have HN : Hid (res = true) := HRES.out.symm.trans (eqto_all (HM1.out.trans (show n = k by omega)) (HM2.out.trans (show n = k by omega)) I.out)
   obtain rfl : n = k := by omega
   clear I hgk hk hlt
   go_wp2_with fail
   go_ret
   exact ⟨ret_b HN.out.symm, TT.out⟩
theorem eqfpends_any (l1 l2 : List PendM) (v1 v2 : Value) (w : World) (h1 : IsPends w v1 l1) (h2 : IsPends w v2 l2) :
  Calls Tryz.prog 69 #[v1, v2, .func (.func 64) #[] #[]] w fun e w' => e = .returned (.bool (decide (l1 = l2))) /\ Tch No w w' := by
 obtain ⟨a1, c1, rfl, _⟩ := IsPends.shape h1
 obtain ⟨a2, c2, rfl, _⟩ := IsPends.shape h2
 have H1 := Lib.hid h1
 have H2 := Lib.hid h2
 clear h1 h2
 by_cases hlen : l1.length = l2.length
 case neg =>
  have HN : Hid (decide (l1 = l2) = false) := eqto_len hlen
  obtain ⟨n, hn⟩ : ∃ n, l1.length = n := ⟨_, rfl⟩
  obtain ⟨m, hm⟩ : ∃ n, l2.length = n := ⟨_, rfl⟩
  rw [hn, hm] at hlen
  rw [hn] at H1 ⊢
  rw [hm] at H2 ⊢
  have hne : ¬ (n : Int) = (m : Int) := by omega
  clear hn hm hlen
  go_enter Tryz.func69, Tryz.ntmps69
  go_wp2_with fail
  go_ret
  exact ⟨ret_b HN.out.symm, Tch.refl _ _⟩
 obtain ⟨n, hn⟩ : ∃ n, l2.length = n := ⟨_, rfl⟩
 rw [hlen, hn] at H1 ⊢
 rw [hn] at H2
 have HM2 := Lib.hid hn
 have HM1 := Lib.hid (hlen.trans hn)
 have hml : n <= 9223372036854775807 := by
  obtain ⟨_, c, _, h1, h2⟩ := IsPends.shape H1.out
  unfold maxLen at h2; omega
 obtain ⟨res, hres⟩ : ∃ r, decide (l1 = l2) = r := ⟨_, rfl⟩
 have HRES := Lib.hid hres
 rw [hres]
 clear hlen hn hres
 go_enter Tryz.func69, Tryz.ntmps69
 go_wp2_with fail
 go_loopg [17] n (fun kx s5 wr => ∃ k : Nat, s5 = .int .i64 k /\ k <= n /\ n - k <= kx /\ Hid (Tch No w wr) /\ Hid (EqTo l1 l2 k))
 case atStart => exact ⟨0, rfl, Nat.zero_le _, by omega, Tch.refl _ _, fun i _ _ h => absurd h (Nat.not_lt_zero _)⟩
 case round =>
  obtain ⟨k, rfl, hk, hgk, TT, I⟩ := hrel
  by_cases hlt : k < n
  ·have hkl1 : k < l1.length := by have := HM1.out; omega
   have hkl2 : k < l2.length := by have := HM2.out; omega
   have hb1 : ∃ b o, a1 = some ⟨b, o, none⟩ /\ w.cell? ⟨b, o + k * 2, none⟩ = some (.int .i64 (l1[k]'hkl1).tid) /\ ∃ a c, w.cell? ⟨b, o + k * 2 + 1, none⟩ = some (.slice a (l1[k]'hkl1).parts.length c) /\ IsInts w (.slice a (l1[k]'hkl1).parts.length c) (l1[k]'hkl1).parts := by
    rcases pends_cells H1.out with ⟨_, h0⟩ | ⟨b, o, cap2, h1, _, _, _, h5⟩
    ·rw [h0] at hkl1; simp at hkl1
    ·rw [HM1.out] at h1
     injection h1 with h1 _ _
     exact ⟨b, o, h1, h5 k hkl1⟩
   have hb2 : ∃ b o, a2 = some ⟨b, o, none⟩ /\ w.cell? ⟨b, o + k * 2, none⟩ = some (.int .i64 (l2[k]'hkl2).tid) /\ ∃ a c, w.cell? ⟨b, o + k * 2 + 1, none⟩ = some (.slice a (l2[k]'hkl2).parts.length c) /\ IsInts w (.slice a (l2[k]'hkl2).parts.length c) (l2[k]'hkl2).parts := by
    rcases pends_cells H2.out with ⟨_, h0⟩ | ⟨b, o, cap2, h1, _, _, _, h5⟩
    ·rw [h0] at hkl2; simp at hkl2
    ·rw [HM2.out] at h1
     injection h1 with h1 _ _
     exact ⟨b, o, h1, h5 k hkl2⟩
   obtain ⟨b1, o1, rfl, hc1⟩ := hb1
   obtain ⟨b2, o2, rfl, hc2⟩ := hb2
   obtain ⟨x, hx⟩ : ∃ x, l1[k] = x := ⟨_, rfl⟩
   obtain ⟨y, hy⟩ : ∃ x, l2[k] = x := ⟨_, rfl⟩
   have HX := Lib.hid hx
   have HY := Lib.hid hy
   rw [hx] at hc1
   rw [hy] at hc2
   obtain ⟨hc1, pa, pc, hc3, hp1⟩ := hc1
   obtain ⟨hc2, qa, qc, hc4, hp2⟩ := hc2
   have HP : Hid (∀ W, Tch No w W -> Calls Tryz.prog 64 #[.agg #[.int .i64 x.tid, .slice pa x.parts.length pc], .agg #[.int .i64 y.tid, .slice qa y.parts.length qc]] W fun e w' => e = .returned (.bool (decide (x = y))) /\ Tch No W w') := fun W T => seq2_any x y _ _ W (hp1.keep T) (hp2.keep T)
   obtain ⟨t1, ht1⟩ : ∃ z, x.tid = z := ⟨_, rfl⟩
   obtain ⟨t2, ht2⟩ : ∃ z, y.tid = z := ⟨_, rfl⟩
   obtain ⟨np, hnp⟩ : ∃ z, x.parts.length = z := ⟨_, rfl⟩
   obtain ⟨nq, hnq⟩ : ∃ z, y.parts.length = z := ⟨_, rfl⟩
   rw [ht1] at hc1 HP
   rw [ht2] at hc2 HP
   rw [hnp] at hc3 HP
   rw [hnq] at hc4 HP
   have e1 := TT.out.cell hc1 (fun h => h)
   have e2 := cal (TT.out.cell hc2 (fun h => h))
   have e3 := TT.out.cell hc3 (fun h => h)
   have e4 := cal (TT.out.cell hc4 (fun h => h))
   obtain ⟨bp, hbp⟩ : ∃ b, decide (x = y) = b := ⟨_, rfl⟩
   have HBP := Lib.hid hbp
   rw [hbp] at HP
   clear hc1 hc2 hc3 hc4 hp1 hp2 hnp hnq ht1 ht2 hx hy hbp
   cases bp with
   | false =>
    have HN : Hid (res = false) := HRES.out.symm.trans (eqto_bad hkl1 hkl2 (by rw [HX.out, HY.out]; exact of_decide_eq_false HBP.out))
    go_wp2_with (go_at_call 64; refine (HP.out _ ((TT.out.trans0 (Tch.alloc _ _)).trans0 (Tch.alloc _ _))).mono ?_; rintro e w3 ⟨rfl, T3⟩)
    go_ret
    exact ⟨ret_b HN.out.symm, ((TT.out.trans0 (Tch.alloc _ _)).trans0 (Tch.alloc _ _)).trans0 T3⟩
   | true =>
    have HI : Hid (EqTo l1 l2 (k + 1)) := eqto_step I.out hkl1 hkl2 (by rw [HX.out, HY.out]; exact of_decide_eq_true HBP.out)
    go_wp2_with (go_at_call 64; refine (HP.out _ ((TT.out.trans0 (Tch.alloc _ _)).trans0 (Tch.alloc _ _))).mono ?_; rintro e w3 ⟨rfl, T3⟩)
    go_roundg (n - (k + 1))
    case measure => omega
    case rel => exact ⟨k + 1, by go_num, by omega, by omega, ((TT.out.trans0 (Tch.alloc _ _)).trans0 (Tch.alloc _ _)).trans0 T3, HI⟩
  ·have HN : Hid (res = true) := HRES.out.symm.trans (eqto_all (HM1.out.trans (show n = k by omega)) (HM2.out.trans (show n = k by omega)) I.out)
   obtain rfl : n = k := by omega
   clear I hgk hk hlt
   go_wp2_with fail
   go_ret
   exact ⟨ret_b HN.out.symm, TT.out⟩
def eqHead (a b : StM) : Bool := (((a.broker == b.broker) && (a.nid == b.nid)) && (a.nseq == b.nseq)) && (a.tx == b.tx)
def eqLists (a b : StM) : Bool := (decide (a.ms = b.ms) && decide (a.ends = b.ends)) && decide (a.waits = b.waits)
theorem eq_parts (a b : StM) : decide (a = b) = (((eqHead a b && eqLists a b) && decide (a.opens = b.opens)) && decide (a.noes = b.noes)) := by
 obtain ⟨a1, a2, a3, a4, a5, a6, a7, a8, a9⟩ := a
 obtain ⟨b1, b2, b3, b4, b5, b6, b7, b8, b9⟩ := b
 unfold eqHead eqLists
 rw [Bool.eq_iff_iff]
 simp only [decide_eq_true_eq, Bool.and_eq_true, beq_iff_eq, StM.mk.injEq]
 constructor
 ·rintro ⟨h1, h2, h3, h4, h5, h6, h7, h8, h9⟩; exact ⟨⟨⟨⟨⟨⟨h1, h2⟩, h3⟩, h4⟩, ⟨h5, h7⟩, h6⟩, h8⟩, h9⟩
 ·rintro ⟨⟨⟨⟨⟨⟨h1, h2⟩, h3⟩, h4⟩, ⟨h5, h7⟩, h6⟩, h8⟩, h9⟩; exact ⟨h1, h2, h3, h4, h5, h6, h7, h8, h9⟩
theorem box2a (w : World) (cs cs' : Array Value) (t t' : TypeId) : BoxAt ((w.alloc (.cells cs t)).alloc (.cells cs' t')) w.heap.size cs.toList := (BoxAt.made w cs t).keep (Tch.alloc _ _)
theorem box2b (w : World) (cs cs' : Array Value) (t t' : TypeId) : BoxAt ((w.alloc (.cells cs t)).alloc (.cells cs' t')) (w.heap.size + 1) cs'.toList := by
 have := BoxAt.made (w.alloc (.cells cs t)) cs' t'
 rwa [size_alloc] at this
theorem seq_any (a b : StM) (va vb : Value) (w : World) (ha : IsSt w va a) (hb : IsSt w vb b) :
  Calls Tryz.prog 16 #[va, vb] w fun e w' => e = .returned (.bool (decide (a = b))) /\ Tch No w w' := by
 obtain ⟨ama, cma, awa, cwa, aea, cea, aoa, coa, ana, cna, rfl, hmsa, hwsa, hesa, hosa, hnsa⟩ := ha.shape
 clear ha
 have HMSa := Lib.hid hmsa
 obtain ⟨nma, hnma⟩ : ∃ n, a.ms.length = n := ⟨_, rfl⟩
 rw [hnma] at HMSa ⊢
 have HWSa := Lib.hid hwsa
 obtain ⟨nwa, hnwa⟩ : ∃ n, a.waits.length = n := ⟨_, rfl⟩
 rw [hnwa] at HWSa ⊢
 have HESa := Lib.hid hesa
 obtain ⟨nea, hnea⟩ : ∃ n, a.ends.length = n := ⟨_, rfl⟩
 rw [hnea] at HESa ⊢
 have HOSa := Lib.hid hosa
 obtain ⟨noa, hnoa⟩ : ∃ n, a.opens.length = n := ⟨_, rfl⟩
 rw [hnoa] at HOSa ⊢
 have HNSa := Lib.hid hnsa
 obtain ⟨nna, hnna⟩ : ∃ n, a.noes.length = n := ⟨_, rfl⟩
 rw [hnna] at HNSa ⊢
 clear hmsa hwsa hesa hosa hnsa hnma hnwa hnea hnoa hnna
 obtain ⟨amb, cmb, awb, cwb, aeb, ceb, aob, cob, anb, cnb, rfl, hmsb, hwsb, hesb, hosb, hnsb⟩ := hb.shape
 clear hb
 have HMSb := Lib.hid hmsb
 obtain ⟨nmb, hnmb⟩ : ∃ n, b.ms.length = n := ⟨_, rfl⟩
 rw [hnmb] at HMSb ⊢
 have HWSb := Lib.hid hwsb
 obtain ⟨nwb, hnwb⟩ : ∃ n, b.waits.length = n := ⟨_, rfl⟩
 rw [hnwb] at HWSb ⊢
 have HESb := Lib.hid hesb
 obtain ⟨neb, hneb⟩ : ∃ n, b.ends.length = n := ⟨_, rfl⟩
 rw [hneb] at HESb ⊢
 have HOSb := Lib.hid hosb
 obtain ⟨nob, hnob⟩ : ∃ n, b.opens.length = n := ⟨_, rfl⟩
 rw [hnob] at HOSb ⊢
 have HNSb := Lib.hid hnsb
 obtain ⟨nnb, hnnb⟩ : ∃ n, b.noes.length = n := ⟨_, rfl⟩
 rw [hnnb] at HNSb ⊢
 clear hmsb hwsb hesb hosb hnsb hnmb hnwb hneb hnob hnnb
 have HCM : Hid (∀ W, Tch No w W -> Calls Tryz.prog 66 #[.slice ama nma cma, .slice amb nmb cmb] W fun e w' => e = .returned (.bool (decide (a.ms = b.ms))) /\ Tch No W w') := fun W T => seqmsgs_any a.ms b.ms _ _ W (HMSa.out.keep T) (HMSb.out.keep T)
 have HCE : Hid (∀ W, Tch No w W -> Calls Tryz.prog 67 #[.slice aea nea cea, .slice aeb neb ceb] W fun e w' => e = .returned (.bool (decide (a.ends = b.ends))) /\ Tch No W w') := fun W T => seqends_any a.ends b.ends _ _ W (HESa.out.keep T) (HESb.out.keep T)
 have HCB : Hid (∀ W, Tch No w W -> Calls Tryz.prog 68 #[.slice awa nwa cwa, .slice awb nwb cwb, .func (.func 62) #[] #[]] W fun e w' => e = .returned (.bool (decide (a.waits = b.waits))) /\ Tch No W w') := fun W T => eqfbrs_any a.waits b.waits _ _ W (HWSa.out.keep T) (HWSb.out.keep T)
 have HCO : Hid (∀ W, Tch No w W -> Calls Tryz.prog 69 #[.slice aoa noa coa, .slice aob nob cob, .func (.func 64) #[] #[]] W fun e w' => e = .returned (.bool (decide (a.opens = b.opens))) /\ Tch No W w') := fun W T => eqfpends_any a.opens b.opens _ _ W (HOSa.out.keep T) (HOSb.out.keep T)
 have HCN : Hid (∀ W, Tch No w W -> Calls Tryz.prog 69 #[.slice ana nna cna, .slice anb nnb cnb, .func (.func 64) #[] #[]] W fun e w' => e = .returned (.bool (decide (a.noes = b.noes))) /\ Tch No W w') := fun W T => eqfpends_any a.noes b.noes _ _ W (HNSa.out.keep T) (HNSb.out.keep T)
 obtain ⟨res, hres⟩ : ∃ r, decide (a = b) = r := ⟨_, rfl⟩
 obtain ⟨hd, hhd⟩ : ∃ r, eqHead a b = r := ⟨_, rfl⟩
 obtain ⟨ls, hls⟩ : ∃ r, eqLists a b = r := ⟨_, rfl⟩
 have HFIN := Lib.hid (eq_parts a b)
 have HHD := Lib.hid hhd
 have HLS := Lib.hid hls
 unfold eqLists at HLS
 rw [hres, hhd, hls] at HFIN
 rw [hres]
 clear hres hhd hls
 generalize decide (a.ms = b.ms) = q1 at HCM HLS
 generalize decide (a.ends = b.ends) = q2 at HCE HLS
 generalize decide (a.waits = b.waits) = q3 at HCB HLS
 generalize decide (a.opens = b.opens) = q4 at HCO HFIN
 generalize decide (a.noes = b.noes) = q5 at HCN HFIN
 unfold stV
 go_enter Tryz.func16, Tryz.ntmps16
 go_upto_region 1 with fail
 go_cut [5] from 9 to 34 (fun s5 wx => s5 = .bool hd /\ Hid (Tch No w wx) /\ Hid (BoxAt wx w.heap.size [.int .i64 a.broker, .int .i64 a.nid, .int .i64 a.nseq, .int .i64 a.tx, .slice ama nma cma, .slice awa nwa cwa, .slice aea nea cea, .slice aoa noa coa, .slice ana nna cna]) /\ Hid (BoxAt wx (w.heap.size + 1) [.int .i64 b.broker, .int .i64 b.nid, .int .i64 b.nseq, .int .i64 b.tx, .slice amb nmb cmb, .slice awb nwb cwb, .slice aeb neb ceb, .slice aob nob cob, .slice anb nnb cnb]))
 case first =>
  cases d0 : (a.broker == b.broker) with
  | false =>
   have hp : Hid (hd = false) := by rw [Hid, <- HHD.out]; simp [eqHead, d0]
   go_wp2_with fail
   go_meet
   exact ⟨by rw [hp.out], (Tch.alloc _ _).trans0 (Tch.alloc _ _), box2a _ _ _ _ _, box2b _ _ _ _ _⟩
  | true =>
  cases d1 : (a.nid == b.nid) with
  | false =>
   have hp : Hid (hd = false) := by rw [Hid, <- HHD.out]; simp [eqHead, d0, d1]
   go_wp2_with fail
   go_meet
   exact ⟨by rw [hp.out], (Tch.alloc _ _).trans0 (Tch.alloc _ _), box2a _ _ _ _ _, box2b _ _ _ _ _⟩
  | true =>
  cases d2 : (a.nseq == b.nseq) with
  | false =>
   have hp : Hid (hd = false) := by rw [Hid, <- HHD.out]; simp [eqHead, d0, d1, d2]
   go_wp2_with fail
   go_meet
   exact ⟨by rw [hp.out], (Tch.alloc _ _).trans0 (Tch.alloc _ _), box2a _ _ _ _ _, box2b _ _ _ _ _⟩
  | true =>
  cases d3 : (a.tx == b.tx) with
  | false =>
   have hp : Hid (hd = false) := by rw [Hid, <- HHD.out]; simp [eqHead, d0, d1, d2, d3]
   go_wp2_with fail
   go_meet
   exact ⟨by rw [hp.out], (Tch.alloc _ _).trans0 (Tch.alloc _ _), box2a _ _ _ _ _, box2b _ _ _ _ _⟩
  | true =>
  have hp : Hid (hd = true) := by rw [Hid, <- HHD.out]; simp [eqHead, d0, d1, d2, d3]
  go_wp2_with fail
  go_meet
  exact ⟨by rw [hp.out], (Tch.alloc _ _).trans0 (Tch.alloc _ _), box2a _ _ _ _ _, box2b _ _ _ _ _⟩
 case rest =>
  obtain ⟨rfl, TT, HB, HB2⟩ := hcut
  go_upto_region 4 with fail
  go_cut [8] from 35 to 54 (fun s8 wx => s8 = .bool ls /\ Hid (Tch No w wx) /\ Hid (BoxAt wx w.heap.size [.int .i64 a.broker, .int .i64 a.nid, .int .i64 a.nseq, .int .i64 a.tx, .slice ama nma cma, .slice awa nwa cwa, .slice aea nea cea, .slice aoa noa coa, .slice ana nna cna]) /\ Hid (BoxAt wx (w.heap.size + 1) [.int .i64 b.broker, .int .i64 b.nid, .int .i64 b.nseq, .int .i64 b.tx, .slice amb nmb cmb, .slice awb nwb cwb, .slice aeb neb ceb, .slice aob nob cob, .slice anb nnb cnb]))
  case first =>
   refine wp_world (fun w4 => ∃ p : TchW wc, w4 = p.wo) ⟨⟨wc, Tch.refl _ _⟩, rfl⟩ ?_
   rintro _ ⟨p0, rfl⟩
   have c4 := fun (p : TchW wc) => (HB.out.keep p.t) 4 _ rfl
   have c5 := fun (p : TchW wc) => (HB.out.keep p.t) 5 _ rfl
   have c6 := fun (p : TchW wc) => (HB.out.keep p.t) 6 _ rfl
   have g4 := fun (p : TchW wc) => (HB2.out.keep p.t) 4 _ rfl
   have g5 := fun (p : TchW wc) => (HB2.out.keep p.t) 5 _ rfl
   have g6 := fun (p : TchW wc) => (HB2.out.keep p.t) 6 _ rfl
   cases q1 with
   | false =>
    have hp : Hid (ls = false) := by rw [Hid, <- HLS.out]; rfl
    go_wp2_with (first
     | (go_at_call 66; refine cz HCM.out TT fun q' => ?_)
     | (go_at_call 67; refine cz HCE.out TT fun q' => ?_)
     | (go_at_call 68; refine cz HCB.out TT fun q' => ?_)
     | (go_at_call 69; with_reducible refine cz HCO.out TT fun q' => ?_)
     | (go_at_call 69; with_reducible refine cz HCN.out TT fun q' => ?_))
    go_meet
    exact ⟨by rw [hp.out], TT.out.trans0 (TchW.t _), HB.out.keep (TchW.t _), HB2.out.keep (TchW.t _)⟩
   | true =>
   cases q2 with
   | false =>
    have hp : Hid (ls = false) := by rw [Hid, <- HLS.out]; rfl
    go_wp2_with (first
     | (go_at_call 66; refine cz HCM.out TT fun q' => ?_)
     | (go_at_call 67; refine cz HCE.out TT fun q' => ?_)
     | (go_at_call 68; refine cz HCB.out TT fun q' => ?_)
     | (go_at_call 69; with_reducible refine cz HCO.out TT fun q' => ?_)
     | (go_at_call 69; with_reducible refine cz HCN.out TT fun q' => ?_))
    go_meet
    exact ⟨by rw [hp.out], TT.out.trans0 (TchW.t _), HB.out.keep (TchW.t _), HB2.out.keep (TchW.t _)⟩
   | true =>
    have hp : Hid (ls = q3) := by rw [Hid, <- HLS.out]; rfl
    go_wp2_with (first
     | (go_at_call 66; refine cz HCM.out TT fun q' => ?_)
     | (go_at_call 67; refine cz HCE.out TT fun q' => ?_)
     | (go_at_call 68; refine cz HCB.out TT fun q' => ?_)
     | (go_at_call 69; with_reducible refine cz HCO.out TT fun q' => ?_)
     | (go_at_call 69; with_reducible refine cz HCN.out TT fun q' => ?_))
    go_meet
    exact ⟨by rw [hp.out], TT.out.trans0 (TchW.t _), HB.out.keep (TchW.t _), HB2.out.keep (TchW.t _)⟩
  case rest =>
   clear TT HB HB2
   obtain ⟨rfl, TT, HB, HB2⟩ := hcut
   go_upto_region 5 with fail
   refine wp_world (fun w4 => ∃ p : TchW wc, w4 = p.wo) ⟨⟨wc, Tch.refl _ _⟩, rfl⟩ ?_
   rintro _ ⟨p0, rfl⟩
   have c7 := fun (p : TchW wc) => (HB.out.keep p.t) 7 _ rfl
   have c8 := fun (p : TchW wc) => (HB.out.keep p.t) 8 _ rfl
   have g7 := fun (p : TchW wc) => (HB2.out.keep p.t) 7 _ rfl
   have g8 := fun (p : TchW wc) => (HB2.out.keep p.t) 8 _ rfl
   cases hd with
   | false =>
    have HN : Hid (res = false) := by rw [Hid, HFIN.out]; rfl
    go_wp2_with (first
     | (go_at_call 66; refine cz HCM.out TT fun q' => ?_)
     | (go_at_call 67; refine cz HCE.out TT fun q' => ?_)
     | (go_at_call 68; refine cz HCB.out TT fun q' => ?_)
     | (go_at_call 69; with_reducible refine cz HCO.out TT fun q' => ?_)
     | (go_at_call 69; with_reducible refine cz HCN.out TT fun q' => ?_))
    go_ret
    exact ⟨ret_b HN.out.symm, TT.out.trans0 (TchW.t _)⟩
   | true =>
   cases ls with
   | false =>
    have HN : Hid (res = false) := by rw [Hid, HFIN.out]; rfl
    go_wp2_with (first
     | (go_at_call 66; refine cz HCM.out TT fun q' => ?_)
     | (go_at_call 67; refine cz HCE.out TT fun q' => ?_)
     | (go_at_call 68; refine cz HCB.out TT fun q' => ?_)
     | (go_at_call 69; with_reducible refine cz HCO.out TT fun q' => ?_)
     | (go_at_call 69; with_reducible refine cz HCN.out TT fun q' => ?_))
    go_ret
    exact ⟨ret_b HN.out.symm, TT.out.trans0 (TchW.t _)⟩
   | true =>
   cases q4 with
   | false =>
    have HN : Hid (res = false) := by rw [Hid, HFIN.out]; rfl
    go_wp2_with (first
     | (go_at_call 66; refine cz HCM.out TT fun q' => ?_)
     | (go_at_call 67; refine cz HCE.out TT fun q' => ?_)
     | (go_at_call 68; refine cz HCB.out TT fun q' => ?_)
     | (go_at_call 69; with_reducible refine cz HCO.out TT fun q' => ?_)
     | (go_at_call 69; with_reducible refine cz HCN.out TT fun q' => ?_))
    go_ret
    exact ⟨ret_b HN.out.symm, TT.out.trans0 (TchW.t _)⟩
   | true =>
    have HN : Hid (res = q5) := by rw [Hid, HFIN.out]; rfl
    go_wp2_with (first
     | (go_at_call 66; refine cz HCM.out TT fun q' => ?_)
     | (go_at_call 67; refine cz HCE.out TT fun q' => ?_)
     | (go_at_call 68; refine cz HCB.out TT fun q' => ?_)
     | (go_at_call 69; with_reducible refine cz HCO.out TT fun q' => ?_)
     | (go_at_call 69; with_reducible refine cz HCN.out TT fun q' => ?_))
    go_ret
    exact ⟨ret_b HN.out.symm, TT.out.trans0 (TchW.t _)⟩
end
end Go.Proofs.YtelaljoebdpicaaGreat
