/- Part 2 of what the proof of StoreMay rests on. No condition. -/
import Derived.Test.YtelaljoebdpicaaGreatPOrderCounts01
import Derived.Test.YtelaljoebdpicaaGreatPOrderCounts02
import Derived.Test.YtelaljoebdpicaaGreatPOrderCounts03
import Derived.Test.YtelaljoebdpicaaGreatPOrderCounts04
import Derived.Test.YtelaljoebdpicaaGreatPOrderCounts05
import Derived.Test.YtelaljoebdpicaaGreatPOrderCounts06
import Derived.Test.YtelaljoebdpicaaGreatPOrderCounts07
import Derived.Test.YtelaljoebdpicaaGreatPOrderCounts08
import Derived.Test.YtelaljoebdpicaaGreatPOrderCounts09
import Derived.Test.YtelaljoebdpicaaGreatPOrderCounts10
import Derived.Test.YtelaljoebdpicaaGreatPOrderCounts11
import Derived.Test.YtelaljoebdpicaaGreatPOrderCounts12
import Derived.Test.YtelaljoebdpicaaGreatPOrderCounts13
import Derived.Test.YtelaljoebdpicaaGreatPOrderCounts14
import Derived.Test.YtelaljoebdpicaaGreatPOrderCounts15
import Derived.Test.YtelaljoebdpicaaGreatPOrderCounts16
import Derived.Test.YtelaljoebdpicaaGreatPOrderCounts17
import Derived.Test.YtelaljoebdpicaaGreatPOrderCounts18
import Derived.Test.YtelaljoebdpicaaGreatPOrderCounts19
import Derived.Test.YtelaljoebdpicaaGreatPOrderCounts20
import Derived.Test.YtelaljoebdpicaaGreatPOrderCounts21
import Derived.Test.YtelaljoebdpicaaGreatPOrderCounts22
import Derived.Test.YtelaljoebdpicaaGreatPOrderCounts23
import Derived.Test.YtelaljoebdpicaaGreatPOrderCounts24
import Derived.Test.YtelaljoebdpicaaGreatPOrderCounts25
import Derived.Test.YtelaljoebdpicaaGreatPOrderCounts26
import Derived.Test.YtelaljoebdpicaaGreatPOrderCounts27
import Derived.Test.YtelaljoebdpicaaGreatPOrderCounts28
import Derived.Test.YtelaljoebdpicaaGreatPOrderCounts29
import Derived.Test.YtelaljoebdpicaaGreatPOrderCounts30
import Derived.Test.YtelaljoebdpicaaGreatPOrderCounts31
import Derived.Test.YtelaljoebdpicaaGreatPOrderCounts32
import Derived.Test.YtelaljoebdpicaaGreatPOrderCounts33
import Derived.Test.YtelaljoebdpicaaGreatPOrderCounts34
import Derived.Test.YtelaljoebdpicaaGreatPOrderCounts35
import Derived.Test.YtelaljoebdpicaaGreatPOrderCounts36
import Derived.Test.YtelaljoebdpicaaGreatPOrderCounts37
import Derived.Test.YtelaljoebdpicaaGreatPOrderCounts38
import Derived.Test.YtelaljoebdpicaaGreatPOrderCounts39
import Derived.Test.YtelaljoebdpicaaGreatPOrderCounts40
import Derived.Test.YtelaljoebdpicaaGreatPOrderCounts41
import Derived.Test.YtelaljoebdpicaaGreatPOrderCounts42
import Derived.Test.YtelaljoebdpicaaGreatPOrderCounts43
import Derived.Test.YtelaljoebdpicaaGreatPOrderCounts44
import Derived.Test.YtelaljoebdpicaaGreatPOrderCounts45
import Derived.Test.YtelaljoebdpicaaGreatPOrderCounts46
import Derived.BigQuiet
import Derived.Deep.CutBlock
import Derived.Deep.LoopGhost
import Derived.StringKeys
import Derived.Test.YtelaljoebdpicaaGreatPStoreMay01
namespace Go.Proofs.YtelaljoebdpicaaGreat
set_option maxRecDepth 100000
set_option maxHeartbeats 60000000
set_option linter.unusedVariables false
set_option linter.unusedSimpArgs false
set_option linter.unusedSectionVars false
section
open Go.RowKit Go.Maps
theorem seqints_any (l1 l2 : List Int) (v1 v2 : Value) (w : World) (h1 : IsInts w v1 l1) (h2 : IsInts w v2 l2) :
  Calls Tryz.prog 65 #[v1, v2] w fun e w' => e = .returned (.bool (decide (l1 = l2))) /\ Tch No w w' := by
 obtain ⟨a1, c1, rfl, _⟩ := CellsAt.shape h1
 obtain ⟨a2, c2, rfl, _⟩ := CellsAt.shape h2
 have H1 := Lib.hid h1
 have H2 := Lib.hid h2
 clear h1 h2
 by_cases hlen : l1.length = l2.length
 case neg =>
  have HN : Hid (decide (l1 = l2) = false) := eqto_len hlen
  obtain ⟨n, hn⟩ : ∃ n, l1.length = n := ⟨_, rfl⟩
  obtain ⟨m, hm⟩ : ∃ n, l2.length = n := ⟨_, rfl⟩
  rw [hn, hm] at hlen
  rw [hn] at H1 ⊢
  rw [hm] at H2 ⊢
  have hne : ¬ (n : Int) = (m : Int) := by omega
  clear hn hm hlen
  go_enter Tryz.func65, Tryz.ntmps65
  go_wp2_with fail
  go_ret
  exact ⟨ret_b HN.out.symm, Tch.refl _ _⟩
 obtain ⟨n, hn⟩ : ∃ n, l2.length = n := ⟨_, rfl⟩
 rw [hlen, hn] at H1 ⊢
 rw [hn] at H2
 have HM2 := Lib.hid hn
 have HM1 := Lib.hid (hlen.trans hn)
 have hml : n <= 9223372036854775807 := by
  obtain ⟨_, c, _, h1, h2⟩ := CellsAt.shape H1.out
  unfold maxLen at h2; omega
 obtain ⟨res, hres⟩ : ∃ r, decide (l1 = l2) = r := ⟨_, rfl⟩
 have HRES := Lib.hid hres
 rw [hres]
 clear hlen hn hres
 go_enter Tryz.func65, Tryz.ntmps65
 go_wp2_with fail
 go_loopg [13] n (fun kx s5 wr => ∃ k : Nat, s5 = .int .i64 k /\ k <= n /\ n - k <= kx /\ Hid (Tch No w wr) /\ Hid (EqTo l1 l2 k))
 case atStart => exact ⟨0, rfl, Nat.zero_le _, by omega, Tch.refl _ _, fun i _ _ h => absurd h (Nat.not_lt_zero _)⟩
 case round =>
  obtain ⟨k, rfl, hk, hgk, TT, I⟩ := hrel
  by_cases hlt : k < n
  ·have hkl1 : k < l1.length := by have := HM1.out; omega
   have hkl2 : k < l2.length := by have := HM2.out; omega
   have hb1 : ∃ b o, a1 = some ⟨b, o, none⟩ /\ w.cell? ⟨b, o + k, none⟩ = some (.int .i64 (l1[k]'hkl1)) := by
    rcases ints_cells H1.out with ⟨_, h0⟩ | ⟨b, o, cap2, h1, _, _, _, h5⟩
    ·rw [h0] at hkl1; simp at hkl1
    ·rw [HM1.out] at h1
     injection h1 with h1 _ _
     exact ⟨b, o, h1, h5 k hkl1⟩
   have hb2 : ∃ b o, a2 = some ⟨b, o, none⟩ /\ w.cell? ⟨b, o + k, none⟩ = some (.int .i64 (l2[k]'hkl2)) := by
    rcases ints_cells H2.out with ⟨_, h0⟩ | ⟨b, o, cap2, h1, _, _, _, h5⟩
    ·rw [h0] at hkl2; simp at hkl2
    ·rw [HM2.out] at h1
     injection h1 with h1 _ _
     exact ⟨b, o, h1, h5 k hkl2⟩
   obtain ⟨b1, o1, rfl, hc1⟩ := hb1
   obtain ⟨b2, o2, rfl, hc2⟩ := hb2
   obtain ⟨x, hx⟩ : ∃ x, l1[k] = x := ⟨_, rfl⟩
   obtain ⟨y, hy⟩ : ∃ x, l2[k] = x := ⟨_, rfl⟩
   have HX := Lib.hid hx
   have HY := Lib.hid hy
   rw [hx] at hc1
   rw [hy] at hc2
   have e1 : ∀ p : TchW wr, p.wo.cell? ⟨b1, o1 + k, none⟩ = some (.int .i64 x) := fun p => (TT.out.trans0 p.t).cell hc1 (fun h => h)
   have e2 : ∀ p : TchW wr, p.wo.cell? ⟨b2, o2 + k, none⟩ = some (.int .i64 y) := fun p => (TT.out.trans0 p.t).cell hc2 (fun h => h)
   clear hc1 hc2 hx hy
   go_upto_region 6 with fail
   by_cases e : x = y
   case neg =>
    have d1 : (x == y) = false := by simpa using e
    have d2 : (x != y) = true := by simpa using e
    have HN : Hid (res = false) := HRES.out.symm.trans (eqto_bad hkl1 hkl2 (by rw [HX.out, HY.out]; exact e))
    refine wp_region_qt (by kernel_rfl) (by kernel_rfl) ?_
    repeat (go_big_quiet_step (fail))
    with_reducible refine wpQuiet_nil ?_
    rintro _ ⟨pq, rfl⟩
    go_wp2_with fail
    go_ret
    exact ⟨ret_b HN.out.symm, TT.out.trans0 pq.t⟩
   have d1 : (x == y) = true := by simpa using e
   have d2 : (x != y) = false := by simpa using e
   have HI : Hid (EqTo l1 l2 (k + 1)) := eqto_step I.out hkl1 hkl2 (by rw [HX.out, HY.out]; exact e)
   refine wp_region_qt (by kernel_rfl) (by kernel_rfl) ?_
   repeat (go_big_quiet_step (fail))
   with_reducible refine wpQuiet_nil ?_
   rintro _ ⟨pq, rfl⟩
   go_wp2_with fail
   go_roundg (n - (k + 1))
   case measure => omega
   case rel => exact ⟨k + 1, by go_num, by omega, by omega, TT.out.trans0 pq.t, HI⟩
  ·have HN : Hid (res = true) := HRES.out.symm.trans (eqto_all (HM1.out.trans (show n = k by omega)) (HM2.out.trans (show n = k by omega)) I.out)
   obtain rfl : n = k := by omega
   clear I hgk hk hlt
   go_wp2_with fail
   go_ret
   exact ⟨ret_b HN.out.symm, TT.out⟩
theorem seqputs_any (l1 l2 : List PutM) (v1 v2 : Value) (w : World) (h1 : IsPuts w v1 l1) (h2 : IsPuts w v2 l2) :
  Calls Tryz.prog 63 #[v1, v2] w fun e w' => e = .returned (.bool (decide (l1 = l2))) /\ Tch No w w' := by
 obtain ⟨a1, c1, rfl, _⟩ := CellsAt.shape h1
 obtain ⟨a2, c2, rfl, _⟩ := CellsAt.shape h2
 have H1 := Lib.hid h1
 have H2 := Lib.hid h2
 clear h1 h2
 by_cases hlen : l1.length = l2.length
 case neg =>
  have HN : Hid (decide (l1 = l2) = false) := eqto_len hlen
  obtain ⟨n, hn⟩ : ∃ n, l1.length = n := ⟨_, rfl⟩
  obtain ⟨m, hm⟩ : ∃ n, l2.length = n := ⟨_, rfl⟩
  rw [hn, hm] at hlen
  rw [hn] at H1 ⊢
  rw [hm] at H2 ⊢
  have hne : ¬ (n : Int) = (m : Int) := by omega
  clear hn hm hlen
  go_enter Tryz.func63, Tryz.ntmps63
  go_wp2_with fail
  go_ret
  exact ⟨ret_b HN.out.symm, Tch.refl _ _⟩
 obtain ⟨n, hn⟩ : ∃ n, l2.length = n := ⟨_, rfl⟩
 rw [hlen, hn] at H1 ⊢
 rw [hn] at H2
 have HM2 := Lib.hid hn
 have HM1 := Lib.hid (hlen.trans hn)
 have hml : n <= 9223372036854775807 := by
  obtain ⟨_, c, _, h1, h2⟩ := CellsAt.shape H1.out
  unfold maxLen at h2; omega
 obtain ⟨res, hres⟩ : ∃ r, decide (l1 = l2) = r := ⟨_, rfl⟩
 have HRES := Lib.hid hres
 rw [hres]
 clear hlen hn hres
 go_enter Tryz.func63, Tryz.ntmps63
 go_wp2_with fail
 go_loopg [13] n (fun kx s5 wr => ∃ k : Nat, s5 = .int .i64 k /\ k <= n /\ n - k <= kx /\ Hid (Tch No w wr) /\ Hid (EqTo l1 l2 k))
 case atStart => exact ⟨0, rfl, Nat.zero_le _, by omega, Tch.refl _ _, fun i _ _ h => absurd h (Nat.not_lt_zero _)⟩
 case round =>
  obtain ⟨k, rfl, hk, hgk, TT, I⟩ := hrel
  by_cases hlt : k < n
  ·have hkl1 : k < l1.length := by have := HM1.out; omega
   have hkl2 : k < l2.length := by have := HM2.out; omega
   have hb1 : ∃ b o, a1 = some ⟨b, o, none⟩ /\ w.cell? ⟨b, o + k * 2, none⟩ = some (strV (l1[k]'hkl1).q) /\ w.cell? ⟨b, o + k * 2 + 1, none⟩ = some (strV (l1[k]'hkl1).b) := by
    rcases puts_cells H1.out with ⟨_, h0⟩ | ⟨b, o, cap2, h1, _, _, _, h5⟩
    ·rw [h0] at hkl1; simp at hkl1
    ·rw [HM1.out] at h1
     injection h1 with h1 _ _
     exact ⟨b, o, h1, h5 k hkl1⟩
   have hb2 : ∃ b o, a2 = some ⟨b, o, none⟩ /\ w.cell? ⟨b, o + k * 2, none⟩ = some (strV (l2[k]'hkl2).q) /\ w.cell? ⟨b, o + k * 2 + 1, none⟩ = some (strV (l2[k]'hkl2).b) := by
    rcases puts_cells H2.out with ⟨_, h0⟩ | ⟨b, o, cap2, h1, _, _, _, h5⟩
    ·rw [h0] at hkl2; simp at hkl2
    ·rw [HM2.out] at h1
     injection h1 with h1 _ _
     exact ⟨b, o, h1, h5 k hkl2⟩
   obtain ⟨b1, o1, rfl, hc1⟩ := hb1
   obtain ⟨b2, o2, rfl, hc2⟩ := hb2
   obtain ⟨x, hx⟩ : ∃ x, l1[k] = x := ⟨_, rfl⟩
   obtain ⟨y, hy⟩ : ∃ x, l2[k] = x := ⟨_, rfl⟩
   have HX := Lib.hid hx
   have HY := Lib.hid hy
   rw [hx] at hc1
   rw [hy] at hc2
   obtain ⟨sq, hsq, hsqe⟩ := str_letter x.q
   obtain ⟨sb, hsb, hsbe⟩ := str_letter x.b
   obtain ⟨tq, htq⟩ : ∃ z, strV y.q = .string z := ⟨_, rfl⟩
   obtain ⟨tb, htb⟩ : ∃ z, strV y.b = .string z := ⟨_, rfl⟩
   have HQ := Lib.hid (hsqe _ _ htq)
   have HB := Lib.hid (hsbe _ _ htb)
   rw [hsq, hsb] at hc1
   rw [htq, htb] at hc2
   have e1 : ∀ p : TchW wr, p.wo.cell? ⟨b1, o1 + k * 2, none⟩ = some (.string sq) := fun p => (TT.out.trans0 p.t).cell hc1.1 (fun h => h)
   have e2 : ∀ p : TchW wr, p.wo.cell? ⟨b2, o2 + k * 2, none⟩ = some (.string tq) := fun p => (TT.out.trans0 p.t).cell hc2.1 (fun h => h)
   have e3 : ∀ p : TchW wr, p.wo.cell? ⟨b1, o1 + k * 2 + 1, none⟩ = some (.string sb) := fun p => (TT.out.trans0 p.t).cell hc1.2 (fun h => h)
   have e4 : ∀ p : TchW wr, p.wo.cell? ⟨b2, o2 + k * 2 + 1, none⟩ = some (.string tb) := fun p => (TT.out.trans0 p.t).cell hc2.2 (fun h => h)
   clear hc1 hc2 hx hy hsq hsqe hsb hsbe htq htb
   go_upto_region 6 with fail
   by_cases eq : x.q = y.q
   case neg =>
    have d1 : (sq.toList = tq.toList) = False := by have := HQ.out; rw [decide_eq_false eq] at this; simpa using this
    have HN : Hid (res = false) := HRES.out.symm.trans (eqto_bad hkl1 hkl2 (by rw [HX.out, HY.out]; intro e; exact eq (by rw [e])))
    refine wp_region_qt (by kernel_rfl) (by kernel_rfl) ?_
    repeat (go_big_quiet_step (fail))
    with_reducible refine wpQuiet_nil ?_
    rintro _ ⟨pq, rfl⟩
    go_wp2_with fail
    go_ret
    exact ⟨ret_b HN.out.symm, TT.out.trans0 pq.t⟩
   have d1 : (sq.toList = tq.toList) = True := by have := HQ.out; rw [decide_eq_true eq] at this; simpa using this
   have EQ := Lib.hid eq
   clear eq
   by_cases eb : x.b = y.b
   case neg =>
    have d2 : (sb.toList = tb.toList) = False := by have := HB.out; rw [decide_eq_false eb] at this; simpa using this
    have HN : Hid (res = false) := HRES.out.symm.trans (eqto_bad hkl1 hkl2 (by rw [HX.out, HY.out]; intro e; exact eb (by rw [e])))
    refine wp_region_qt (by kernel_rfl) (by kernel_rfl) ?_
    repeat (go_big_quiet_step (fail))
    with_reducible refine wpQuiet_nil ?_
    rintro _ ⟨pq, rfl⟩
    go_wp2_with fail
    go_ret
    exact ⟨ret_b HN.out.symm, TT.out.trans0 pq.t⟩
   have d2 : (sb.toList = tb.toList) = True := by have := HB.out; rw [decide_eq_true eb] at this; simpa using this
   have EB := Lib.hid eb
   clear eb
   have HI : Hid (EqTo l1 l2 (k + 1)) := eqto_step I.out hkl1 hkl2 (by rw [HX.out, HY.out]; cases x; cases y; simp only [PutM.mk.injEq]; exact ⟨EQ.out, EB.out⟩)
   refine wp_region_qt (by kernel_rfl) (by kernel_rfl) ?_
   repeat (go_big_quiet_step (fail))
   with_reducible refine wpQuiet_nil ?_
   rintro _ ⟨pq, rfl⟩
   go_wp2_with fail
   go_roundg (n - (k + 1))
   case measure => omega
   case rel => exact ⟨k + 1, by go_num, by omega, by omega, TT.out.trans0 pq.t, HI⟩
  ·have HN : Hid (res = true) := HRES.out.symm.trans (eqto_all (HM1.out.trans (show n = k by omega)) (HM2.out.trans (show n = k by omega)) I.out)
   obtain rfl : n = k := by omega
   clear I hgk hk hlt
   go_wp2_with fail
   go_ret
   exact ⟨ret_b HN.out.symm, TT.out⟩
theorem seqends_any (l1 l2 : List EndM) (v1 v2 : Value) (w : World) (h1 : IsEnds w v1 l1) (h2 : IsEnds w v2 l2) :
  Calls Tryz.prog 67 #[v1, v2] w fun e w' => e = .returned (.bool (decide (l1 = l2))) /\ Tch No w w' := by
 obtain ⟨a1, c1, rfl, _⟩ := CellsAt.shape h1
 obtain ⟨a2, c2, rfl, _⟩ := CellsAt.shape h2
 have H1 := Lib.hid h1
 have H2 := Lib.hid h2
 clear h1 h2
 by_cases hlen : l1.length = l2.length
 case neg =>
  have HN : Hid (decide (l1 = l2) = false) := eqto_len hlen
  obtain ⟨n, hn⟩ : ∃ n, l1.length = n := ⟨_, rfl⟩
  obtain ⟨m, hm⟩ : ∃ n, l2.length = n := ⟨_, rfl⟩
  rw [hn, hm] at hlen
  rw [hn] at H1 ⊢
  rw [hm] at H2 ⊢
  have hne : ¬ (n : Int) = (m : Int) := by omega
  clear hn hm hlen
  go_enter Tryz.func67, Tryz.ntmps67
  go_wp2_with fail
  go_ret
  exact ⟨ret_b HN.out.symm, Tch.refl _ _⟩
 obtain ⟨n, hn⟩ : ∃ n, l2.length = n := ⟨_, rfl⟩
 rw [hlen, hn] at H1 ⊢
 rw [hn] at H2
 have HM2 := Lib.hid hn
 have HM1 := Lib.hid (hlen.trans hn)
 have hml : n <= 9223372036854775807 := by
  obtain ⟨_, c, _, h1, h2⟩ := CellsAt.shape H1.out
  unfold maxLen at h2; omega
 obtain ⟨res, hres⟩ : ∃ r, decide (l1 = l2) = r := ⟨_, rfl⟩
 have HRES := Lib.hid hres
 rw [hres]
 clear hlen hn hres
 go_enter Tryz.func67, Tryz.ntmps67
 go_wp2_with fail
 go_loopg [13] n (fun kx s5 wr => ∃ k : Nat, s5 = .int .i64 k /\ k <= n /\ n - k <= kx /\ Hid (Tch No w wr) /\ Hid (EqTo l1 l2 k))
 case atStart => exact ⟨0, rfl, Nat.zero_le _, by omega, Tch.refl _ _, fun i _ _ h => absurd h (Nat.not_lt_zero _)⟩
 case round =>
  obtain ⟨k, rfl, hk, hgk, TT, I⟩ := hrel
  by_cases hlt : k < n
  ·have hkl1 : k < l1.length := by have := HM1.out; omega
   have hkl2 : k < l2.length := by have := HM2.out; omega
   have hb1 : ∃ b o, a1 = some ⟨b, o, none⟩ /\ w.cell? ⟨b, o + k * 2, none⟩ = some (.int .i64 (l1[k]'hkl1).tid) /\ w.cell? ⟨b, o + k * 2 + 1, none⟩ = some (.bool (l1[k]'hkl1).yes) := by
    rcases ends_cells H1.out with ⟨_, h0⟩ | ⟨b, o, cap2, h1, _, _, _, h5⟩
    ·rw [h0] at hkl1; simp at hkl1
    ·rw [HM1.out] at h1
     injection h1 with h1 _ _
     exact ⟨b, o, h1, h5 k hkl1⟩
   have hb2 : ∃ b o, a2 = some ⟨b, o, none⟩ /\ w.cell? ⟨b, o + k * 2, none⟩ = some (.int .i64 (l2[k]'hkl2).tid) /\ w.cell? ⟨b, o + k * 2 + 1, none⟩ = some (.bool (l2[k]'hkl2).yes) := by
    rcases ends_cells H2.out with ⟨_, h0⟩ | ⟨b, o, cap2, h1, _, _, _, h5⟩
    ·rw [h0] at hkl2; simp at hkl2
    ·rw [HM2.out] at h1
     injection h1 with h1 _ _
     exact ⟨b, o, h1, h5 k hkl2⟩
   obtain ⟨b1, o1, rfl, hc1⟩ := hb1
   obtain ⟨b2, o2, rfl, hc2⟩ := hb2
   obtain ⟨x, hx⟩ : ∃ x, l1[k] = x := ⟨_, rfl⟩
   obtain ⟨y, hy⟩ : ∃ x, l2[k] = x := ⟨_, rfl⟩
   have HX := Lib.hid hx
   have HY := Lib.hid hy
   rw [hx] at hc1
   rw [hy] at hc2
   obtain ⟨t1, y1⟩ := x
   obtain ⟨t2, y2⟩ := y
   simp only at hc1 hc2
   have e1 : ∀ p : TchW wr, p.wo.cell? ⟨b1, o1 + k * 2, none⟩ = some (.int .i64 t1) := fun p => (TT.out.trans0 p.t).cell hc1.1 (fun h => h)
   have e2 : ∀ p : TchW wr, p.wo.cell? ⟨b2, o2 + k * 2, none⟩ = some (.int .i64 t2) := fun p => (TT.out.trans0 p.t).cell hc2.1 (fun h => h)
   have e3 : ∀ p : TchW wr, p.wo.cell? ⟨b1, o1 + k * 2 + 1, none⟩ = some (.bool y1) := fun p => (TT.out.trans0 p.t).cell hc1.2 (fun h => h)
   have e4 : ∀ p : TchW wr, p.wo.cell? ⟨b2, o2 + k * 2 + 1, none⟩ = some (.bool y2) := fun p => (TT.out.trans0 p.t).cell hc2.2 (fun h => h)
   clear hc1 hc2 hx hy
   go_upto_region 6 with fail
   by_cases e : t1 = t2
   case neg =>
    have d1 : (t1 = t2) = False := eq_false e
    have HN : Hid (res = false) := HRES.out.symm.trans (eqto_bad hkl1 hkl2 (by rw [HX.out, HY.out]; intro h; injection h with h _; exact e h))
    refine wp_region_qt (by kernel_rfl) (by kernel_rfl) ?_
    repeat (go_big_quiet_step (fail))
    with_reducible refine wpQuiet_nil ?_
    rintro _ ⟨pq, rfl⟩
    go_wp2_with fail
    go_ret
    exact ⟨ret_b HN.out.symm, TT.out.trans0 pq.t⟩
   have d1 : (t1 = t2) = True := eq_true e
   have ET := Lib.hid e
   clear e
   by_cases e : y1 = y2
   case neg =>
    have d2 : (y1 = y2) = False := eq_false e
    have HN : Hid (res = false) := HRES.out.symm.trans (eqto_bad hkl1 hkl2 (by rw [HX.out, HY.out]; intro h; injection h with _ h; exact e h))
    refine wp_region_qt (by kernel_rfl) (by kernel_rfl) ?_
    repeat (go_big_quiet_step (fail))
    with_reducible refine wpQuiet_nil ?_
    rintro _ ⟨pq, rfl⟩
    go_wp2_with fail
    go_ret
    exact ⟨ret_b HN.out.symm, TT.out.trans0 pq.t⟩
   have d2 : (y1 = y2) = True := eq_true e
   have EY := Lib.hid e
   clear e
   have HI : Hid (EqTo l1 l2 (k + 1)) := eqto_step I.out hkl1 hkl2 (by rw [HX.out, HY.out, ET.out, EY.out])
   refine wp_region_qt (by kernel_rfl) (by kernel_rfl) ?_
   repeat (go_big_quiet_step (fail))
   with_reducible refine wpQuiet_nil ?_
   rintro _ ⟨pq, rfl⟩
   go_wp2_with fail
   go_roundg (n - (k + 1))
   case measure => omega
   case rel => exact ⟨k + 1, by go_num, by omega, by omega, TT.out.trans0 pq.t, HI⟩
  ·have HN : Hid (res = true) := HRES.out.symm.trans (eqto_all (HM1.out.trans (show n = k by omega)) (HM2.out.trans (show n = k by omega)) I.out)
   obtain rfl : n = k := by omega
   clear I hgk hk hlt
   go_wp2_with fail
   go_ret
   exact ⟨ret_b HN.out.symm, TT.out⟩
theorem seqmsgs_any (l1 l2 : List MsgM) (v1 v2 : Value) (w : World) (h1 : IsMsgs w v1 l1) (h2 : IsMsgs w v2 l2) :
  Calls Tryz.prog 66 #[v1, v2] w fun e w' => e = .returned (.bool (decide (l1 = l2))) /\ Tch No w w' := by
 obtain ⟨a1, c1, rfl, _⟩ := CellsAt.shape h1
 obtain ⟨a2, c2, rfl, _⟩ := CellsAt.shape h2
 have H1 := Lib.hid h1
 have H2 := Lib.hid h2
 clear h1 h2
 by_cases hlen : l1.length = l2.length
 case neg =>
  have HN : Hid (decide (l1 = l2) = false) := eqto_len hlen
  obtain ⟨n, hn⟩ : ∃ n, l1.length = n := ⟨_, rfl⟩
  obtain ⟨m, hm⟩ : ∃ n, l2.length = n := ⟨_, rfl⟩
  rw [hn, hm] at hlen
  rw [hn] at H1 ⊢
  rw [hm] at H2 ⊢
  have hne : ¬ (n : Int) = (m : Int) := by omega
  clear hn hm hlen
  go_enter Tryz.func66, Tryz.ntmps66
  go_wp2_with fail
  go_ret
  exact ⟨ret_b HN.out.symm, Tch.refl _ _⟩
 obtain ⟨n, hn⟩ : ∃ n, l2.length = n := ⟨_, rfl⟩
 rw [hlen, hn] at H1 ⊢
 rw [hn] at H2
 have HM2 := Lib.hid hn
 have HM1 := Lib.hid (hlen.trans hn)
 have hml : n <= 9223372036854775807 := by
  obtain ⟨_, c, _, h1, h2⟩ := CellsAt.shape H1.out
  unfold maxLen at h2; omega
 obtain ⟨res, hres⟩ : ∃ r, decide (l1 = l2) = r := ⟨_, rfl⟩
 have HRES := Lib.hid hres
 rw [hres]
 clear hlen hn hres
 go_enter Tryz.func66, Tryz.ntmps66
 go_wp2_with fail
 go_loopg [13] n (fun kx s5 wr => ∃ k : Nat, s5 = .int .i64 k /\ k <= n /\ n - k <= kx /\ Hid (Tch No w wr) /\ Hid (EqTo l1 l2 k))
 case atStart => exact ⟨0, rfl, Nat.zero_le _, by omega, Tch.refl _ _, fun i _ _ h => absurd h (Nat.not_lt_zero _)⟩
 case round =>
  obtain ⟨k, rfl, hk, hgk, TT, I⟩ := hrel
  by_cases hlt : k < n
  ·have hkl1 : k < l1.length := by have := HM1.out; omega
   have hkl2 : k < l2.length := by have := HM2.out; omega
   have hb1 : ∃ b o, a1 = some ⟨b, o, none⟩ /\ w.cell? ⟨b, o + k * 6, none⟩ = some (.int .i64 (l1[k]'hkl1).id) /\ w.cell? ⟨b, o + k * 6 + 1, none⟩ = some (strV (l1[k]'hkl1).q) /\ w.cell? ⟨b, o + k * 6 + 2, none⟩ = some (strV (l1[k]'hkl1).b) /\ w.cell? ⟨b, o + k * 6 + 3, none⟩ = some (.int .i64 (l1[k]'hkl1).seq) /\ w.cell? ⟨b, o + k * 6 + 4, none⟩ = some (.int .i64 (l1[k]'hkl1).cnt) /\ w.cell? ⟨b, o + k * 6 + 5, none⟩ = some (.int .i64 (l1[k]'hkl1).who) := by
    rcases msgs_cells H1.out with ⟨_, h0⟩ | ⟨b, o, cap2, h1, _, _, _, h5⟩
    ·rw [h0] at hkl1; simp at hkl1
    ·rw [HM1.out] at h1
     injection h1 with h1 _ _
     exact ⟨b, o, h1, h5 k hkl1⟩
   have hb2 : ∃ b o, a2 = some ⟨b, o, none⟩ /\ w.cell? ⟨b, o + k * 6, none⟩ = some (.int .i64 (l2[k]'hkl2).id) /\ w.cell? ⟨b, o + k * 6 + 1, none⟩ = some (strV (l2[k]'hkl2).q) /\ w.cell? ⟨b, o + k * 6 + 2, none⟩ = some (strV (l2[k]'hkl2).b) /\ w.cell? ⟨b, o + k * 6 + 3, none⟩ = some (.int .i64 (l2[k]'hkl2).seq) /\ w.cell? ⟨b, o + k * 6 + 4, none⟩ = some (.int .i64 (l2[k]'hkl2).cnt) /\ w.cell? ⟨b, o + k * 6 + 5, none⟩ = some (.int .i64 (l2[k]'hkl2).who) := by
    rcases msgs_cells H2.out with ⟨_, h0⟩ | ⟨b, o, cap2, h1, _, _, _, h5⟩
    ·rw [h0] at hkl2; simp at hkl2
    ·rw [HM2.out] at h1
     injection h1 with h1 _ _
     exact ⟨b, o, h1, h5 k hkl2⟩
   obtain ⟨b1, o1, rfl, hc1⟩ := hb1
   obtain ⟨b2, o2, rfl, hc2⟩ := hb2
   obtain ⟨x, hx⟩ : ∃ x, l1[k] = x := ⟨_, rfl⟩
   obtain ⟨y, hy⟩ : ∃ x, l2[k] = x := ⟨_, rfl⟩
   have HX := Lib.hid hx
   have HY := Lib.hid hy
   rw [hx] at hc1
   rw [hy] at hc2
   obtain ⟨i1, q1, m1, s1, c1, w1⟩ := x
   obtain ⟨i2, q2, m2, s2, c2, w2⟩ := y
   simp only at hc1 hc2
   obtain ⟨sq, hsq, hsqe⟩ := str_letter q1
   obtain ⟨sb, hsb, hsbe⟩ := str_letter m1
   obtain ⟨tq, htq⟩ : ∃ z, strV q2 = .string z := ⟨_, rfl⟩
   obtain ⟨tb, htb⟩ : ∃ z, strV m2 = .string z := ⟨_, rfl⟩
   have HQ := Lib.hid (hsqe _ _ htq)
   have HB := Lib.hid (hsbe _ _ htb)
   rw [hsq, hsb] at hc1
   rw [htq, htb] at hc2
   obtain ⟨f0, f1, f2, f3, f4, f5⟩ := hc1
   obtain ⟨g0, g1, g2, g3, g4, g5⟩ := hc2
   have e0 := fun (p : TchW wr) => (TT.out.trans0 p.t).cell f0 (fun h => h)
   have k0 := fun (p : TchW wr) => (TT.out.trans0 p.t).cell g0 (fun h => h)
   have e1 := fun (p : TchW wr) => (TT.out.trans0 p.t).cell f1 (fun h => h)
   have k1 := fun (p : TchW wr) => (TT.out.trans0 p.t).cell g1 (fun h => h)
   have e2 := fun (p : TchW wr) => (TT.out.trans0 p.t).cell f2 (fun h => h)
   have k2 := fun (p : TchW wr) => (TT.out.trans0 p.t).cell g2 (fun h => h)
   have e3 := fun (p : TchW wr) => (TT.out.trans0 p.t).cell f3 (fun h => h)
   have k3 := fun (p : TchW wr) => (TT.out.trans0 p.t).cell g3 (fun h => h)
   have e4 := fun (p : TchW wr) => (TT.out.trans0 p.t).cell f4 (fun h => h)
   have k4 := fun (p : TchW wr) => (TT.out.trans0 p.t).cell g4 (fun h => h)
   have e5 := fun (p : TchW wr) => (TT.out.trans0 p.t).cell f5 (fun h => h)
   have k5 := fun (p : TchW wr) => (TT.out.trans0 p.t).cell g5 (fun h => h)
   clear f0 f1 f2 f3 f4 f5 g0 g1 g2 g3 g4 g5 hx hy hsq hsqe hsb hsbe htq htb
   go_upto_region 6 with fail
   by_cases e : i1 = i2
   case neg =>
    have d0 : (i1 = i2) = False := eq_false e
    have E0 := Lib.hid e
    clear e
    have HN : Hid (res = false) := HRES.out.symm.trans (eqto_bad hkl1 hkl2 (by rw [HX.out, HY.out]; intro h; injection h; exact E0.out (by assumption)))
    refine wp_region_qt (by kernel_rfl) (by kernel_rfl) ?_
    repeat (go_big_quiet_step (fail))
    with_reducible refine wpQuiet_nil ?_
    rintro _ ⟨pq, rfl⟩
    go_wp2_with fail
    go_ret
    exact ⟨ret_b HN.out.symm, TT.out.trans0 pq.t⟩
   have d0 : (i1 = i2) = True := eq_true e
   have E0 := Lib.hid e
   clear e
   by_cases e : q1 = q2
   case neg =>
    have d1 : (sq.toList = tq.toList) = False := by have := HQ.out; rw [decide_eq_false e] at this; simpa using this
    have E0 := Lib.hid e
    clear e
    have HN : Hid (res = false) := HRES.out.symm.trans (eqto_bad hkl1 hkl2 (by rw [HX.out, HY.out]; intro h; injection h; exact E0.out (by assumption)))
    refine wp_region_qt (by kernel_rfl) (by kernel_rfl) ?_
    repeat (go_big_quiet_step (fail))
    with_reducible refine wpQuiet_nil ?_
    rintro _ ⟨pq, rfl⟩
    go_wp2_with fail
    go_ret
    exact ⟨ret_b HN.out.symm, TT.out.trans0 pq.t⟩
   have d1 : (sq.toList = tq.toList) = True := by have := HQ.out; rw [decide_eq_true e] at this; simpa using this
   have E1 := Lib.hid e
   clear e
   by_cases e : m1 = m2
   case neg =>
    have d2 : (sb.toList = tb.toList) = False := by have := HB.out; rw [decide_eq_false e] at this; simpa using this
    have E0 := Lib.hid e
    clear e
    have HN : Hid (res = false) := HRES.out.symm.trans (eqto_bad hkl1 hkl2 (by rw [HX.out, HY.out]; intro h; injection h; exact E0.out (by assumption)))
    refine wp_region_qt (by kernel_rfl) (by kernel_rfl) ?_
    repeat (go_big_quiet_step (fail))
    with_reducible refine wpQuiet_nil ?_
    rintro _ ⟨pq, rfl⟩
    go_wp2_with fail
    go_ret
    exact ⟨ret_b HN.out.symm, TT.out.trans0 pq.t⟩
   have d2 : (sb.toList = tb.toList) = True := by have := HB.out; rw [decide_eq_true e] at this; simpa using this
   have E2 := Lib.hid e
   clear e
   by_cases e : s1 = s2
   case neg =>
    have d3 : (s1 = s2) = False := eq_false e
    have E0 := Lib.hid e
    clear e
    have HN : Hid (res = false) := HRES.out.symm.trans (eqto_bad hkl1 hkl2 (by rw [HX.out, HY.out]; intro h; injection h; exact E0.out (by assumption)))
    refine wp_region_qt (by kernel_rfl) (by kernel_rfl) ?_
    repeat (go_big_quiet_step (fail))
    with_reducible refine wpQuiet_nil ?_
    rintro _ ⟨pq, rfl⟩
    go_wp2_with fail
    go_ret
    exact ⟨ret_b HN.out.symm, TT.out.trans0 pq.t⟩
   have d3 : (s1 = s2) = True := eq_true e
   have E3 := Lib.hid e
   clear e
   by_cases e : c1 = c2
   case neg =>
    have d4 : (c1 = c2) = False := eq_false e
    have E0 := Lib.hid e
    clear e
    have HN : Hid (res = false) := HRES.out.symm.trans (eqto_bad hkl1 hkl2 (by rw [HX.out, HY.out]; intro h; injection h; exact E0.out (by assumption)))
    refine wp_region_qt (by kernel_rfl) (by kernel_rfl) ?_
    repeat (go_big_quiet_step (fail))
    with_reducible refine wpQuiet_nil ?_
    rintro _ ⟨pq, rfl⟩
    go_wp2_with fail
    go_ret
    exact ⟨ret_b HN.out.symm, TT.out.trans0 pq.t⟩
   have d4 : (c1 = c2) = True := eq_true e
   have E4 := Lib.hid e
   clear e
   by_cases e : w1 = w2
   case neg =>
    have d5 : (w1 = w2) = False := eq_false e
    have E0 := Lib.hid e
    clear e
    have HN : Hid (res = false) := HRES.out.symm.trans (eqto_bad hkl1 hkl2 (by rw [HX.out, HY.out]; intro h; injection h; exact E0.out (by assumption)))
    refine wp_region_qt (by kernel_rfl) (by kernel_rfl) ?_
    repeat (go_big_quiet_step (fail))
    with_reducible refine wpQuiet_nil ?_
    rintro _ ⟨pq, rfl⟩
    go_wp2_with fail
    go_ret
    exact ⟨ret_b HN.out.symm, TT.out.trans0 pq.t⟩
   have d5 : (w1 = w2) = True := eq_true e
   have E5 := Lib.hid e
   clear e
   have HI : Hid (EqTo l1 l2 (k + 1)) := eqto_step I.out hkl1 hkl2 (by rw [HX.out, HY.out, E0.out, E1.out, E2.out, E3.out, E4.out, E5.out])
   refine wp_region_qt (by kernel_rfl) (by kernel_rfl) ?_
   repeat (go_big_quiet_step (fail))
   with_reducible refine wpQuiet_nil ?_
   rintro _ ⟨pq, rfl⟩
   go_wp2_with fail
   go_roundg (n - (k + 1))
   case measure => omega
   case rel => exact ⟨k + 1, by go_num, by omega, by omega, TT.out.trans0 pq.t, HI⟩
  ·have HN : Hid (res = true) := HRES.out.symm.trans (eqto_all (HM1.out.trans (show n = k by omega)) (HM2.out.trans (show n = k by omega)) I.out)
   obtain rfl : n = k := by omega
   clear I hgk hk hlt
   go_wp2_with fail
   go_ret
   exact ⟨ret_b HN.out.symm, TT.out⟩
theorem seq1_any (x y : BrM) (vx vy : Value) (w : World) (hx : IsPuts w vx x.puts) (hy : IsPuts w vy y.puts) :
  Calls Tryz.prog 62 #[.agg #[.int .i64 x.tid, vx], .agg #[.int .i64 y.tid, vy]] w fun e w' => e = .returned (.bool (decide (x = y))) /\ Tch No w w' := by
 obtain ⟨t1, p1⟩ := x
 obtain ⟨t2, p2⟩ := y
 simp only at hx hy
 obtain ⟨a1, c1, rfl, _⟩ := CellsAt.shape hx
 obtain ⟨a2, c2, rfl, _⟩ := CellsAt.shape hy
 obtain ⟨np, hnp⟩ : ∃ n, p1.length = n := ⟨_, rfl⟩
 obtain ⟨nq, hnq⟩ : ∃ n, p2.length = n := ⟨_, rfl⟩
 rw [hnp] at hx ⊢
 rw [hnq] at hy ⊢
 have HP : Hid (∀ W, Tch No w W -> Calls Tryz.prog 63 #[.slice a1 np c1, .slice a2 nq c2] W fun e w' => e = .returned (.bool (decide (p1 = p2))) /\ Tch No W w') := fun W T => seqputs_any p1 p2 _ _ W (hx.keep T) (hy.keep T)
 obtain ⟨res, hres⟩ : ∃ r, decide ((BrM.mk t1 p1) = BrM.mk t2 p2) = r := ⟨_, rfl⟩
 have HD : Hid (res = ((t1 == t2) && decide (p1 = p2))) := by
  rw [Hid, <- hres, Bool.eq_iff_iff]
  simp only [decide_eq_true_eq, Bool.and_eq_true, beq_iff_eq, BrM.mk.injEq]
 rw [hres]
 generalize decide (p1 = p2) = bp at HP HD
 clear hx hy hnp hnq hres
 cases d1 : (t1 == t2) with
 | false =>
  have d2 : (t1 != t2) = true := by rw [bne, d1]; rfl
  have HN : Hid (res = false) := by rw [Hid, HD.out]; simp [d1]
  go_enter Tryz.func62, Tryz.ntmps62
  go_wp2_with (go_at_call 63; refine (HP.out _ ((Tch.alloc _ _).trans0 (Tch.alloc _ _))).mono ?_; rintro e w3 ⟨rfl, T3⟩)
  go_ret
  exact ⟨ret_b HN.out.symm, (Tch.alloc _ _).trans0 (Tch.alloc _ _)⟩
 | true =>
  have d2 : (t1 != t2) = false := by rw [bne, d1]; rfl
  have HN : Hid (res = bp) := by rw [Hid, HD.out]; simp [d1]
  go_enter Tryz.func62, Tryz.ntmps62
  go_wp2_with (go_at_call 63; refine (HP.out _ ((Tch.alloc _ _).trans0 (Tch.alloc _ _))).mono ?_; rintro e w3 ⟨rfl, T3⟩)
  go_ret
  exact ⟨ret_b HN.out.symm, ((Tch.alloc _ _).trans0 (Tch.alloc _ _)).trans0 T3⟩
theorem seq2_any (x y : PendM) (vx vy : Value) (w : World) (hx : IsInts w vx x.parts) (hy : IsInts w vy y.parts) :
  Calls Tryz.prog 64 #[.agg #[.int .i64 x.tid, vx], .agg #[.int .i64 y.tid, vy]] w fun e w' => e = .returned (.bool (decide (x = y))) /\ Tch No w w' := by
 obtain ⟨t1, p1⟩ := x
 obtain ⟨t2, p2⟩ := y
 simp only at hx hy
 obtain ⟨a1, c1, rfl, _⟩ := CellsAt.shape hx
 obtain ⟨a2, c2, rfl, _⟩ := CellsAt.shape hy
 obtain ⟨np, hnp⟩ : ∃ n, p1.length = n := ⟨_, rfl⟩
 obtain ⟨nq, hnq⟩ : ∃ n, p2.length = n := ⟨_, rfl⟩
 rw [hnp] at hx ⊢
 rw [hnq] at hy ⊢
 have HP : Hid (∀ W, Tch No w W -> Calls Tryz.prog 65 #[.slice a1 np c1, .slice a2 nq c2] W fun e w' => e = .returned (.bool (decide (p1 = p2))) /\ Tch No W w') := fun W T => seqints_any p1 p2 _ _ W (hx.keep T) (hy.keep T)
 obtain ⟨res, hres⟩ : ∃ r, decide ((PendM.mk t1 p1) = PendM.mk t2 p2) = r := ⟨_, rfl⟩
 have HD : Hid (res = ((t1 == t2) && decide (p1 = p2))) := by
  rw [Hid, <- hres, Bool.eq_iff_iff]
  simp only [decide_eq_true_eq, Bool.and_eq_true, beq_iff_eq, PendM.mk.injEq]
 rw [hres]
 generalize decide (p1 = p2) = bp at HP HD
 clear hx hy hnp hnq hres
 cases d1 : (t1 == t2) with
 | false =>
  have d2 : (t1 != t2) = true := by rw [bne, d1]; rfl
  have HN : Hid (res = false) := by rw [Hid, HD.out]; simp [d1]
  go_enter Tryz.func64, Tryz.ntmps64
  go_wp2_with (go_at_call 65; refine (HP.out _ ((Tch.alloc _ _).trans0 (Tch.alloc _ _))).mono ?_; rintro e w3 ⟨rfl, T3⟩)
  go_ret
  exact ⟨ret_b HN.out.symm, (Tch.alloc _ _).trans0 (Tch.alloc _ _)⟩
 | true =>
  have d2 : (t1 != t2) = false := by rw [bne, d1]; rfl
  have HN : Hid (res = bp) := by rw [Hid, HD.out]; simp [d1]
  go_enter Tryz.func64, Tryz.ntmps64
  go_wp2_with (go_at_call 65; refine (HP.out _ ((Tch.alloc _ _).trans0 (Tch.alloc _ _))).mono ?_; rintro e w3 ⟨rfl, T3⟩)
  go_ret
  exact ⟨ret_b HN.out.symm, ((Tch.alloc _ _).trans0 (Tch.alloc _ _)).trans0 T3⟩
end
end Go.Proofs.YtelaljoebdpicaaGreat
