/- Part 19 of what the proof of OrderRoom rests on. No condition. -/
import Derived.Test.YtfedhcnmdmhppaaGreatPOrderRoom09
import Derived.Test.YtfedhcnmdmhppaaGreatPOrderRoom17
import Derived.Test.YtfedhcnmdmhppaaGreatPOrderRoom18
namespace Go.Proofs.YtfedhcnmdmhppaaGreat
set_option maxRecDepth 100000
set_option maxHeartbeats 60000000
set_option linter.unusedVariables false
set_option linter.unusedSimpArgs false
section
open Go.RowKit Go.Maps
theorem seqints_any (l1 l2 : List Int) (v1 v2 : Value) (w : World) (h1 : IsInts w v1 l1) (h2 : IsInts w v2 l2) :
  Calls Tryz.prog 69 #[v1, v2] w fun e w' => e = .returned (.bool (decide (l1 = l2))) /\ Tch No w w' := by
 obtain ⟨a1, c1, rfl, _⟩ := CellsAt.shape h1
 obtain ⟨a2, c2, rfl, _⟩ := CellsAt.shape h2
 have H1 := Lib.hid h1
 have H2 := Lib.hid h2
 clear h1 h2
 by_cases hlen : l1.length = l2.length
 case neg =>
  have HN : Hid (decide (l1 = l2) = false) := eqto_len hlen
  obtain ⟨n, hn⟩ : ∃ n, l1.length = n := ⟨_, rfl⟩
  obtain ⟨m, hm⟩ : ∃ n, l2.length = n := ⟨_, rfl⟩
  rw [hn, hm] at hlen
  rw [hn] at H1 ⊢
  rw [hm] at H2 ⊢
  have hne : ¬ (n : Int) = (m : Int) := by omega
  clear hn hm hlen
  go_enter Tryz.func69, Tryz.ntmps69
  go_wp2_with fail
  go_ret
  exact ⟨ret_b HN.out.symm, Tch.refl _ _⟩
 obtain ⟨n, hn⟩ : ∃ n, l2.length = n := ⟨_, rfl⟩
 rw [hlen, hn] at H1 ⊢
 rw [hn] at H2
 have HM2 := Lib.hid hn
 have HM1 := Lib.hid (hlen.trans hn)
 have hml : n <= 9223372036854775807 := by
  obtain ⟨_, c, _, h1, h2⟩ := CellsAt.shape H1.out
  unfold maxLen at h2; omega
 obtain ⟨res, hres⟩ : ∃ r, decide (l1 = l2) = r := ⟨_, rfl⟩
 have HRES := Lib.hid hres
 rw [hres]
 clear hlen hn hres
 go_enter Tryz.func69, Tryz.ntmps69
 go_wp2_with fail
 go_loopg [13] n (fun kx s5 wr => ∃ k : Nat, s5 = .int .i64 k /\ k <= n /\ n - k <= kx /\ Hid (Tch No w wr) /\ Hid (EqTo l1 l2 k))
 case atStart => exact ⟨0, rfl, Nat.zero_le _, by omega, Tch.refl _ _, fun i _ _ h => absurd h (Nat.not_lt_zero _)⟩
 case round =>
  obtain ⟨k, rfl, hk, hgk, TT, I⟩ := hrel
  by_cases hlt : k < n
  ·have hkl1 : k < l1.length := by have := HM1.out; omega
   have hkl2 : k < l2.length := by have := HM2.out; omega
   have hb1 : ∃ b o, a1 = some ⟨b, o, none⟩ /\ w.cell? ⟨b, o + k, none⟩ = some (.int .i64 (l1[k]'hkl1)) := by
    rcases ints_cells H1.out with ⟨_, h0⟩ | ⟨b, o, cap2, h1, _, _, _, h5⟩
    ·rw [h0] at hkl1; simp at hkl1
    ·rw [HM1.out] at h1
     injection h1 with h1 _ _
     exact ⟨b, o, h1, h5 k hkl1⟩
   have hb2 : ∃ b o, a2 = some ⟨b, o, none⟩ /\ w.cell? ⟨b, o + k, none⟩ = some (.int .i64 (l2[k]'hkl2)) := by
    rcases ints_cells H2.out with ⟨_, h0⟩ | ⟨b, o, cap2, h1, _, _, _, h5⟩
    ·rw [h0] at hkl2; simp at hkl2
    ·rw [HM2.out] at h1
     injection h1 with h1 _ _
     exact ⟨b, o, h1, h5 k hkl2⟩
   obtain ⟨b1, o1, rfl, hc1⟩ := hb1
   obtain ⟨b2, o2, rfl, hc2⟩ := hb2
   obtain ⟨x, hx⟩ : ∃ x, l1[k] = x := ⟨_, rfl⟩
   obtain ⟨y, hy⟩ : ∃ x, l2[k] = x := ⟨_, rfl⟩
   have HX := Lib.hid hx
   have HY := Lib.hid hy
   rw [hx] at hc1
   rw [hy] at hc2
   have e1 : ∀ p : TchW wr, p.wo.cell? ⟨b1, o1 + k, none⟩ = some (.int .i64 x) := fun p => (TT.out.trans0 p.t).cell hc1 (fun h => h)
   have e2 : ∀ p : TchW wr, p.wo.cell? ⟨b2, o2 + k, none⟩ = some (.int .i64 y) := fun p => (TT.out.trans0 p.t).cell hc2 (fun h => h)
   clear hc1 hc2 hx hy
   go_upto_region 6 with fail
   by_cases e : x = y
   case neg =>
    have d1 : (x == y) = false := by simpa using e
    have d2 : (x != y) = true := by simpa using e
    have HN : Hid (res = false) := HRES.out.symm.trans (eqto_bad hkl1 hkl2 (by rw [HX.out, HY.out]; exact e))
    refine wp_region_qt (by kernel_rfl) (by kernel_rfl) ?_
    repeat (go_big_quiet_step (fail))
    with_reducible refine wpQuiet_nil ?_
    intro _ hw'
    obtain ⟨pq, hw2⟩ := hw'
    subst hw2
    go_wp2_with fail
    go_ret
    exact ⟨ret_b HN.out.symm, TT.out.trans0 pq.t⟩
   have d1 : (x == y) = true := by simpa using e
   have d2 : (x != y) = false := by simpa using e
   have HI : Hid (EqTo l1 l2 (k + 1)) := eqto_step I.out hkl1 hkl2 (by rw [HX.out, HY.out]; exact e)
   refine wp_region_qt (by kernel_rfl) (by kernel_rfl) ?_
   repeat (go_big_quiet_step (fail))
   with_reducible refine wpQuiet_nil ?_
   intro _ hw'
   obtain ⟨pq, hw2⟩ := hw'
   subst hw2
   go_wp2_with fail
   go_roundg (n - (k + 1))
   case measure => omega
   case rel => exact ⟨k + 1, by go_num, by omega, by omega, TT.out.trans0 pq.t, HI⟩
  ·have HN : Hid (res = true) := HRES.out.symm.trans (eqto_all (HM1.out.trans (show n = k by omega)) (HM2.out.trans (show n = k by omega)) I.out)
   obtain rfl : n = k := by omega
   clear I hgk hk hlt
   go_wp2_with fail
   go_ret
   exact ⟨ret_b HN.out.symm, TT.out⟩
theorem seqputs_any (l1 l2 : List PutM) (v1 v2 : Value) (w : World) (h1 : IsPuts w v1 l1) (h2 : IsPuts w v2 l2) :
  Calls Tryz.prog 67 #[v1, v2] w fun e w' => e = .returned (.bool (decide (l1 = l2))) /\ Tch No w w' := by
 obtain ⟨a1, c1, rfl, _⟩ := CellsAt.shape h1
 obtain ⟨a2, c2, rfl, _⟩ := CellsAt.shape h2
 have H1 := Lib.hid h1
 have H2 := Lib.hid h2
 clear h1 h2
 by_cases hlen : l1.length = l2.length
 case neg =>
  have HN : Hid (decide (l1 = l2) = false) := eqto_len hlen
  obtain ⟨n, hn⟩ : ∃ n, l1.length = n := ⟨_, rfl⟩
  obtain ⟨m, hm⟩ : ∃ n, l2.length = n := ⟨_, rfl⟩
  rw [hn, hm] at hlen
  rw [hn] at H1 ⊢
  rw [hm] at H2 ⊢
  have hne : ¬ (n : Int) = (m : Int) := by omega
  clear hn hm hlen
  go_enter Tryz.func67, Tryz.ntmps67
  go_wp2_with fail
  go_ret
  exact ⟨ret_b HN.out.symm, Tch.refl _ _⟩
 obtain ⟨n, hn⟩ : ∃ n, l2.length = n := ⟨_, rfl⟩
 rw [hlen, hn] at H1 ⊢
 rw [hn] at H2
 have HM2 := Lib.hid hn
 have HM1 := Lib.hid (hlen.trans hn)
 have hml : n <= 9223372036854775807 := by
  obtain ⟨_, c, _, h1, h2⟩ := CellsAt.shape H1.out
  unfold maxLen at h2; omega
 obtain ⟨res, hres⟩ : ∃ r, decide (l1 = l2) = r := ⟨_, rfl⟩
 have HRES := Lib.hid hres
 rw [hres]
 clear hlen hn hres
 go_enter Tryz.func67, Tryz.ntmps67
 go_wp2_with fail
 go_loopg [13] n (fun kx s5 wr => ∃ k : Nat, s5 = .int .i64 k /\ k <= n /\ n - k <= kx /\ Hid (Tch No w wr) /\ Hid (EqTo l1 l2 k))
 case atStart => exact ⟨0, rfl, Nat.zero_le _, by omega, Tch.refl _ _, fun i _ _ h => absurd h (Nat.not_lt_zero _)⟩
 case round =>
  obtain ⟨k, rfl, hk, hgk, TT, I⟩ := hrel
  by_cases hlt : k < n
  ·have hkl1 : k < l1.length := by have := HM1.out; omega
   have hkl2 : k < l2.length := by have := HM2.out; omega
   have hb1 : ∃ b o, a1 = some ⟨b, o, none⟩ /\ w.cell? ⟨b, o + k * 2, none⟩ = some (strV (l1[k]'hkl1).q) /\ w.cell? ⟨b, o + k * 2 + 1, none⟩ = some (strV (l1[k]'hkl1).b) := by
    rcases puts_cells H1.out with ⟨_, h0⟩ | ⟨b, o, cap2, h1, _, _, _, h5⟩
    ·rw [h0] at hkl1; simp at hkl1
    ·rw [HM1.out] at h1
     injection h1 with h1 _ _
     exact ⟨b, o, h1, h5 k hkl1⟩
   have hb2 : ∃ b o, a2 = some ⟨b, o, none⟩ /\ w.cell? ⟨b, o + k * 2, none⟩ = some (strV (l2[k]'hkl2).q) /\ w.cell? ⟨b, o + k * 2 + 1, none⟩ = some (strV (l2[k]'hkl2).b) := by
    rcases puts_cells H2.out with ⟨_, h0⟩ | ⟨b, o, cap2, h1, _, _, _, h5⟩
    ·rw [h0] at hkl2; simp at hkl2
    ·rw [HM2.out] at h1
     injection h1 with h1 _ _
     exact ⟨b, o, h1, h5 k hkl2⟩
   obtain ⟨b1, o1, rfl, hc1⟩ := hb1
   obtain ⟨b2, o2, rfl, hc2⟩ := hb2
   obtain ⟨x, hx⟩ : ∃ x, l1[k] = x := ⟨_, rfl⟩
   obtain ⟨y, hy⟩ : ∃ x, l2[k] = x := ⟨_, rfl⟩
   have HX := Lib.hid hx
   have HY := Lib.hid hy
   rw [hx] at hc1
   rw [hy] at hc2
   obtain ⟨sq, hsq, hsqe⟩ := str_letter x.q
   obtain ⟨sb, hsb, hsbe⟩ := str_letter x.b
   obtain ⟨tq, htq⟩ : ∃ z, strV y.q = .string z := ⟨_, rfl⟩
   obtain ⟨tb, htb⟩ : ∃ z, strV y.b = .string z := ⟨_, rfl⟩
   have HQ := Lib.hid (hsqe _ _ htq)
   have HB := Lib.hid (hsbe _ _ htb)
   rw [hsq, hsb] at hc1
   rw [htq, htb] at hc2
   have e1 : ∀ p : TchW wr, p.wo.cell? ⟨b1, o1 + k * 2, none⟩ = some (.string sq) := fun p => (TT.out.trans0 p.t).cell hc1.1 (fun h => h)
   have e2 : ∀ p : TchW wr, p.wo.cell? ⟨b2, o2 + k * 2, none⟩ = some (.string tq) := fun p => (TT.out.trans0 p.t).cell hc2.1 (fun h => h)
   have e3 : ∀ p : TchW wr, p.wo.cell? ⟨b1, o1 + k * 2 + 1, none⟩ = some (.string sb) := fun p => (TT.out.trans0 p.t).cell hc1.2 (fun h => h)
   have e4 : ∀ p : TchW wr, p.wo.cell? ⟨b2, o2 + k * 2 + 1, none⟩ = some (.string tb) := fun p => (TT.out.trans0 p.t).cell hc2.2 (fun h => h)
   clear hc1 hc2 hx hy hsq hsqe hsb hsbe htq htb
   go_upto_region 6 with fail
   by_cases eq : x.q = y.q
   case neg =>
    have d1 : (sq.toList = tq.toList) = False := by have := HQ.out; rw [decide_eq_false eq] at this; simpa using this
    have HN : Hid (res = false) := HRES.out.symm.trans (eqto_bad hkl1 hkl2 (by rw [HX.out, HY.out]; intro e; exact eq (by rw [e])))
    refine wp_region_qt (by kernel_rfl) (by kernel_rfl) ?_
    repeat (go_big_quiet_step (fail))
    with_reducible refine wpQuiet_nil ?_
    intro _ hw'
    obtain ⟨pq, hw2⟩ := hw'
    subst hw2
    go_wp2_with fail
    go_ret
    exact ⟨ret_b HN.out.symm, TT.out.trans0 pq.t⟩
   have d1 : (sq.toList = tq.toList) = True := by have := HQ.out; rw [decide_eq_true eq] at this; simpa using this
   have EQ := Lib.hid eq
   clear eq
   by_cases eb : x.b = y.b
   case neg =>
    have d2 : (sb.toList = tb.toList) = False := by have := HB.out; rw [decide_eq_false eb] at this; simpa using this
    have HN : Hid (res = false) := HRES.out.symm.trans (eqto_bad hkl1 hkl2 (by rw [HX.out, HY.out]; intro e; exact eb (by rw [e])))
    refine wp_region_qt (by kernel_rfl) (by kernel_rfl) ?_
    repeat (go_big_quiet_step (fail))
    with_reducible refine wpQuiet_nil ?_
    intro _ hw'
    obtain ⟨pq, hw2⟩ := hw'
    subst hw2
    go_wp2_with fail
    go_ret
    exact ⟨ret_b HN.out.symm, TT.out.trans0 pq.t⟩
   have d2 : (sb.toList = tb.toList) = True := by have := HB.out; rw [decide_eq_true eb] at this; simpa using this
   have EB := Lib.hid eb
   clear eb
   have HI : Hid (EqTo l1 l2 (k + 1)) := eqto_step I.out hkl1 hkl2 (by rw [HX.out, HY.out]; cases x; cases y; simp only [PutM.mk.injEq]; exact ⟨EQ.out, EB.out⟩)
   refine wp_region_qt (by kernel_rfl) (by kernel_rfl) ?_
   repeat (go_big_quiet_step (fail))
   with_reducible refine wpQuiet_nil ?_
   intro _ hw'
   obtain ⟨pq, hw2⟩ := hw'
   subst hw2
   go_wp2_with fail
   go_roundg (n - (k + 1))
   case measure => omega
   case rel => exact ⟨k + 1, by go_num, by omega, by omega, TT.out.trans0 pq.t, HI⟩
  ·have HN : Hid (res = true) := HRES.out.symm.trans (eqto_all (HM1.out.trans (show n = k by omega)) (HM2.out.trans (show n = k by omega)) I.out)
   obtain rfl : n = k := by omega
   clear I hgk hk hlt
   go_wp2_with fail
   go_ret
   exact ⟨ret_b HN.out.symm, TT.out⟩
theorem seqends_any (l1 l2 : List EndM) (v1 v2 : Value) (w : World) (h1 : IsEnds w v1 l1) (h2 : IsEnds w v2 l2) :
  Calls Tryz.prog 71 #[v1, v2] w fun e w' => e = .returned (.bool (decide (l1 = l2))) /\ Tch No w w' := by
 obtain ⟨a1, c1, rfl, _⟩ := CellsAt.shape h1
 obtain ⟨a2, c2, rfl, _⟩ := CellsAt.shape h2
 have H1 := Lib.hid h1
 have H2 := Lib.hid h2
 clear h1 h2
 by_cases hlen : l1.length = l2.length
 case neg =>
  have HN : Hid (decide (l1 = l2) = false) := eqto_len hlen
  obtain ⟨n, hn⟩ : ∃ n, l1.length = n := ⟨_, rfl⟩
  obtain ⟨m, hm⟩ : ∃ n, l2.length = n := ⟨_, rfl⟩
  rw [hn, hm] at hlen
  rw [hn] at H1 ⊢
  rw [hm] at H2 ⊢
  have hne : ¬ (n : Int) = (m : Int) := by omega
  clear hn hm hlen
  go_enter Tryz.func71, Tryz.ntmps71
  go_wp2_with fail
  go_ret
  exact ⟨ret_b HN.out.symm, Tch.refl _ _⟩
 obtain ⟨n, hn⟩ : ∃ n, l2.length = n := ⟨_, rfl⟩
 rw [hlen, hn] at H1 ⊢
 rw [hn] at H2
 have HM2 := Lib.hid hn
 have HM1 := Lib.hid (hlen.trans hn)
 have hml : n <= 9223372036854775807 := by
  obtain ⟨_, c, _, h1, h2⟩ := CellsAt.shape H1.out
  unfold maxLen at h2; omega
 obtain ⟨res, hres⟩ : ∃ r, decide (l1 = l2) = r := ⟨_, rfl⟩
 have HRES := Lib.hid hres
 rw [hres]
 clear hlen hn hres
 go_enter Tryz.func71, Tryz.ntmps71
 go_wp2_with fail
 go_loopg [13] n (fun kx s5 wr => ∃ k : Nat, s5 = .int .i64 k /\ k <= n /\ n - k <= kx /\ Hid (Tch No w wr) /\ Hid (EqTo l1 l2 k))
 case atStart => exact ⟨0, rfl, Nat.zero_le _, by omega, Tch.refl _ _, fun i _ _ h => absurd h (Nat.not_lt_zero _)⟩
 case round =>
  obtain ⟨k, rfl, hk, hgk, TT, I⟩ := hrel
  by_cases hlt : k < n
  ·have hkl1 : k < l1.length := by have := HM1.out; omega
   have hkl2 : k < l2.length := by have := HM2.out; omega
   have hb1 : ∃ b o, a1 = some ⟨b, o, none⟩ /\ w.cell? ⟨b, o + k * 2, none⟩ = some (.int .i64 (l1[k]'hkl1).tid) /\ w.cell? ⟨b, o + k * 2 + 1, none⟩ = some (.bool (l1[k]'hkl1).yes) := by
    rcases ends_cells H1.out with ⟨_, h0⟩ | ⟨b, o, cap2, h1, _, _, _, h5⟩
    ·rw [h0] at hkl1; simp at hkl1
    ·rw [HM1.out] at h1
     injection h1 with h1 _ _
     exact ⟨b, o, h1, h5 k hkl1⟩
   have hb2 : ∃ b o, a2 = some ⟨b, o, none⟩ /\ w.cell? ⟨b, o + k * 2, none⟩ = some (.int .i64 (l2[k]'hkl2).tid) /\ w.cell? ⟨b, o + k * 2 + 1, none⟩ = some (.bool (l2[k]'hkl2).yes) := by
    rcases ends_cells H2.out with ⟨_, h0⟩ | ⟨b, o, cap2, h1, _, _, _, h5⟩
    ·rw [h0] at hkl2; simp at hkl2
    ·rw [HM2.out] at h1
     injection h1 with h1 _ _
     exact ⟨b, o, h1, h5 k hkl2⟩
   obtain ⟨b1, o1, rfl, hc1⟩ := hb1
   obtain ⟨b2, o2, rfl, hc2⟩ := hb2
   obtain ⟨x, hx⟩ : ∃ x, l1[k] = x := ⟨_, rfl⟩
   obtain ⟨y, hy⟩ : ∃ x, l2[k] = x := ⟨_, rfl⟩
   have HX := Lib.hid hx
   have HY := Lib.hid hy
   rw [hx] at hc1
   rw [hy] at hc2
   obtain ⟨t1, y1⟩ := x
   obtain ⟨t2, y2⟩ := y
   simp only at hc1 hc2
   have e1 : ∀ p : TchW wr, p.wo.cell? ⟨b1, o1 + k * 2, none⟩ = some (.int .i64 t1) := fun p => (TT.out.trans0 p.t).cell hc1.1 (fun h => h)
   have e2 : ∀ p : TchW wr, p.wo.cell? ⟨b2, o2 + k * 2, none⟩ = some (.int .i64 t2) := fun p => (TT.out.trans0 p.t).cell hc2.1 (fun h => h)
   have e3 : ∀ p : TchW wr, p.wo.cell? ⟨b1, o1 + k * 2 + 1, none⟩ = some (.bool y1) := fun p => (TT.out.trans0 p.t).cell hc1.2 (fun h => h)
   have e4 : ∀ p : TchW wr, p.wo.cell? ⟨b2, o2 + k * 2 + 1, none⟩ = some (.bool y2) := fun p => (TT.out.trans0 p.t).cell hc2.2 (fun h => h)
   clear hc1 hc2 hx hy
   go_upto_region 6 with fail
   by_cases e : t1 = t2
   case neg =>
    have d1 : (t1 = t2) = False := eq_false e
    have HN : Hid (res = false) := HRES.out.symm.trans (eqto_bad hkl1 hkl2 (by rw [HX.out, HY.out]; intro h; injection h with h _; exact e h))
    refine wp_region_qt (by kernel_rfl) (by kernel_rfl) ?_
    repeat (go_big_quiet_step (fail))
    with_reducible refine wpQuiet_nil ?_
    intro _ hw'
    obtain ⟨pq, hw2⟩ := hw'
    subst hw2
    go_wp2_with fail
    go_ret
    exact ⟨ret_b HN.out.symm, TT.out.trans0 pq.t⟩
   have d1 : (t1 = t2) = True := eq_true e
   have ET := Lib.hid e
   clear e
   by_cases e : y1 = y2
   case neg =>
    have d2 : (y1 = y2) = False := eq_false e
    have HN : Hid (res = false) := HRES.out.symm.trans (eqto_bad hkl1 hkl2 (by rw [HX.out, HY.out]; intro h; injection h with _ h; exact e h))
    refine wp_region_qt (by kernel_rfl) (by kernel_rfl) ?_
    repeat (go_big_quiet_step (fail))
    with_reducible refine wpQuiet_nil ?_
    intro _ hw'
    obtain ⟨pq, hw2⟩ := hw'
    subst hw2
    go_wp2_with fail
    go_ret
    exact ⟨ret_b HN.out.symm, TT.out.trans0 pq.t⟩
   have d2 : (y1 = y2) = True := eq_true e
   have EY := Lib.hid e
   clear e
   have HI : Hid (EqTo l1 l2 (k + 1)) := eqto_step I.out hkl1 hkl2 (by rw [HX.out, HY.out, ET.out, EY.out])
   refine wp_region_qt (by kernel_rfl) (by kernel_rfl) ?_
   repeat (go_big_quiet_step (fail))
   with_reducible refine wpQuiet_nil ?_
   intro _ hw'
   obtain ⟨pq, hw2⟩ := hw'
   subst hw2
   go_wp2_with fail
   go_roundg (n - (k + 1))
   case measure => omega
   case rel => exact ⟨k + 1, by go_num, by omega, by omega, TT.out.trans0 pq.t, HI⟩
  ·have HN : Hid (res = true) := HRES.out.symm.trans (eqto_all (HM1.out.trans (show n = k by omega)) (HM2.out.trans (show n = k by omega)) I.out)
   obtain rfl : n = k := by omega
   clear I hgk hk hlt
   go_wp2_with fail
   go_ret
   exact ⟨ret_b HN.out.symm, TT.out⟩
theorem seqmsgs_any (l1 l2 : List MsgM) (v1 v2 : Value) (w : World) (h1 : IsMsgs w v1 l1) (h2 : IsMsgs w v2 l2) :
  Calls Tryz.prog 70 #[v1, v2] w fun e w' => e = .returned (.bool (decide (l1 = l2))) /\ Tch No w w' := by
 obtain ⟨a1, c1, rfl, _⟩ := CellsAt.shape h1
 obtain ⟨a2, c2, rfl, _⟩ := CellsAt.shape h2
 have H1 := Lib.hid h1
 have H2 := Lib.hid h2
 clear h1 h2
 by_cases hlen : l1.length = l2.length
 case neg =>
  have HN : Hid (decide (l1 = l2) = false) := eqto_len hlen
  obtain ⟨n, hn⟩ : ∃ n, l1.length = n := ⟨_, rfl⟩
  obtain ⟨m, hm⟩ : ∃ n, l2.length = n := ⟨_, rfl⟩
  rw [hn, hm] at hlen
  rw [hn] at H1 ⊢
  rw [hm] at H2 ⊢
  have hne : ¬ (n : Int) = (m : Int) := by omega
  clear hn hm hlen
  go_enter Tryz.func70, Tryz.ntmps70
  go_wp2_with fail
  go_ret
  exact ⟨ret_b HN.out.symm, Tch.refl _ _⟩
 obtain ⟨n, hn⟩ : ∃ n, l2.length = n := ⟨_, rfl⟩
 rw [hlen, hn] at H1 ⊢
 rw [hn] at H2
 have HM2 := Lib.hid hn
 have HM1 := Lib.hid (hlen.trans hn)
 have hml : n <= 9223372036854775807 := by
  obtain ⟨_, c, _, h1, h2⟩ := CellsAt.shape H1.out
  unfold maxLen at h2; omega
 obtain ⟨res, hres⟩ : ∃ r, decide (l1 = l2) = r := ⟨_, rfl⟩
 have HRES := Lib.hid hres
 rw [hres]
 clear hlen hn hres
 go_enter Tryz.func70, Tryz.ntmps70
 go_wp2_with fail
 go_loopg [13] n (fun kx s5 wr => ∃ k : Nat, s5 = .int .i64 k /\ k <= n /\ n - k <= kx /\ Hid (Tch No w wr) /\ Hid (EqTo l1 l2 k))
 case atStart => exact ⟨0, rfl, Nat.zero_le _, by omega, Tch.refl _ _, fun i _ _ h => absurd h (Nat.not_lt_zero _)⟩
 case round =>
  obtain ⟨k, rfl, hk, hgk, TT, I⟩ := hrel
  by_cases hlt : k < n
  ·have hkl1 : k < l1.length := by have := HM1.out; omega
   have hkl2 : k < l2.length := by have := HM2.out; omega
   have hb1 : ∃ b o, a1 = some ⟨b, o, none⟩ /\ w.cell? ⟨b, o + k * 6, none⟩ = some (.int .i64 (l1[k]'hkl1).id) /\ w.cell? ⟨b, o + k * 6 + 1, none⟩ = some (strV (l1[k]'hkl1).q) /\ w.cell? ⟨b, o + k * 6 + 2, none⟩ = some (strV (l1[k]'hkl1).b) /\ w.cell? ⟨b, o + k * 6 + 3, none⟩ = some (.int .i64 (l1[k]'hkl1).seq) /\ w.cell? ⟨b, o + k * 6 + 4, none⟩ = some (.int .i64 (l1[k]'hkl1).cnt) /\ w.cell? ⟨b, o + k * 6 + 5, none⟩ = some (.int .i64 (l1[k]'hkl1).who) := by
    rcases msgs_cells H1.out with ⟨_, h0⟩ | ⟨b, o, cap2, h1, _, _, _, h5⟩
    ·rw [h0] at hkl1; simp at hkl1
    ·rw [HM1.out] at h1
     injection h1 with h1 _ _
     exact ⟨b, o, h1, h5 k hkl1⟩
   have hb2 : ∃ b o, a2 = some ⟨b, o, none⟩ /\ w.cell? ⟨b, o + k * 6, none⟩ = some (.int .i64 (l2[k]'hkl2).id) /\ w.cell? ⟨b, o + k * 6 + 1, none⟩ = some (strV (l2[k]'hkl2).q) /\ w.cell? ⟨b, o + k * 6 + 2, none⟩ = some (strV (l2[k]'hkl2).b) /\ w.cell? ⟨b, o + k * 6 + 3, none⟩ = some (.int .i64 (l2[k]'hkl2).seq) /\ w.cell? ⟨b, o + k * 6 + 4, none⟩ = some (.int .i64 (l2[k]'hkl2).cnt) /\ w.cell? ⟨b, o + k * 6 + 5, none⟩ = some (.int .i64 (l2[k]'hkl2).who) := by
    rcases msgs_cells H2.out with ⟨_, h0⟩ | ⟨b, o, cap2, h1, _, _, _, h5⟩
    ·rw [h0] at hkl2; simp at hkl2
    ·rw [HM2.out] at h1
     injection h1 with h1 _ _
     exact ⟨b, o, h1, h5 k hkl2⟩
   obtain ⟨b1, o1, rfl, hc1⟩ := hb1
   obtain ⟨b2, o2, rfl, hc2⟩ := hb2
   obtain ⟨x, hx⟩ : ∃ x, l1[k] = x := ⟨_, rfl⟩
   obtain ⟨y, hy⟩ : ∃ x, l2[k] = x := ⟨_, rfl⟩
   have HX := Lib.hid hx
   have HY := Lib.hid hy
   rw [hx] at hc1
   rw [hy] at hc2
   obtain ⟨i1, q1, m1, s1, c1, w1⟩ := x
   obtain ⟨i2, q2, m2, s2, c2, w2⟩ := y
   simp only at hc1 hc2
   obtain ⟨sq, hsq, hsqe⟩ := str_letter q1
   obtain ⟨sb, hsb, hsbe⟩ := str_letter m1
   obtain ⟨tq, htq⟩ : ∃ z, strV q2 = .string z := ⟨_, rfl⟩
   obtain ⟨tb, htb⟩ : ∃ z, strV m2 = .string z := ⟨_, rfl⟩
   have HQ := Lib.hid (hsqe _ _ htq)
   have HB := Lib.hid (hsbe _ _ htb)
   rw [hsq, hsb] at hc1
   rw [htq, htb] at hc2
   obtain ⟨f0, f1, f2, f3, f4, f5⟩ := hc1
   obtain ⟨g0, g1, g2, g3, g4, g5⟩ := hc2
   have e0 := fun (p : TchW wr) => (TT.out.trans0 p.t).cell f0 (fun h => h)
   have k0 := fun (p : TchW wr) => (TT.out.trans0 p.t).cell g0 (fun h => h)
   have e1 := fun (p : TchW wr) => (TT.out.trans0 p.t).cell f1 (fun h => h)
   have k1 := fun (p : TchW wr) => (TT.out.trans0 p.t).cell g1 (fun h => h)
   have e2 := fun (p : TchW wr) => (TT.out.trans0 p.t).cell f2 (fun h => h)
   have k2 := fun (p : TchW wr) => (TT.out.trans0 p.t).cell g2 (fun h => h)
   have e3 := fun (p : TchW wr) => (TT.out.trans0 p.t).cell f3 (fun h => h)
   have k3 := fun (p : TchW wr) => (TT.out.trans0 p.t).cell g3 (fun h => h)
   have e4 := fun (p : TchW wr) => (TT.out.trans0 p.t).cell f4 (fun h => h)
   have k4 := fun (p : TchW wr) => (TT.out.trans0 p.t).cell g4 (fun h => h)
   have e5 := fun (p : TchW wr) => (TT.out.trans0 p.t).cell f5 (fun h => h)
   have k5 := fun (p : TchW wr) => (TT.out.trans0 p.t).cell g5 (fun h => h)
   clear f0 f1 f2 f3 f4 f5 g0 g1 g2 g3 g4 g5 hx hy hsq hsqe hsb hsbe htq htb
   go_upto_region 6 with fail
   by_cases e : i1 = i2
   case neg =>
    have d0 : (i1 = i2) = False := eq_false e
    have E0 := Lib.hid e
    clear e
    have HN : Hid (res = false) := HRES.out.symm.trans (eqto_bad hkl1 hkl2 (by rw [HX.out, HY.out]; intro h; injection h; exact E0.out (by assumption)))
    refine wp_region_qt (by kernel_rfl) (by kernel_rfl) ?_
    repeat (go_big_quiet_step (fail))
    with_reducible refine wpQuiet_nil ?_
    intro _ hw'
    obtain ⟨pq, hw2⟩ := hw'
    subst hw2
    go_wp2_with fail
    go_ret
    exact ⟨ret_b HN.out.symm, TT.out.trans0 pq.t⟩
   have d0 : (i1 = i2) = True := eq_true e
   have E0 := Lib.hid e
   clear e
   by_cases e : q1 = q2
   case neg =>
    have d1 : (sq.toList = tq.toList) = False := by have := HQ.out; rw [decide_eq_false e] at this; simpa using this
    have E0 := Lib.hid e
    clear e
    have HN : Hid (res = false) := HRES.out.symm.trans (eqto_bad hkl1 hkl2 (by rw [HX.out, HY.out]; intro h; injection h; exact E0.out (by assumption)))
    refine wp_region_qt (by kernel_rfl) (by kernel_rfl) ?_
    repeat (go_big_quiet_step (fail))
    with_reducible refine wpQuiet_nil ?_
    intro _ hw'
    obtain ⟨pq, hw2⟩ := hw'
    subst hw2
    go_wp2_with fail
    go_ret
    exact ⟨ret_b HN.out.symm, TT.out.trans0 pq.t⟩
   have d1 : (sq.toList = tq.toList) = True := by have := HQ.out; rw [decide_eq_true e] at this; simpa using this
   have E1 := Lib.hid e
   clear e
   by_cases e : m1 = m2
   case neg =>
    have d2 : (sb.toList = tb.toList) = False := by have := HB.out; rw [decide_eq_false e] at this; simpa using this
    have E0 := Lib.hid e
    clear e
    have HN : Hid (res = false) := HRES.out.symm.trans (eqto_bad hkl1 hkl2 (by rw [HX.out, HY.out]; intro h; injection h; exact E0.out (by assumption)))
    refine wp_region_qt (by kernel_rfl) (by kernel_rfl) ?_
    repeat (go_big_quiet_step (fail))
    with_reducible refine wpQuiet_nil ?_
    intro _ hw'
    obtain ⟨pq, hw2⟩ := hw'
    subst hw2
    go_wp2_with fail
    go_ret
    exact ⟨ret_b HN.out.symm, TT.out.trans0 pq.t⟩
   have d2 : (sb.toList = tb.toList) = True := by have := HB.out; rw [decide_eq_true e] at this; simpa using this
   have E2 := Lib.hid e
   clear e
   by_cases e : s1 = s2
   case neg =>
    have d3 : (s1 = s2) = False := eq_false e
    have E0 := Lib.hid e
    clear e
    have HN : Hid (res = false) := HRES.out.symm.trans (eqto_bad hkl1 hkl2 (by rw [HX.out, HY.out]; intro h; injection h; exact E0.out (by assumption)))
    refine wp_region_qt (by kernel_rfl) (by kernel_rfl) ?_
    repeat (go_big_quiet_step (fail))
    with_reducible refine wpQuiet_nil ?_
    intro _ hw'
    obtain ⟨pq, hw2⟩ := hw'
    subst hw2
    go_wp2_with fail
    go_ret
    exact ⟨ret_b HN.out.symm, TT.out.trans0 pq.t⟩
   have d3 : (s1 = s2) = True := eq_true e
   have E3 := Lib.hid e
   clear e
   by_cases e : c1 = c2
   case neg =>
    have d4 : (c1 = c2) = False := eq_false e
    have E0 := Lib.hid e
    clear e
    have HN : Hid (res = false) := HRES.out.symm.trans (eqto_bad hkl1 hkl2 (by rw [HX.out, HY.out]; intro h; injection h; exact E0.out (by assumption)))
    refine wp_region_qt (by kernel_rfl) (by kernel_rfl) ?_
    repeat (go_big_quiet_step (fail))
    with_reducible refine wpQuiet_nil ?_
    intro _ hw'
    obtain ⟨pq, hw2⟩ := hw'
    subst hw2
    go_wp2_with fail
    go_ret
    exact ⟨ret_b HN.out.symm, TT.out.trans0 pq.t⟩
   have d4 : (c1 = c2) = True := eq_true e
   have E4 := Lib.hid e
   clear e
   by_cases e : w1 = w2
   case neg =>
    have d5 : (w1 = w2) = False := eq_false e
    have E0 := Lib.hid e
    clear e
    have HN : Hid (res = false) := HRES.out.symm.trans (eqto_bad hkl1 hkl2 (by rw [HX.out, HY.out]; intro h; injection h; exact E0.out (by assumption)))
    refine wp_region_qt (by kernel_rfl) (by kernel_rfl) ?_
    repeat (go_big_quiet_step (fail))
    with_reducible refine wpQuiet_nil ?_
    intro _ hw'
    obtain ⟨pq, hw2⟩ := hw'
    subst hw2
    go_wp2_with fail
    go_ret
    exact ⟨ret_b HN.out.symm, TT.out.trans0 pq.t⟩
   have d5 : (w1 = w2) = True := eq_true e
   have E5 := Lib.hid e
   clear e
   have HI : Hid (EqTo l1 l2 (k + 1)) := eqto_step I.out hkl1 hkl2 (by rw [HX.out, HY.out, E0.out, E1.out, E2.out, E3.out, E4.out, E5.out])
   refine wp_region_qt (by kernel_rfl) (by kernel_rfl) ?_
   repeat (go_big_quiet_step (fail))
   with_reducible refine wpQuiet_nil ?_
   intro _ hw'
   obtain ⟨pq, hw2⟩ := hw'
   subst hw2
   go_wp2_with fail
   go_roundg (n - (k + 1))
   case measure => omega
   case rel => exact ⟨k + 1, by go_num, by omega, by omega, TT.out.trans0 pq.t, HI⟩
  ·have HN : Hid (res = true) := HRES.out.symm.trans (eqto_all (HM1.out.trans (show n = k by omega)) (HM2.out.trans (show n = k by omega)) I.out)
   obtain rfl : n = k := by omega
   clear I hgk hk hlt
   go_wp2_with fail
   go_ret
   exact ⟨ret_b HN.out.symm, TT.out⟩
theorem seq1_any (x y : BrM) (vx vy : Value) (w : World) (hx : IsPuts w vx x.puts) (hy : IsPuts w vy y.puts) :
  Calls Tryz.prog 66 #[.agg #[.int .i64 x.tid, vx], .agg #[.int .i64 y.tid, vy]] w fun e w' => e = .returned (.bool (decide (x = y))) /\ Tch No w w' := by
 obtain ⟨t1, p1⟩ := x
 obtain ⟨t2, p2⟩ := y
 simp only at hx hy
 obtain ⟨a1, c1, rfl, _⟩ := CellsAt.shape hx
 obtain ⟨a2, c2, rfl, _⟩ := CellsAt.shape hy
 obtain ⟨np, hnp⟩ : ∃ n, p1.length = n := ⟨_, rfl⟩
 obtain ⟨nq, hnq⟩ : ∃ n, p2.length = n := ⟨_, rfl⟩
 rw [hnp] at hx ⊢
 rw [hnq] at hy ⊢
 have HP : Hid (∀ W, Tch No w W -> Calls Tryz.prog 67 #[.slice a1 np c1, .slice a2 nq c2] W fun e w' => e = .returned (.bool (decide (p1 = p2))) /\ Tch No W w') := fun W T => seqputs_any p1 p2 _ _ W (hx.keep T) (hy.keep T)
 obtain ⟨res, hres⟩ : ∃ r, decide ((BrM.mk t1 p1) = BrM.mk t2 p2) = r := ⟨_, rfl⟩
 have HD : Hid (res = ((t1 == t2) && decide (p1 = p2))) := by
  rw [Hid, <- hres, Bool.eq_iff_iff]
  simp only [decide_eq_true_eq, Bool.and_eq_true, beq_iff_eq, BrM.mk.injEq]
 rw [hres]
 generalize decide (p1 = p2) = bp at HP HD
 clear hx hy hnp hnq hres
 cases d1 : (t1 == t2) with
 | false =>
  have d2 : (t1 != t2) = true := by rw [bne, d1]; rfl
  have HN : Hid (res = false) := by rw [Hid, HD.out]; simp [d1]
  go_enter Tryz.func66, Tryz.ntmps66
  go_wp2_with (go_at_call 67; refine (HP.out _ ((Tch.alloc _ _).trans0 (Tch.alloc _ _))).mono ?_; rintro e w3 ⟨rfl, T3⟩)
  go_ret
  exact ⟨ret_b HN.out.symm, (Tch.alloc _ _).trans0 (Tch.alloc _ _)⟩
 | true =>
  have d2 : (t1 != t2) = false := by rw [bne, d1]; rfl
  have HN : Hid (res = bp) := by rw [Hid, HD.out]; simp [d1]
  go_enter Tryz.func66, Tryz.ntmps66
  go_wp2_with (go_at_call 67; refine (HP.out _ ((Tch.alloc _ _).trans0 (Tch.alloc _ _))).mono ?_; rintro e w3 ⟨rfl, T3⟩)
  go_ret
  exact ⟨ret_b HN.out.symm, ((Tch.alloc _ _).trans0 (Tch.alloc _ _)).trans0 T3⟩
theorem seq2_any (x y : PendM) (vx vy : Value) (w : World) (hx : IsInts w vx x.parts) (hy : IsInts w vy y.parts) :
  Calls Tryz.prog 68 #[.agg #[.int .i64 x.tid, vx], .agg #[.int .i64 y.tid, vy]] w fun e w' => e = .returned (.bool (decide (x = y))) /\ Tch No w w' := by
 obtain ⟨t1, p1⟩ := x
 obtain ⟨t2, p2⟩ := y
 simp only at hx hy
 obtain ⟨a1, c1, rfl, _⟩ := CellsAt.shape hx
 obtain ⟨a2, c2, rfl, _⟩ := CellsAt.shape hy
 obtain ⟨np, hnp⟩ : ∃ n, p1.length = n := ⟨_, rfl⟩
 obtain ⟨nq, hnq⟩ : ∃ n, p2.length = n := ⟨_, rfl⟩
 rw [hnp] at hx ⊢
 rw [hnq] at hy ⊢
 have HP : Hid (∀ W, Tch No w W -> Calls Tryz.prog 69 #[.slice a1 np c1, .slice a2 nq c2] W fun e w' => e = .returned (.bool (decide (p1 = p2))) /\ Tch No W w') := fun W T => seqints_any p1 p2 _ _ W (hx.keep T) (hy.keep T)
 obtain ⟨res, hres⟩ : ∃ r, decide ((PendM.mk t1 p1) = PendM.mk t2 p2) = r := ⟨_, rfl⟩
 have HD : Hid (res = ((t1 == t2) && decide (p1 = p2))) := by
  rw [Hid, <- hres, Bool.eq_iff_iff]
  simp only [decide_eq_true_eq, Bool.and_eq_true, beq_iff_eq, PendM.mk.injEq]
 rw [hres]
 generalize decide (p1 = p2) = bp at HP HD
 clear hx hy hnp hnq hres
 cases d1 : (t1 == t2) with
 | false =>
  have d2 : (t1 != t2) = true := by rw [bne, d1]; rfl
  have HN : Hid (res = false) := by rw [Hid, HD.out]; simp [d1]
  go_enter Tryz.func68, Tryz.ntmps68
  go_wp2_with (go_at_call 69; refine (HP.out _ ((Tch.alloc _ _).trans0 (Tch.alloc _ _))).mono ?_; rintro e w3 ⟨rfl, T3⟩)
  go_ret
  exact ⟨ret_b HN.out.symm, (Tch.alloc _ _).trans0 (Tch.alloc _ _)⟩
 | true =>
  have d2 : (t1 != t2) = false := by rw [bne, d1]; rfl
  have HN : Hid (res = bp) := by rw [Hid, HD.out]; simp [d1]
  go_enter Tryz.func68, Tryz.ntmps68
  go_wp2_with (go_at_call 69; refine (HP.out _ ((Tch.alloc _ _).trans0 (Tch.alloc _ _))).mono ?_; rintro e w3 ⟨rfl, T3⟩)
  go_ret
  exact ⟨ret_b HN.out.symm, ((Tch.alloc _ _).trans0 (Tch.alloc _ _)).trans0 T3⟩
end
section
open Go.RowKit Go.Maps
theorem receq_same (r : RecM) (va vb : Value) (w : World) (ha : IsRec w va r) (hb : IsRec w vb r) :
  Calls Tryz.prog 184 #[va, vb] w fun e w' => e = .returned (.bool true) /\ Tch No w w' := by
 obtain ⟨vp, vu, rfl, hp, hu⟩ := ha
 obtain ⟨vq, vv, rfl, hq, hv⟩ := hb
 obtain ⟨a1, c1, rfl, _, _⟩ := CellsAt.shape hp
 obtain ⟨a2, c2, rfl, _, _⟩ := CellsAt.shape hu
 obtain ⟨a3, c3, rfl, _, _⟩ := CellsAt.shape hq
 obtain ⟨a4, c4, rfl, _, _⟩ := CellsAt.shape hv
 obtain ⟨kd, tid, id, yes, parts, puts⟩ := r
 simp only at hp hu hq hv ⊢
 have HI : Hid (∀ W, Tch No w W -> Calls Tryz.prog 69 #[.slice a1 parts.length c1, .slice a3 parts.length c3] W fun e w' => e = .returned (.bool true) /\ Tch No W w') := fun W t => by
  have h := seqints_any parts parts _ _ W (hp.keep t) (hq.keep t)
  rwa [decide_eq_true (rfl : parts = parts)] at h
 have HU : Hid (∀ W, Tch No w W -> Calls Tryz.prog 67 #[.slice a2 puts.length c2, .slice a4 puts.length c4] W fun e w' => e = .returned (.bool true) /\ Tch No W w') := fun W t => by
  have h := seqputs_any puts puts _ _ W (hu.keep t) (hv.keep t)
  rwa [decide_eq_true (rfl : puts = puts)] at h
 clear hp hu hq hv
 obtain ⟨np, hnp⟩ : ∃ n, parts.length = n := ⟨_, rfl⟩
 obtain ⟨nu, hnu⟩ : ∃ n, puts.length = n := ⟨_, rfl⟩
 rw [hnp] at HI ⊢
 rw [hnu] at HU ⊢
 clear hnp hnu
 have BA : Hid (((w.alloc (.cells #[.int .i64 kd, .int .i64 tid, .int .i64 id, .bool yes, .slice a1 np c1, .slice a2 nu c2] 37)).alloc (.cells #[.int .i64 kd, .int .i64 tid, .int .i64 id, .bool yes, .slice a3 np c3, .slice a4 nu c4] 37)).heap[w.heap.size]? = some (.cells #[.int .i64 kd, .int .i64 tid, .int .i64 id, .bool yes, .slice a1 np c1, .slice a2 nu c2] 37 (0, 0))) := blk_tch (Tch.alloc _ _) (blk_new w _) (fun h => h)
 have BB : Hid (((w.alloc (.cells #[.int .i64 kd, .int .i64 tid, .int .i64 id, .bool yes, .slice a1 np c1, .slice a2 nu c2] 37)).alloc (.cells #[.int .i64 kd, .int .i64 tid, .int .i64 id, .bool yes, .slice a3 np c3, .slice a4 nu c4] 37)).heap[w.heap.size + 1]? = some (.cells #[.int .i64 kd, .int .i64 tid, .int .i64 id, .bool yes, .slice a3 np c3, .slice a4 nu c4] 37 (0, 0))) := by
  have h := blk_new (w.alloc (.cells #[.int .i64 kd, .int .i64 tid, .int .i64 id, .bool yes, .slice a1 np c1, .slice a2 nu c2] 37)) (.cells #[.int .i64 kd, .int .i64 tid, .int .i64 id, .bool yes, .slice a3 np c3, .slice a4 nu c4] 37)
  rwa [size_alloc] at h
 go_enter Tryz.func184, Tryz.ntmps184
 go_wp2_with fail
 refine (HI.out _ ((Tch.alloc _ _).trans0 (Tch.alloc _ _))).mono ?_
 rintro e w1 ⟨rfl, t1⟩
 have x5 : w1.cell? ⟨w.heap.size, 5, none⟩ = some (.slice a2 nu c2) := t1.cell ((blk_cell BA.out 5).trans rfl) (fun h => h)
 have y5 : w1.cell? ⟨w.heap.size + 1, 5, none⟩ = some (.slice a4 nu c4) := t1.cell ((blk_cell BB.out 5).trans rfl) (fun h => h)
 have T1 : Hid (Tch No w w1) := ((Tch.alloc _ _).trans0 (Tch.alloc _ _)).trans0 t1
 clear t1
 go_wp2_with fail
 refine (HU.out _ T1.out).mono ?_
 rintro e w2 ⟨rfl, t2⟩
 go_wp2_with fail
 go_ret
 exact ⟨rfl, T1.out.trans0 t2⟩
theorem kpacket5 (t : Int) (ht : I64 t) (htb : tidB t = true) (w : World) :
  Calls Tryz.prog 183 #[.agg #[.int .i64 5, .int .i64 1, .int .i64 2, .int .i64 t, .int .i64 0, .bool false]] w fun e w' => e = .returned (.bool true) /\ Tch No w w' := by
 have HB1 : Hid (∀ W, Calls Tryz.prog 46 #[.int .i64 1] W fun e w' => e = .returned (.bool true) /\ W = w') := fun W => kbroker_any 1 W
 have HB2 : Hid (∀ W, Calls Tryz.prog 46 #[.int .i64 2] W fun e w' => e = .returned (.bool true) /\ W = w') := fun W => kbroker_any 2 W
 have HT : Hid (∀ W, Calls Tryz.prog 137 #[.int .i64 t] W fun e w' => e = .returned (.bool true) /\ W = w') := fun W => by have h := ktid_any t ht W; rwa [htb] at h
 go_enter Tryz.func183, Tryz.ntmps183
 go_wp2_with fail
 refine (HB1.out _).mono ?_
 rintro e w1 ⟨rfl, rfl⟩
 go_wp2_with fail
 refine (HB2.out _).mono ?_
 rintro e w1 ⟨rfl, rfl⟩
 go_wp2_with fail
 refine (HT.out _).mono ?_
 rintro e w1 ⟨rfl, rfl⟩
 go_wp2_with fail
 go_ret
 exact ⟨rfl, Tch.alloc _ _⟩
theorem recdecode_nil (w : World) :
  Calls Tryz.prog 111 #[.slice none 0 0] w fun e w' => e = .returned (.tuple #[.agg #[.int .i64 0, .int .i64 0, .int .i64 0, .bool false, .slice none 0 0, .slice none 0 0], .int .i64 1]) /\ Tch No w w' := by
 obtain ⟨bs, hbs⟩ : ∃ x, w.heap.size = x := ⟨_, rfl⟩
 have HBS := Lib.hid hbs
 have I0 : Hid (IsIn ((w.alloc (.cells #[.int .i64 0, .int .i64 0, .int .i64 0, .bool false, .slice none 0 0, .slice none 0 0] 37)).alloc (.cells #[.slice none 0 0, .bool false] 185)) (w.alloc (.cells #[.int .i64 0, .int .i64 0, .int .i64 0, .bool false, .slice none 0 0, .slice none 0 0] 37)).heap.size (.slice none 0 0) [] false) := IsIn.made (SlB.ofRow (base := 0) (e := 5) (World.ownsRow_nil _ _ _ _) (by decide))
 have B0 : Hid (((w.alloc (.cells #[.int .i64 0, .int .i64 0, .int .i64 0, .bool false, .slice none 0 0, .slice none 0 0] 37)).alloc (.cells #[.slice none 0 0, .bool false] 185)).heap[w.heap.size]? = some (.cells #[.int .i64 0, .int .i64 0, .int .i64 0, .bool false, .slice none 0 0, .slice none 0 0] 37 (0, 0))) := blk_tch (Tch.alloc _ _) (blk_new w _) (fun h => h)
 have HT0 : Hid (Tch No w ((w.alloc (.cells #[.int .i64 0, .int .i64 0, .int .i64 0, .bool false, .slice none 0 0, .slice none 0 0] 37)).alloc (.cells #[.slice none 0 0, .bool false] 185))) := (Tch.alloc _ _).trans0 (Tch.alloc _ _)
 go_enter Tryz.func111, Tryz.ntmps111
 go_wp2_with fail
 refine (read_any none 0 0 _).mono ?_
 rintro e w1 ⟨rfl, hw1⟩
 rw [<- hw1] at I0 B0 HT0
 clear hw1
 have HIB : Hid ((w.alloc (.cells #[.int .i64 0, .int .i64 0, .int .i64 0, .bool false, .slice none 0 0, .slice none 0 0] 37)).heap.size = w.heap.size + 1) := by rw [Hid]; simp
 obtain ⟨ib, hib⟩ : ∃ x, (w.alloc (.cells #[.int .i64 0, .int .i64 0, .int .i64 0, .bool false, .slice none 0 0, .slice none 0 0] 37)).heap.size = x := ⟨_, rfl⟩
 rw [hib] at I0 HIB ⊢
 rw [hbs] at B0 HIB
 clear hib hbs
 go_wp2_with fail
 refine (ismall_no ib _ _ _ _ I0.out (.inr (by decide))).mono ?_
 rintro e w2 ⟨rfl, i2, t2⟩
 have I2 := Lib.hid i2
 have B2 := Lib.hid (blk_tch t2 B0.out (by have := HIB.out; rw [InF]; omega))
 have T2 : Hid (Tch No w w2) := HT0.out.fresh t2 (fun k e => by have h1 := HIB.out; have h2 := HBS.out; rw [InF] at e; omega)
 clear i2 t2 I0 B0 HT0
 go_wp2_with fail
 refine (ilong_no ib _ _ _ _ I2.out (.inl rfl)).mono ?_
 rintro e w3 ⟨rfl, i3, t3⟩
 have I3 := Lib.hid i3
 have B3 := Lib.hid (blk_tch t3 B2.out (by have := HIB.out; rw [InF]; omega))
 have T3 : Hid (Tch No w w3) := T2.out.fresh t3 (fun k e => by have h1 := HIB.out; have h2 := HBS.out; rw [InF] at e; omega)
 clear i3 t3 I2 B2 T2
 have HH : Hid (∀ W, Calls Tryz.prog 173 #[.int .i64 0] W fun e w' => e = .returned (.tuple #[.bool false, .bool false, .bool false, .bool false]) /\ W = w') := fun W => rechas_any 0 W
 go_wp2_with fail
 obtain ⟨w4, hw4⟩ : ∃ x, w3.alloc (.cells #[.int .i64 0, .int .i64 0, .int .i64 0, .bool false, .slice none 0 0, .slice none 0 0] 37) = x := ⟨_, rfl⟩
 have I4 : Hid (IsIn w4 ib (.slice none 0 0) [] true) := by rw [Hid, <- hw4]; exact I3.out.tch (Tch.alloc _ _) (fun h => h) (fun _ _ h => h)
 have B4 : Hid (w4.heap[bs]? = some (.cells #[.int .i64 0, .int .i64 0, .int .i64 0, .bool false, .slice none 0 0, .slice none 0 0] 37 (0, 0))) := by rw [Hid, <- hw4]; exact blk_tch (Tch.alloc _ _) B3.out (fun h => h)
 have T4 : Hid (Tch No w w4) := by rw [Hid, <- hw4]; exact T3.out.trans0 (Tch.alloc _ _)
 rw [hw4]
 clear hw4
 refine (HH.out _).mono ?_
 rintro e w5 ⟨rfl, rfl⟩
 obtain ⟨wz, hwz, HRZ, TZ⟩ : ∃ X, (((((w4.setCell ⟨bs, 0, none⟩ (.int .i64 0)).setCell ⟨bs, 1, none⟩ (.int .i64 0)).setCell ⟨bs, 2, none⟩ (.int .i64 0)).setCell ⟨bs, 3, none⟩ (.bool false)).setCell ⟨bs, 4, none⟩ (.slice none 0 0)).setCell ⟨bs, 5, none⟩ (.slice none 0 0) = X /\ Hid (X.heap[bs]? = some (.cells #[.int .i64 0, .int .i64 0, .int .i64 0, .bool false, .slice none 0 0, .slice none 0 0] 37 (0, 0))) /\ Hid (Tch (fun k => k = bs) w4 X) := by
  obtain ⟨g1, g2⟩ := set6e (.int .i64 0) (.int .i64 0) (.int .i64 0) (.bool false) (.slice none 0 0) (.slice none 0 0) B4.out
  exact ⟨_, rfl, g1, g2⟩
 obtain ⟨r0, r1, r2, r3, r4, r5⟩ := kc6 B4.out
 obtain ⟨fr0, fr1, fr2, fr3, fr4, fr5⟩ := kf6 B4.out
 go_wp2_with fail
 refine (iend_any ib _ _ _ _ I4.out).mono ?_
 rintro e w5 ⟨rfl, rfl⟩
 go_wp2_with fail
 obtain ⟨q0, q1, q2, q3, q4, q5⟩ := kc6 HRZ.out
 refine bodyPost_ret (v := .tuple #[.agg #[.int .i64 0, .int .i64 0, .int .i64 0, .bool false, .slice none 0 0, .slice none 0 0], .int .i64 1]) (by simp [results, Tryz.results111, go_sem, q0, q1, q2, q3, q4, q5]) rfl ?_
 exact ⟨rfl, T4.out.fresh TZ.out (fun k e => by have := HBS.out; omega)⟩
end
end Go.Proofs.YtfedhcnmdmhppaaGreat
