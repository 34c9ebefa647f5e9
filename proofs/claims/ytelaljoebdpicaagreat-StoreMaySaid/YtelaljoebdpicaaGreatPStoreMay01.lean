/- Part 1 of what the proof of StoreMay rests on. No condition. -/
import Derived.Test.YtelaljoebdpicaaGreatPOrderCounts01
import Derived.Test.YtelaljoebdpicaaGreatPOrderCounts02
import Derived.Test.YtelaljoebdpicaaGreatPOrderCounts03
import Derived.Test.YtelaljoebdpicaaGreatPOrderCounts04
import Derived.Test.YtelaljoebdpicaaGreatPOrderCounts05
import Derived.Test.YtelaljoebdpicaaGreatPOrderCounts06
import Derived.Test.YtelaljoebdpicaaGreatPOrderCounts07
import Derived.Test.YtelaljoebdpicaaGreatPOrderCounts08
import Derived.Test.YtelaljoebdpicaaGreatPOrderCounts09
import Derived.Test.YtelaljoebdpicaaGreatPOrderCounts10
import Derived.Test.YtelaljoebdpicaaGreatPOrderCounts11
import Derived.Test.YtelaljoebdpicaaGreatPOrderCounts12
import Derived.Test.YtelaljoebdpicaaGreatPOrderCounts13
import Derived.Test.YtelaljoebdpicaaGreatPOrderCounts14
import Derived.Test.YtelaljoebdpicaaGreatPOrderCounts15
import Derived.Test.YtelaljoebdpicaaGreatPOrderCounts16
import Derived.Test.YtelaljoebdpicaaGreatPOrderCounts17
import Derived.Test.YtelaljoebdpicaaGreatPOrderCounts18
import Derived.Test.YtelaljoebdpicaaGreatPOrderCounts19
import Derived.Test.YtelaljoebdpicaaGreatPOrderCounts20
import Derived.Test.YtelaljoebdpicaaGreatPOrderCounts21
import Derived.Test.YtelaljoebdpicaaGreatPOrderCounts22
import Derived.Test.YtelaljoebdpicaaGreatPOrderCounts23
import Derived.Test.YtelaljoebdpicaaGreatPOrderCounts24
import Derived.Test.YtelaljoebdpicaaGreatPOrderCounts25
import Derived.Test.YtelaljoebdpicaaGreatPOrderCounts26
import Derived.Test.YtelaljoebdpicaaGreatPOrderCounts27
import Derived.Test.YtelaljoebdpicaaGreatPOrderCounts28
import Derived.Test.YtelaljoebdpicaaGreatPOrderCounts29
import Derived.Test.YtelaljoebdpicaaGreatPOrderCounts30
import Derived.Test.YtelaljoebdpicaaGreatPOrderCounts31
import Derived.Test.YtelaljoebdpicaaGreatPOrderCounts32
import Derived.Test.YtelaljoebdpicaaGreatPOrderCounts33
import Derived.Test.YtelaljoebdpicaaGreatPOrderCounts34
import Derived.Test.YtelaljoebdpicaaGreatPOrderCounts35
import Derived.Test.YtelaljoebdpicaaGreatPOrderCounts36
import Derived.Test.YtelaljoebdpicaaGreatPOrderCounts37
import Derived.Test.YtelaljoebdpicaaGreatPOrderCounts38
import Derived.Test.YtelaljoebdpicaaGreatPOrderCounts39
import Derived.Test.YtelaljoebdpicaaGreatPOrderCounts40
import Derived.Test.YtelaljoebdpicaaGreatPOrderCounts41
import Derived.Test.YtelaljoebdpicaaGreatPOrderCounts42
import Derived.Test.YtelaljoebdpicaaGreatPOrderCounts43
import Derived.Test.YtelaljoebdpicaaGreatPOrderCounts44
import Derived.Test.YtelaljoebdpicaaGreatPOrderCounts45
import Derived.Test.YtelaljoebdpicaaGreatPOrderCounts46
import Derived.BigQuiet
import Derived.ChangeSame
import Derived.Deep.CutBlock
import Derived.Deep.DeepFit
import Derived.Deep.Fields
import Derived.Deep.LoopGhost
import Derived.Deep.QuietTactic
import Derived.Deep.RegionHeld3
import Derived.Deep.Slices
import Derived.Laws.IdiomCopy
import Derived.Laws.NewBlocks
import Derived.Lib.AppendZerosOnto
import Derived.Lib.Hide
import Derived.Lib.Overlaps
import Derived.Lib.Strings
import Derived.Maps.AppendAt
import Derived.Maps.OwnOps
import Derived.Maps.OwnSet
import Derived.Maps.RangeWalk
import Derived.OrdersHeld
import Derived.RegionTactic
import Derived.Shelf.SlicesE.Clone
import Derived.Shelf.SlicesG.CompactI
import Derived.Shelf.SlicesG.CompactS
import Derived.Shelf.Sort.Plain
import Derived.Shelf.SortM.Plain
import Derived.Shelf.SortM.SortNone
import Derived.Shelf.Spec.SlicesInsert
import Derived.SizedLaws
import Derived.StillTailTactics
import Derived.StringKeys
import Derived.Test.YtelaljoebdpicaaGreatRows
import Derived.WalkKit
import Derived.WalkLawsBesides
import Derived.WalkSpells
namespace Go.Proofs.YtelaljoebdpicaaGreat
set_option maxRecDepth 100000
set_option maxHeartbeats 60000000
set_option linter.unusedVariables false
set_option linter.unusedSimpArgs false
set_option linter.unusedSectionVars false
section
open Go.RowKit Go.Maps
def newM (b : Int) : StM := if 1 <= b /\ b <= 8 then ⟨b, 1, 1, 0, [], [], [], [], []⟩ else ⟨0, 0, 0, 0, [], [], [], [], []⟩
end
section
open Go.RowKit Go.Maps
def stEmpty (br nid nseq : Int) : Value := .agg #[.int .i64 br, .int .i64 nid, .int .i64 nseq, .int .i64 0, .slice none 0 0, .slice none 0 0, .slice none 0 0, .slice none 0 0, .slice none 0 0]
theorem isst_empty (w : World) (br nid nseq : Int) : IsSt w (stEmpty br nid nseq) ⟨br, nid, nseq, 0, [], [], [], [], []⟩ :=
 ⟨_, _, _, _, _, rfl, CellsAt.nil _ _, ⟨[], rfl, CellsAt.nil _ _, fun i h => absurd h (Nat.not_lt_zero _)⟩, CellsAt.nil _ _, ⟨[], rfl, CellsAt.nil _ _, fun i h => absurd h (Nat.not_lt_zero _)⟩, ⟨[], rfl, CellsAt.nil _ _, fun i h => absurd h (Nat.not_lt_zero _)⟩⟩
end
section
open Go.RowKit Go.Maps
def EqTo {α : Type} (a b : List α) (k : Nat) : Prop := ∀ i (h : i < a.length) (h' : i < b.length), i < k -> a[i] = b[i]
theorem eqto_all {α : Type} [DecidableEq α] {a b : List α} {n : Nat} (h1 : a.length = n) (h2 : b.length = n) (h : EqTo a b n) : decide (a = b) = true := by
 rw [decide_eq_true_eq]
 exact List.ext_getElem (by omega) (fun i hi hi' => h i hi hi' (by omega))
theorem eqto_bad {α : Type} [DecidableEq α] {a b : List α} {k : Nat} (hk : k < a.length) (hk' : k < b.length) (h : a[k] ≠ b[k]) : decide (a = b) = false := by
 rw [decide_eq_false_iff_not]
 intro e
 subst e
 exact h rfl
theorem eqto_len {α : Type} [DecidableEq α] {a b : List α} (h : ¬ a.length = b.length) : decide (a = b) = false := by
 rw [decide_eq_false_iff_not]
 intro e
 subst e
 exact h rfl
theorem eqto_step {α : Type} {a b : List α} {k : Nat} (h : EqTo a b k) (hk : k < a.length) (hk' : k < b.length) (e : a[k] = b[k]) : EqTo a b (k + 1) := by
 intro i h1 h2 hi
 by_cases e2 : i = k
 ·subst e2; exact e
 ·exact h i h1 h2 (by omega)
theorem str_letter (q : Txt) : ∃ s : ByteArray, strV q = .string s /\ ∀ (q' : Txt) (s' : ByteArray), strV q' = .string s' -> (s.toList == s'.toList) = decide (q = q') :=
 ⟨⟨q.toArray⟩, rfl, fun q' s' h => by
  unfold strV at h
  injection h with h
  subst h
  exact str_eq q q'⟩
theorem reqints_any (l1 l2 : List Int) (v1 v2 : Value) (w : World) (h1 : IsInts w v1 l1) (h2 : IsInts w v2 l2) :
  Calls Tryz.prog 139 #[v1, v2] w fun e w' => e = .returned (.bool (decide (l1 = l2))) /\ Tch No w w' := by
 obtain ⟨a1, c1, rfl, _⟩ := CellsAt.shape h1
 obtain ⟨a2, c2, rfl, _⟩ := CellsAt.shape h2
 have H1 := Lib.hid h1
 have H2 := Lib.hid h2
 clear h1 h2
 by_cases hlen : l1.length = l2.length
 case neg =>
  have HN : Hid (decide (l1 = l2) = false) := eqto_len hlen
  obtain ⟨n, hn⟩ : ∃ n, l1.length = n := ⟨_, rfl⟩
  obtain ⟨m, hm⟩ : ∃ n, l2.length = n := ⟨_, rfl⟩
  rw [hn, hm] at hlen
  rw [hn] at H1 ⊢
  rw [hm] at H2 ⊢
  have hne : ¬ (n : Int) = (m : Int) := by omega
  clear hn hm hlen
  go_enter Tryz.func139, Tryz.ntmps139
  go_wp2_with fail
  go_ret
  exact ⟨ret_b HN.out.symm, Tch.refl _ _⟩
 obtain ⟨n, hn⟩ : ∃ n, l2.length = n := ⟨_, rfl⟩
 rw [hlen, hn] at H1 ⊢
 rw [hn] at H2
 have HM2 := Lib.hid hn
 have HM1 := Lib.hid (hlen.trans hn)
 have hml : n <= 9223372036854775807 := by
  obtain ⟨_, c, _, h1, h2⟩ := CellsAt.shape H1.out
  unfold maxLen at h2; omega
 obtain ⟨res, hres⟩ : ∃ r, decide (l1 = l2) = r := ⟨_, rfl⟩
 have HRES := Lib.hid hres
 rw [hres]
 clear hlen hn hres
 go_enter Tryz.func139, Tryz.ntmps139
 go_wp2_with fail
 go_loopg [5] n (fun kx s5 wr => ∃ k : Nat, s5 = .int .i64 k /\ k <= n /\ n - k <= kx /\ Hid (Tch No w wr) /\ Hid (EqTo l1 l2 k))
 case atStart => exact ⟨0, rfl, Nat.zero_le _, by omega, Tch.refl _ _, fun i _ _ h => absurd h (Nat.not_lt_zero _)⟩
 case round =>
  obtain ⟨k, rfl, hk, hgk, TT, I⟩ := hrel
  by_cases hlt : k < n
  ·have hkl1 : k < l1.length := by have := HM1.out; omega
   have hkl2 : k < l2.length := by have := HM2.out; omega
   have hb1 : ∃ b o, a1 = some ⟨b, o, none⟩ /\ w.cell? ⟨b, o + k, none⟩ = some (.int .i64 (l1[k]'hkl1)) := by
    rcases ints_cells H1.out with ⟨_, h0⟩ | ⟨b, o, cap2, h1, _, _, _, h5⟩
    ·rw [h0] at hkl1; simp at hkl1
    ·rw [HM1.out] at h1
     injection h1 with h1 _ _
     exact ⟨b, o, h1, h5 k hkl1⟩
   have hb2 : ∃ b o, a2 = some ⟨b, o, none⟩ /\ w.cell? ⟨b, o + k, none⟩ = some (.int .i64 (l2[k]'hkl2)) := by
    rcases ints_cells H2.out with ⟨_, h0⟩ | ⟨b, o, cap2, h1, _, _, _, h5⟩
    ·rw [h0] at hkl2; simp at hkl2
    ·rw [HM2.out] at h1
     injection h1 with h1 _ _
     exact ⟨b, o, h1, h5 k hkl2⟩
   obtain ⟨b1, o1, rfl, hc1⟩ := hb1
   obtain ⟨b2, o2, rfl, hc2⟩ := hb2
   obtain ⟨x, hx⟩ : ∃ x, l1[k] = x := ⟨_, rfl⟩
   obtain ⟨y, hy⟩ : ∃ x, l2[k] = x := ⟨_, rfl⟩
   have HX := Lib.hid hx
   have HY := Lib.hid hy
   rw [hx] at hc1
   rw [hy] at hc2
   have e1 : ∀ p : TchW wr, p.wo.cell? ⟨b1, o1 + k, none⟩ = some (.int .i64 x) := fun p => (TT.out.trans0 p.t).cell hc1 (fun h => h)
   have e2 : ∀ p : TchW wr, p.wo.cell? ⟨b2, o2 + k, none⟩ = some (.int .i64 y) := fun p => (TT.out.trans0 p.t).cell hc2 (fun h => h)
   clear hc1 hc2 hx hy
   go_upto_region 6 with fail
   by_cases e : x = y
   case neg =>
    have d1 : (x == y) = false := by simpa using e
    have d2 : (x != y) = true := by simpa using e
    have HN : Hid (res = false) := HRES.out.symm.trans (eqto_bad hkl1 hkl2 (by rw [HX.out, HY.out]; exact e))
    refine wp_region_qt (by kernel_rfl) (by kernel_rfl) ?_
    repeat (go_big_quiet_step (fail))
    with_reducible refine wpQuiet_nil ?_
    rintro _ ⟨pq, rfl⟩
    go_wp2_with fail
    go_ret
    exact ⟨ret_b HN.out.symm, TT.out.trans0 pq.t⟩
   have d1 : (x == y) = true := by simpa using e
   have d2 : (x != y) = false := by simpa using e
   have HI : Hid (EqTo l1 l2 (k + 1)) := eqto_step I.out hkl1 hkl2 (by rw [HX.out, HY.out]; exact e)
   refine wp_region_qt (by kernel_rfl) (by kernel_rfl) ?_
   repeat (go_big_quiet_step (fail))
   with_reducible refine wpQuiet_nil ?_
   rintro _ ⟨pq, rfl⟩
   go_wp2_with fail
   go_roundg (n - (k + 1))
   case measure => omega
   case rel => exact ⟨k + 1, by go_num, by omega, by omega, TT.out.trans0 pq.t, HI⟩
  ·have HN : Hid (res = true) := HRES.out.symm.trans (eqto_all (HM1.out.trans (show n = k by omega)) (HM2.out.trans (show n = k by omega)) I.out)
   obtain rfl : n = k := by omega
   clear I hgk hk hlt
   go_wp2_with fail
   go_ret
   exact ⟨ret_b HN.out.symm, TT.out⟩
theorem reqputs_any (l1 l2 : List PutM) (v1 v2 : Value) (w : World) (h1 : IsPuts w v1 l1) (h2 : IsPuts w v2 l2) :
  Calls Tryz.prog 72 #[v1, v2] w fun e w' => e = .returned (.bool (decide (l1 = l2))) /\ Tch No w w' := by
 obtain ⟨a1, c1, rfl, _⟩ := CellsAt.shape h1
 obtain ⟨a2, c2, rfl, _⟩ := CellsAt.shape h2
 have H1 := Lib.hid h1
 have H2 := Lib.hid h2
 clear h1 h2
 by_cases hlen : l1.length = l2.length
 case neg =>
  have HN : Hid (decide (l1 = l2) = false) := eqto_len hlen
  obtain ⟨n, hn⟩ : ∃ n, l1.length = n := ⟨_, rfl⟩
  obtain ⟨m, hm⟩ : ∃ n, l2.length = n := ⟨_, rfl⟩
  rw [hn, hm] at hlen
  rw [hn] at H1 ⊢
  rw [hm] at H2 ⊢
  have hne : ¬ (n : Int) = (m : Int) := by omega
  clear hn hm hlen
  go_enter Tryz.func72, Tryz.ntmps72
  go_wp2_with fail
  go_ret
  exact ⟨ret_b HN.out.symm, Tch.refl _ _⟩
 obtain ⟨n, hn⟩ : ∃ n, l2.length = n := ⟨_, rfl⟩
 rw [hlen, hn] at H1 ⊢
 rw [hn] at H2
 have HM2 := Lib.hid hn
 have HM1 := Lib.hid (hlen.trans hn)
 have hml : n <= 9223372036854775807 := by
  obtain ⟨_, c, _, h1, h2⟩ := CellsAt.shape H1.out
  unfold maxLen at h2; omega
 obtain ⟨res, hres⟩ : ∃ r, decide (l1 = l2) = r := ⟨_, rfl⟩
 have HRES := Lib.hid hres
 rw [hres]
 clear hlen hn hres
 go_enter Tryz.func72, Tryz.ntmps72
 go_wp2_with fail
 go_loopg [5] n (fun kx s5 wr => ∃ k : Nat, s5 = .int .i64 k /\ k <= n /\ n - k <= kx /\ Hid (Tch No w wr) /\ Hid (EqTo l1 l2 k))
 case atStart => exact ⟨0, rfl, Nat.zero_le _, by omega, Tch.refl _ _, fun i _ _ h => absurd h (Nat.not_lt_zero _)⟩
 case round =>
  obtain ⟨k, rfl, hk, hgk, TT, I⟩ := hrel
  by_cases hlt : k < n
  ·have hkl1 : k < l1.length := by have := HM1.out; omega
   have hkl2 : k < l2.length := by have := HM2.out; omega
   have hb1 : ∃ b o, a1 = some ⟨b, o, none⟩ /\ w.cell? ⟨b, o + k * 2, none⟩ = some (strV (l1[k]'hkl1).q) /\ w.cell? ⟨b, o + k * 2 + 1, none⟩ = some (strV (l1[k]'hkl1).b) := by
    rcases puts_cells H1.out with ⟨_, h0⟩ | ⟨b, o, cap2, h1, _, _, _, h5⟩
    ·rw [h0] at hkl1; simp at hkl1
    ·rw [HM1.out] at h1
     injection h1 with h1 _ _
     exact ⟨b, o, h1, h5 k hkl1⟩
   have hb2 : ∃ b o, a2 = some ⟨b, o, none⟩ /\ w.cell? ⟨b, o + k * 2, none⟩ = some (strV (l2[k]'hkl2).q) /\ w.cell? ⟨b, o + k * 2 + 1, none⟩ = some (strV (l2[k]'hkl2).b) := by
    rcases puts_cells H2.out with ⟨_, h0⟩ | ⟨b, o, cap2, h1, _, _, _, h5⟩
    ·rw [h0] at hkl2; simp at hkl2
    ·rw [HM2.out] at h1
     injection h1 with h1 _ _
     exact ⟨b, o, h1, h5 k hkl2⟩
   obtain ⟨b1, o1, rfl, hc1⟩ := hb1
   obtain ⟨b2, o2, rfl, hc2⟩ := hb2
   obtain ⟨x, hx⟩ : ∃ x, l1[k] = x := ⟨_, rfl⟩
   obtain ⟨y, hy⟩ : ∃ x, l2[k] = x := ⟨_, rfl⟩
   have HX := Lib.hid hx
   have HY := Lib.hid hy
   rw [hx] at hc1
   rw [hy] at hc2
   obtain ⟨sq, hsq, hsqe⟩ := str_letter x.q
   obtain ⟨sb, hsb, hsbe⟩ := str_letter x.b
   obtain ⟨tq, htq⟩ : ∃ z, strV y.q = .string z := ⟨_, rfl⟩
   obtain ⟨tb, htb⟩ : ∃ z, strV y.b = .string z := ⟨_, rfl⟩
   have HQ := Lib.hid (hsqe _ _ htq)
   have HB := Lib.hid (hsbe _ _ htb)
   rw [hsq, hsb] at hc1
   rw [htq, htb] at hc2
   have e1 : ∀ p : TchW wr, p.wo.cell? ⟨b1, o1 + k * 2, none⟩ = some (.string sq) := fun p => (TT.out.trans0 p.t).cell hc1.1 (fun h => h)
   have e2 : ∀ p : TchW wr, p.wo.cell? ⟨b2, o2 + k * 2, none⟩ = some (.string tq) := fun p => (TT.out.trans0 p.t).cell hc2.1 (fun h => h)
   have e3 : ∀ p : TchW wr, p.wo.cell? ⟨b1, o1 + k * 2 + 1, none⟩ = some (.string sb) := fun p => (TT.out.trans0 p.t).cell hc1.2 (fun h => h)
   have e4 : ∀ p : TchW wr, p.wo.cell? ⟨b2, o2 + k * 2 + 1, none⟩ = some (.string tb) := fun p => (TT.out.trans0 p.t).cell hc2.2 (fun h => h)
   clear hc1 hc2 hx hy hsq hsqe hsb hsbe htq htb
   go_upto_region 6 with fail
   by_cases eq : x.q = y.q
   case neg =>
    have d1 : (sq.toList == tq.toList) = false := by rw [HQ.out]; exact decide_eq_false eq
    have HN : Hid (res = false) := HRES.out.symm.trans (eqto_bad hkl1 hkl2 (by rw [HX.out, HY.out]; intro e; exact eq (by rw [e])))
    refine wp_region_qt (by kernel_rfl) (by kernel_rfl) ?_
    repeat (go_big_quiet_step (fail))
    with_reducible refine wpQuiet_nil ?_
    rintro _ ⟨pq, rfl⟩
    go_wp2_with fail
    go_ret
    exact ⟨ret_b HN.out.symm, TT.out.trans0 pq.t⟩
   have d1 : (sq.toList == tq.toList) = true := by rw [HQ.out]; exact decide_eq_true eq
   have EQ := Lib.hid eq
   clear eq
   by_cases eb : x.b = y.b
   case neg =>
    have d2 : (sb.toList == tb.toList) = false := by rw [HB.out]; exact decide_eq_false eb
    have HN : Hid (res = false) := HRES.out.symm.trans (eqto_bad hkl1 hkl2 (by rw [HX.out, HY.out]; intro e; exact eb (by rw [e])))
    refine wp_region_qt (by kernel_rfl) (by kernel_rfl) ?_
    repeat (go_big_quiet_step (fail))
    with_reducible refine wpQuiet_nil ?_
    rintro _ ⟨pq, rfl⟩
    go_wp2_with fail
    go_ret
    exact ⟨ret_b HN.out.symm, TT.out.trans0 pq.t⟩
   have d2 : (sb.toList == tb.toList) = true := by rw [HB.out]; exact decide_eq_true eb
   have EB := Lib.hid eb
   clear eb
   have HI : Hid (EqTo l1 l2 (k + 1)) := eqto_step I.out hkl1 hkl2 (by rw [HX.out, HY.out]; cases x; cases y; simp only [PutM.mk.injEq]; exact ⟨EQ.out, EB.out⟩)
   refine wp_region_qt (by kernel_rfl) (by kernel_rfl) ?_
   repeat (go_big_quiet_step (fail))
   with_reducible refine wpQuiet_nil ?_
   rintro _ ⟨pq, rfl⟩
   go_wp2_with fail
   go_roundg (n - (k + 1))
   case measure => omega
   case rel => exact ⟨k + 1, by go_num, by omega, by omega, TT.out.trans0 pq.t, HI⟩
  ·have HN : Hid (res = true) := HRES.out.symm.trans (eqto_all (HM1.out.trans (show n = k by omega)) (HM2.out.trans (show n = k by omega)) I.out)
   obtain rfl : n = k := by omega
   clear I hgk hk hlt
   go_wp2_with fail
   go_ret
   exact ⟨ret_b HN.out.symm, TT.out⟩
theorem reqpends_any (l1 l2 : List PendM) (v1 v2 : Value) (w : World) (h1 : IsPends w v1 l1) (h2 : IsPends w v2 l2) :
  Calls Tryz.prog 70 #[v1, v2] w fun e w' => e = .returned (.bool (decide (l1 = l2))) /\ Tch No w w' := by
 obtain ⟨a1, c1, rfl, _⟩ := IsPends.shape h1
 obtain ⟨a2, c2, rfl, _⟩ := IsPends.shape h2
 have H1 := Lib.hid h1
 have H2 := Lib.hid h2
 clear h1 h2
 by_cases hlen : l1.length = l2.length
 case neg =>
  have HN : Hid (decide (l1 = l2) = false) := eqto_len hlen
  obtain ⟨n, hn⟩ : ∃ n, l1.length = n := ⟨_, rfl⟩
  obtain ⟨m, hm⟩ : ∃ n, l2.length = n := ⟨_, rfl⟩
  rw [hn, hm] at hlen
  rw [hn] at H1 ⊢
  rw [hm] at H2 ⊢
  have hne : ¬ (n : Int) = (m : Int) := by omega
  clear hn hm hlen
  go_enter Tryz.func70, Tryz.ntmps70
  go_wp2_with fail
  go_ret
  exact ⟨ret_b HN.out.symm, Tch.refl _ _⟩
 obtain ⟨n, hn⟩ : ∃ n, l2.length = n := ⟨_, rfl⟩
 rw [hlen, hn] at H1 ⊢
 rw [hn] at H2
 have HM2 := Lib.hid hn
 have HM1 := Lib.hid (hlen.trans hn)
 have hml : n <= 9223372036854775807 := by
  obtain ⟨_, c, _, h1, h2⟩ := IsPends.shape H1.out
  unfold maxLen at h2; omega
 obtain ⟨res, hres⟩ : ∃ r, decide (l1 = l2) = r := ⟨_, rfl⟩
 have HRES := Lib.hid hres
 rw [hres]
 clear hlen hn hres
 go_enter Tryz.func70, Tryz.ntmps70
 go_wp2_with fail
 go_loopg [5] n (fun kx s5 wr => ∃ k : Nat, s5 = .int .i64 k /\ k <= n /\ n - k <= kx /\ Hid (Tch No w wr) /\ Hid (EqTo l1 l2 k))
 case atStart => exact ⟨0, rfl, Nat.zero_le _, by omega, Tch.refl _ _, fun i _ _ h => absurd h (Nat.not_lt_zero _)⟩
 case round =>
  obtain ⟨k, rfl, hk, hgk, TT, I⟩ := hrel
  by_cases hlt : k < n
  ·have hkl1 : k < l1.length := by have := HM1.out; omega
   have hkl2 : k < l2.length := by have := HM2.out; omega
   have hb1 : ∃ b o, a1 = some ⟨b, o, none⟩ /\ w.cell? ⟨b, o + k * 2, none⟩ = some (.int .i64 (l1[k]'hkl1).tid) /\ ∃ a c, w.cell? ⟨b, o + k * 2 + 1, none⟩ = some (.slice a (l1[k]'hkl1).parts.length c) /\ IsInts w (.slice a (l1[k]'hkl1).parts.length c) (l1[k]'hkl1).parts := by
    rcases pends_cells H1.out with ⟨_, h0⟩ | ⟨b, o, cap2, h1, _, _, _, h5⟩
    ·rw [h0] at hkl1; simp at hkl1
    ·rw [HM1.out] at h1
     injection h1 with h1 _ _
     exact ⟨b, o, h1, h5 k hkl1⟩
   have hb2 : ∃ b o, a2 = some ⟨b, o, none⟩ /\ w.cell? ⟨b, o + k * 2, none⟩ = some (.int .i64 (l2[k]'hkl2).tid) /\ ∃ a c, w.cell? ⟨b, o + k * 2 + 1, none⟩ = some (.slice a (l2[k]'hkl2).parts.length c) /\ IsInts w (.slice a (l2[k]'hkl2).parts.length c) (l2[k]'hkl2).parts := by
    rcases pends_cells H2.out with ⟨_, h0⟩ | ⟨b, o, cap2, h1, _, _, _, h5⟩
    ·rw [h0] at hkl2; simp at hkl2
    ·rw [HM2.out] at h1
     injection h1 with h1 _ _
     exact ⟨b, o, h1, h5 k hkl2⟩
   obtain ⟨b1, o1, rfl, hc1⟩ := hb1
   obtain ⟨b2, o2, rfl, hc2⟩ := hb2
   obtain ⟨x, hx⟩ : ∃ x, l1[k] = x := ⟨_, rfl⟩
   obtain ⟨y, hy⟩ : ∃ x, l2[k] = x := ⟨_, rfl⟩
   have HX := Lib.hid hx
   have HY := Lib.hid hy
   rw [hx] at hc1
   rw [hy] at hc2
   obtain ⟨t1, p1⟩ := x
   obtain ⟨t2, p2⟩ := y
   obtain ⟨hc1, pa, pc, hc3, hp1⟩ := hc1
   obtain ⟨hc2, qa, qc, hc4, hp2⟩ := hc2
   simp only at hc1 hc2 hc3 hc4 hp1 hp2
   obtain ⟨np, hnp⟩ : ∃ n, p1.length = n := ⟨_, rfl⟩
   obtain ⟨nq, hnq⟩ : ∃ n, p2.length = n := ⟨_, rfl⟩
   rw [hnp] at hc3 hp1
   rw [hnq] at hc4 hp2
   have e1 : ∀ p : TchW wr, p.wo.cell? ⟨b1, o1 + k * 2, none⟩ = some (.int .i64 t1) := fun p => (TT.out.trans0 p.t).cell hc1 (fun h => h)
   have e2 : ∀ p : TchW wr, p.wo.cell? ⟨b2, o2 + k * 2, none⟩ = some (.int .i64 t2) := fun p => (TT.out.trans0 p.t).cell hc2 (fun h => h)
   have e3 : ∀ p : TchW wr, p.wo.cell? ⟨b1, o1 + k * 2 + 1, none⟩ = some (.slice pa np pc) := fun p => (TT.out.trans0 p.t).cell hc3 (fun h => h)
   have e4 : ∀ p : TchW wr, p.wo.cell? ⟨b2, o2 + k * 2 + 1, none⟩ = some (.slice qa nq qc) := fun p => (TT.out.trans0 p.t).cell hc4 (fun h => h)
   have HP : Hid (∀ p : TchW wr, Calls Tryz.prog 139 #[.slice pa np pc, .slice qa nq qc] p.wo fun e w' => e = .returned (.bool (decide (p1 = p2))) /\ Tch No p.wo w') := fun p => reqints_any p1 p2 _ _ p.wo (hp1.keep (TT.out.trans0 p.t)) (hp2.keep (TT.out.trans0 p.t))
   obtain ⟨bp, hbp⟩ : ∃ b, decide (p1 = p2) = b := ⟨_, rfl⟩
   have HBP := Lib.hid hbp
   rw [hbp] at HP
   clear hc1 hc2 hc3 hc4 hp1 hp2 hnp hnq hx hy hbp
   go_upto_region 6 with fail
   by_cases e : t1 = t2
   case neg =>
    have d1 : (t1 == t2) = false := by simpa using e
    have d2 : (t1 != t2) = true := by simpa using e
    have HN : Hid (res = false) := HRES.out.symm.trans (eqto_bad hkl1 hkl2 (by rw [HX.out, HY.out]; intro h; injection h with h _; exact e h))
    refine wp_region_qt (by kernel_rfl) (by kernel_rfl) ?_
    repeat (go_big_quiet_step ((go_at_call 139; exact qt_t (HP.out _))))
    with_reducible refine wpQuiet_nil ?_
    rintro _ ⟨pq, rfl⟩
    go_wp2_with fail
    go_ret
    exact ⟨ret_b HN.out.symm, TT.out.trans0 pq.t⟩
   have d1 : (t1 == t2) = true := by simpa using e
   have d2 : (t1 != t2) = false := by simpa using e
   have ET := Lib.hid e
   clear e
   cases bp with
   | false =>
    have HN : Hid (res = false) := HRES.out.symm.trans (eqto_bad hkl1 hkl2 (by rw [HX.out, HY.out]; intro h; injection h with _ h; exact (of_decide_eq_false HBP.out) h))
    refine wp_region_qt (by kernel_rfl) (by kernel_rfl) ?_
    repeat (go_big_quiet_step ((go_at_call 139; exact qt_t (HP.out _))))
    with_reducible refine wpQuiet_nil ?_
    rintro _ ⟨pq, rfl⟩
    go_wp2_with fail
    go_ret
    exact ⟨ret_b HN.out.symm, TT.out.trans0 pq.t⟩
   | true =>
    have HI : Hid (EqTo l1 l2 (k + 1)) := eqto_step I.out hkl1 hkl2 (by rw [HX.out, HY.out, ET.out, of_decide_eq_true HBP.out])
    refine wp_region_qt (by kernel_rfl) (by kernel_rfl) ?_
    repeat (go_big_quiet_step ((go_at_call 139; exact qt_t (HP.out _))))
    with_reducible refine wpQuiet_nil ?_
    rintro _ ⟨pq, rfl⟩
    go_wp2_with fail
    go_roundg (n - (k + 1))
    case measure => omega
    case rel => exact ⟨k + 1, by go_num, by omega, by omega, TT.out.trans0 pq.t, HI⟩
  ·have HN : Hid (res = true) := HRES.out.symm.trans (eqto_all (HM1.out.trans (show n = k by omega)) (HM2.out.trans (show n = k by omega)) I.out)
   obtain rfl : n = k := by omega
   clear I hgk hk hlt
   go_wp2_with fail
   go_ret
   exact ⟨ret_b HN.out.symm, TT.out⟩
theorem reqmsg_any (m1 m2 : MsgM) (w : World) :
  Calls Tryz.prog 71 #[.agg (encMsg m1).toArray, .agg (encMsg m2).toArray] w fun e w' => e = .returned (.bool (decide (m1 = m2))) /\ Tch No w w' := by
 obtain ⟨i1, q1, b1, s1, c1, w1⟩ := m1
 obtain ⟨i2, q2, b2, s2, c2, w2⟩ := m2
 obtain ⟨sq, hsq, hsqe⟩ := str_letter q1
 obtain ⟨sb, hsb, hsbe⟩ := str_letter b1
 obtain ⟨tq, htq⟩ : ∃ z, strV q2 = .string z := ⟨_, rfl⟩
 obtain ⟨tb, htb⟩ : ∃ z, strV b2 = .string z := ⟨_, rfl⟩
 have HQ := Lib.hid (hsqe _ _ htq)
 have HB := Lib.hid (hsbe _ _ htb)
 have HD : Hid (decide ((⟨i1, q1, b1, s1, c1, w1⟩ : MsgM) = ⟨i2, q2, b2, s2, c2, w2⟩) = ((((((i1 == i2) && decide (q1 = q2)) && decide (b1 = b2)) && (s1 == s2)) && (c1 == c2)) && (w1 == w2))) := by
  rw [Hid, Bool.eq_iff_iff]
  simp only [decide_eq_true_eq, Bool.and_eq_true, beq_iff_eq, MsgM.mk.injEq, and_assoc]
 unfold encMsg
 simp only
 rw [hsq, hsb, htq, htb]
 obtain ⟨res, hres⟩ : ∃ r, decide ((⟨i1, q1, b1, s1, c1, w1⟩ : MsgM) = ⟨i2, q2, b2, s2, c2, w2⟩) = r := ⟨_, rfl⟩
 rw [hres] at HD ⊢
 rw [<- HQ.out, <- HB.out] at HD
 clear hsq hsqe hsb hsbe htq htb hres HQ HB
 cases d0 : (i1 == i2) with
 | false =>
  have HN : Hid (res = false) := by rw [Hid, HD.out]; simp [d0]
  go_enter Tryz.func71, Tryz.ntmps71
  go_wp2_with fail
  go_ret
  exact ⟨ret_b HN.out.symm, (Tch.alloc _ _).trans0 (Tch.alloc _ _)⟩
 | true =>
 cases d1 : (sq.toList == tq.toList) with
 | false =>
  have HN : Hid (res = false) := by rw [Hid, HD.out]; simp [d0, d1]
  go_enter Tryz.func71, Tryz.ntmps71
  go_wp2_with fail
  go_ret
  exact ⟨ret_b HN.out.symm, (Tch.alloc _ _).trans0 (Tch.alloc _ _)⟩
 | true =>
 cases d2 : (sb.toList == tb.toList) with
 | false =>
  have HN : Hid (res = false) := by rw [Hid, HD.out]; simp [d0, d1, d2]
  go_enter Tryz.func71, Tryz.ntmps71
  go_wp2_with fail
  go_ret
  exact ⟨ret_b HN.out.symm, (Tch.alloc _ _).trans0 (Tch.alloc _ _)⟩
 | true =>
 cases d3 : (s1 == s2) with
 | false =>
  have HN : Hid (res = false) := by rw [Hid, HD.out]; simp [d0, d1, d2, d3]
  go_enter Tryz.func71, Tryz.ntmps71
  go_wp2_with fail
  go_ret
  exact ⟨ret_b HN.out.symm, (Tch.alloc _ _).trans0 (Tch.alloc _ _)⟩
 | true =>
 cases d4 : (c1 == c2) with
 | false =>
  have HN : Hid (res = false) := by rw [Hid, HD.out]; simp [d0, d1, d2, d3, d4]
  go_enter Tryz.func71, Tryz.ntmps71
  go_wp2_with fail
  go_ret
  exact ⟨ret_b HN.out.symm, (Tch.alloc _ _).trans0 (Tch.alloc _ _)⟩
 | true =>
 cases d5 : (w1 == w2) with
 | false =>
  have HN : Hid (res = false) := by rw [Hid, HD.out]; simp [d0, d1, d2, d3, d4, d5]
  go_enter Tryz.func71, Tryz.ntmps71
  go_wp2_with fail
  go_ret
  exact ⟨ret_b HN.out.symm, (Tch.alloc _ _).trans0 (Tch.alloc _ _)⟩
 | true =>
 have HN : Hid (res = true) := by rw [Hid, HD.out]; simp only [d0, d1, d2, d3, d4, d5]; rfl
 go_enter Tryz.func71, Tryz.ntmps71
 go_wp2_with fail
 go_ret
 exact ⟨ret_b HN.out.symm, (Tch.alloc _ _).trans0 (Tch.alloc _ _)⟩
end
section
open Go.RowKit Go.Maps
theorem w_stAgg {T : TypeId} {n : Nat} (hsz : Ev.szOf Tryz.prog T = some n) {o : Oper} {a : Act} {w : World} {K : Act -> World -> Prop} {Q : Exit -> Act -> World -> Prop} {b : Nat} {x y : Operand} {A : Array Value} {l : List Value}
  (ho : o.op = .store T x y) (hp : a.eval x = .pointer (some ⟨b, 0, none⟩)) (hA : w.heap[b]? = some (.cells A T (0, 0))) (hs : A.size = n) (hv : a.eval y = .agg l.toArray) (hl : l.length = n) (hone : ∀ u ∈ l, u.oneCell' = true)
  (h : ∀ z w', w'.heap[b]? = some (.cells l.toArray T (0, 0)) -> Tch (fun q => q = b) w w' -> K (a.put o.dst z) w') : Oper.wp Tryz.prog o a w K Q := by
 have hst := run_storeCells_cells (P := Tryz.prog) b 0 l 0 w (by intro j hj; rw [Nat.zero_add, blk_cell hA j]; simp; omega) (by intro j hj; exact blk_free hA _) hone
 obtain ⟨cur, g1, g2, g3⟩ := blk_sets l 0 w A hA (by omega)
 have hcur : cur = l.toArray := by
  apply Array.ext_getElem?
  intro i
  rw [g3 i]
  simp only [Nat.zero_le, Nat.zero_add, Nat.sub_zero, true_and, List.getElem?_toArray]
  split
  ·rfl
  ·rw [List.getElem?_eq_none (by omega), Array.getElem?_eq_none (by omega)]
 have hr : (execOp a.eval o).run Tryz.prog w = .ok .skip (w.setCells b 0 l) := by
  have hst2 : (storeCells ⟨b, 0, none⟩ l).run Tryz.prog w = .ok () (w.setCells b 0 l) := by simpa using hst
  unfold execOp
  rw [ho]
  simp [hp, hv, Value.cells, Instr.storeAt, Instr.sureAddr, storeVar, Sem.run_bind, Ev.run_sz hsz, hl, hst2]
 unfold Oper.wp
 rw [hr]
 exact h _ _ (by rw [<- hcur]; exact g1) (Tch.setCells (F := fun k => k = b) rfl l 0 w)
def SV (n : Nat) (x : Value) (W : World) : Prop := ∃ s, OkSt s /\ StW (Tch (fun k => k < n) W) x s
def RV (n : Nat) (x : Value) (W : World) : Prop := ∃ r, OkRec r /\ RecW (Tch (fun k => k < n) W) x r
theorem sv_keep {F : Nat -> Prop} {n : Nat} {x : Value} {W W' : World} (h : SV n x W) (t : Tch F W W') (hF : ∀ k, F k -> k < n) : SV n x W' := by
 obtain ⟨s, h1, h2⟩ := h
 exact ⟨s, h1, h2.mono (fun X tx => (t.mono (fun k _ e => hF k e)).trans tx (fun _ _ e => e))⟩
theorem stb_sv (n : Nat) : Stb (SV n) := fun x w w' t h => sv_keep h t (fun _ e => e.elim)
theorem sv_list {n : Nat} {x : Value} {W : World} (h : SV n x W) : ∃ l : List Value, x = .agg l.toArray /\ l.length = 9 /\ ∀ u ∈ l, u.oneCell' = true := by
 obtain ⟨s, _, h2⟩ := h
 obtain ⟨am, cm, aw, cw, ae, ce, ao, co, an, cn, rfl⟩ := stw_vals h2 (Tch.refl _ _)
 refine ⟨_, rfl, rfl, fun u hu => ?_⟩
 simp only [List.mem_cons, List.not_mem_nil, or_false] at hu
 rcases hu with rfl | rfl | rfl | rfl | rfl | rfl | rfl | rfl | rfl <;> rfl
theorem state_sv {w : World} {v : Value} {s : StM} (h : ArgSt w v s) (n : Nat) : ∀ W, Tch No w W -> n <= W.heap.size -> Calls Tryz.prog 13 #[v] W fun e w' => ∃ v', e = .returned v' /\ SV n v' w' /\ Tch No W w' := fun W t hn =>
 (lstate_any s v W (h.keep t)).mono (by
  rintro e w' ⟨v', s', rfl, h1, h2, h3⟩
  exact ⟨v', rfl, ⟨s', h1, h3.mono (fun X tx => tx.mono (fun k _ e => Nat.lt_of_lt_of_le e hn))⟩, h2⟩)
end
end Go.Proofs.YtelaljoebdpicaaGreat
