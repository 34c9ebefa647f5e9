/- Part 4 of what the proof of StoreMay rests on. No condition. -/
import Derived.Test.YtelaljoebdpicaaGreatPOrderCounts01
import Derived.Test.YtelaljoebdpicaaGreatPOrderCounts02
import Derived.Test.YtelaljoebdpicaaGreatPOrderCounts03
import Derived.Test.YtelaljoebdpicaaGreatPOrderCounts04
import Derived.Test.YtelaljoebdpicaaGreatPOrderCounts05
import Derived.Test.YtelaljoebdpicaaGreatPOrderCounts06
import Derived.Test.YtelaljoebdpicaaGreatPOrderCounts07
import Derived.Test.YtelaljoebdpicaaGreatPOrderCounts08
import Derived.Test.YtelaljoebdpicaaGreatPOrderCounts09
import Derived.Test.YtelaljoebdpicaaGreatPOrderCounts10
import Derived.Test.YtelaljoebdpicaaGreatPOrderCounts11
import Derived.Test.YtelaljoebdpicaaGreatPOrderCounts12
import Derived.Test.YtelaljoebdpicaaGreatPOrderCounts13
import Derived.Test.YtelaljoebdpicaaGreatPOrderCounts14
import Derived.Test.YtelaljoebdpicaaGreatPOrderCounts15
import Derived.Test.YtelaljoebdpicaaGreatPOrderCounts16
import Derived.Test.YtelaljoebdpicaaGreatPOrderCounts17
import Derived.Test.YtelaljoebdpicaaGreatPOrderCounts18
import Derived.Test.YtelaljoebdpicaaGreatPOrderCounts19
import Derived.Test.YtelaljoebdpicaaGreatPOrderCounts20
import Derived.Test.YtelaljoebdpicaaGreatPOrderCounts21
import Derived.Test.YtelaljoebdpicaaGreatPOrderCounts22
import Derived.Test.YtelaljoebdpicaaGreatPOrderCounts23
import Derived.Test.YtelaljoebdpicaaGreatPOrderCounts24
import Derived.Test.YtelaljoebdpicaaGreatPOrderCounts25
import Derived.Test.YtelaljoebdpicaaGreatPOrderCounts26
import Derived.Test.YtelaljoebdpicaaGreatPOrderCounts27
import Derived.Test.YtelaljoebdpicaaGreatPOrderCounts28
import Derived.Test.YtelaljoebdpicaaGreatPOrderCounts29
import Derived.Test.YtelaljoebdpicaaGreatPOrderCounts30
import Derived.Test.YtelaljoebdpicaaGreatPOrderCounts31
import Derived.Test.YtelaljoebdpicaaGreatPOrderCounts32
import Derived.Test.YtelaljoebdpicaaGreatPOrderCounts33
import Derived.Test.YtelaljoebdpicaaGreatPOrderCounts34
import Derived.Test.YtelaljoebdpicaaGreatPOrderCounts35
import Derived.Test.YtelaljoebdpicaaGreatPOrderCounts36
import Derived.Test.YtelaljoebdpicaaGreatPOrderCounts37
import Derived.Test.YtelaljoebdpicaaGreatPOrderCounts38
import Derived.Test.YtelaljoebdpicaaGreatPOrderCounts39
import Derived.Test.YtelaljoebdpicaaGreatPOrderCounts40
import Derived.Test.YtelaljoebdpicaaGreatPOrderCounts41
import Derived.Test.YtelaljoebdpicaaGreatPOrderCounts42
import Derived.Test.YtelaljoebdpicaaGreatPOrderCounts43
import Derived.Test.YtelaljoebdpicaaGreatPOrderCounts44
import Derived.Test.YtelaljoebdpicaaGreatPOrderCounts45
import Derived.Test.YtelaljoebdpicaaGreatPOrderCounts46
import Derived.Test.YtelaljoebdpicaaGreatPStoreMay03
namespace Go.Proofs.YtelaljoebdpicaaGreat
set_option maxRecDepth 100000
set_option maxHeartbeats 60000000
set_option linter.unusedVariables false
set_option linter.unusedSimpArgs false
set_option linter.unusedSectionVars false
section
open Go.RowKit Go.Maps
theorem req_any (a b : StM) (va vb : Value) (w : World) (ha : IsSt w va a) (hb : IsSt w vb b) :
  Calls Tryz.prog 17 #[va, vb] w fun e w' => e = .returned (.bool (decide (a = b))) /\ Tch No w w' := by
 obtain ⟨ama, cma, awa, cwa, aea, cea, aoa, coa, ana, cna, rfl, hmsa, hwsa, hesa, hosa, hnsa⟩ := ha.shape
 clear ha
 have HMSa := Lib.hid hmsa
 obtain ⟨nma, hnma⟩ : ∃ n, a.ms.length = n := ⟨_, rfl⟩
 rw [hnma] at HMSa ⊢
 have HNMa := Lib.hid hnma
 have hlnma : nma <= 9223372036854775807 := by
  obtain ⟨_, c, _, h1, h2⟩ := CellsAt.shape HMSa.out
  unfold maxLen at h2; omega
 have HWSa := Lib.hid hwsa
 obtain ⟨nwa, hnwa⟩ : ∃ n, a.waits.length = n := ⟨_, rfl⟩
 rw [hnwa] at HWSa ⊢
 have HNWa := Lib.hid hnwa
 have hlnwa : nwa <= 9223372036854775807 := by
  obtain ⟨_, c, _, h1, h2⟩ := IsBrs.shape HWSa.out
  unfold maxLen at h2; omega
 have HESa := Lib.hid hesa
 obtain ⟨nea, hnea⟩ : ∃ n, a.ends.length = n := ⟨_, rfl⟩
 rw [hnea] at HESa ⊢
 have HNEa := Lib.hid hnea
 have hlnea : nea <= 9223372036854775807 := by
  obtain ⟨_, c, _, h1, h2⟩ := CellsAt.shape HESa.out
  unfold maxLen at h2; omega
 have HOSa := Lib.hid hosa
 obtain ⟨noa, hnoa⟩ : ∃ n, a.opens.length = n := ⟨_, rfl⟩
 rw [hnoa] at HOSa ⊢
 have HNOa := Lib.hid hnoa
 have hlnoa : noa <= 9223372036854775807 := by
  obtain ⟨_, c, _, h1, h2⟩ := IsPends.shape HOSa.out
  unfold maxLen at h2; omega
 have HNSa := Lib.hid hnsa
 obtain ⟨nna, hnna⟩ : ∃ n, a.noes.length = n := ⟨_, rfl⟩
 rw [hnna] at HNSa ⊢
 have HNNa := Lib.hid hnna
 have hlnna : nna <= 9223372036854775807 := by
  obtain ⟨_, c, _, h1, h2⟩ := IsPends.shape HNSa.out
  unfold maxLen at h2; omega
 clear hmsa hwsa hesa hosa hnsa hnma hnwa hnea hnoa hnna
 obtain ⟨amb, cmb, awb, cwb, aeb, ceb, aob, cob, anb, cnb, rfl, hmsb, hwsb, hesb, hosb, hnsb⟩ := hb.shape
 clear hb
 have HMSb := Lib.hid hmsb
 obtain ⟨nmb, hnmb⟩ : ∃ n, b.ms.length = n := ⟨_, rfl⟩
 rw [hnmb] at HMSb ⊢
 have HNMb := Lib.hid hnmb
 have hlnmb : nmb <= 9223372036854775807 := by
  obtain ⟨_, c, _, h1, h2⟩ := CellsAt.shape HMSb.out
  unfold maxLen at h2; omega
 have HWSb := Lib.hid hwsb
 obtain ⟨nwb, hnwb⟩ : ∃ n, b.waits.length = n := ⟨_, rfl⟩
 rw [hnwb] at HWSb ⊢
 have HNWb := Lib.hid hnwb
 have hlnwb : nwb <= 9223372036854775807 := by
  obtain ⟨_, c, _, h1, h2⟩ := IsBrs.shape HWSb.out
  unfold maxLen at h2; omega
 have HESb := Lib.hid hesb
 obtain ⟨neb, hneb⟩ : ∃ n, b.ends.length = n := ⟨_, rfl⟩
 rw [hneb] at HESb ⊢
 have HNEb := Lib.hid hneb
 have hlneb : neb <= 9223372036854775807 := by
  obtain ⟨_, c, _, h1, h2⟩ := CellsAt.shape HESb.out
  unfold maxLen at h2; omega
 have HOSb := Lib.hid hosb
 obtain ⟨nob, hnob⟩ : ∃ n, b.opens.length = n := ⟨_, rfl⟩
 rw [hnob] at HOSb ⊢
 have HNOb := Lib.hid hnob
 have hlnob : nob <= 9223372036854775807 := by
  obtain ⟨_, c, _, h1, h2⟩ := IsPends.shape HOSb.out
  unfold maxLen at h2; omega
 have HNSb := Lib.hid hnsb
 obtain ⟨nnb, hnnb⟩ : ∃ n, b.noes.length = n := ⟨_, rfl⟩
 rw [hnnb] at HNSb ⊢
 have HNNb := Lib.hid hnnb
 have hlnnb : nnb <= 9223372036854775807 := by
  obtain ⟨_, c, _, h1, h2⟩ := IsPends.shape HNSb.out
  unfold maxLen at h2; omega
 clear hmsb hwsb hesb hosb hnsb hnmb hnwb hneb hnob hnnb
 have HCO : Hid (∀ W, Tch No w W -> Calls Tryz.prog 70 #[.slice aoa noa coa, .slice aob nob cob] W fun e w' => e = .returned (.bool (decide (a.opens = b.opens))) /\ Tch No W w') := fun W T => reqpends_any a.opens b.opens _ _ W (HOSa.out.keep T) (HOSb.out.keep T)
 have HCN : Hid (∀ W, Tch No w W -> Calls Tryz.prog 70 #[.slice ana nna cna, .slice anb nnb cnb] W fun e w' => e = .returned (.bool (decide (a.noes = b.noes))) /\ Tch No W w') := fun W T => reqpends_any a.noes b.noes _ _ W (HNSa.out.keep T) (HNSb.out.keep T)
 obtain ⟨res, hres⟩ : ∃ r, decide (a = b) = r := ⟨_, rfl⟩
 have HRES := Lib.hid hres
 obtain ⟨q4, hq4⟩ : ∃ r, decide (a.opens = b.opens) = r := ⟨_, rfl⟩
 obtain ⟨q5, hq5⟩ : ∃ r, decide (a.noes = b.noes) = r := ⟨_, rfl⟩
 have HQ4 := Lib.hid hq4
 have HQ5 := Lib.hid hq5
 rw [hq4] at HCO
 rw [hq5] at HCN
 rw [hres]
 clear hres hq4 hq5
 unfold stV
 go_enter Tryz.func17, Tryz.ntmps17
 go_upto_region 1 with fail
 refine wp_world (fun wx => Hid (Tch No w wx) /\ Hid (BoxAt wx w.heap.size [.int .i64 a.broker, .int .i64 a.nid, .int .i64 a.nseq, .int .i64 a.tx, .slice ama nma cma, .slice awa nwa cwa, .slice aea nea cea, .slice aoa noa coa, .slice ana nna cna]) /\ Hid (BoxAt wx (w.heap.size + 1) [.int .i64 b.broker, .int .i64 b.nid, .int .i64 b.nseq, .int .i64 b.tx, .slice amb nmb cmb, .slice awb nwb cwb, .slice aeb neb ceb, .slice aob nob cob, .slice anb nnb cnb])) ⟨(Tch.alloc _ _).trans0 (Tch.alloc _ _), box2a _ _ _ _ _, box2b _ _ _ _ _⟩ ?_
 rintro wc ⟨TT, HB, HB2⟩
 dsimp only [List.append]
 refine wp_world (fun w4 => ∃ p : TchW wc, w4 = p.wo) ⟨⟨wc, Tch.refl _ _⟩, rfl⟩ ?_
 rintro _ ⟨p0, rfl⟩
 obtain ⟨c0, c1, c2, c3, c4, c5, c6, c7, c8⟩ := kb9 HB.out
 obtain ⟨g0, g1, g2, g3, g4, g5, g6, g7, g8⟩ := kb9 HB2.out
 by_cases d0 : a.broker = b.broker
 case neg =>
  have HN : Hid (res = false) := HRES.out.symm.trans (decide_eq_false (fun e => d0 (by rw [e])))
  go_wp2_with (first
   | (go_at_call 70; with_reducible refine cz HCO.out TT fun q' => ?_)
   | (go_at_call 70; with_reducible refine cz HCN.out TT fun q' => ?_))
  go_ret
  exact ⟨ret_b HN.out.symm, TT.out.trans0 (TchW.t _)⟩
 by_cases d1 : a.nid = b.nid
 case neg =>
  have HN : Hid (res = false) := HRES.out.symm.trans (decide_eq_false (fun e => d1 (by rw [e])))
  go_wp2_with (first
   | (go_at_call 70; with_reducible refine cz HCO.out TT fun q' => ?_)
   | (go_at_call 70; with_reducible refine cz HCN.out TT fun q' => ?_))
  go_ret
  exact ⟨ret_b HN.out.symm, TT.out.trans0 (TchW.t _)⟩
 by_cases d2 : a.nseq = b.nseq
 case neg =>
  have HN : Hid (res = false) := HRES.out.symm.trans (decide_eq_false (fun e => d2 (by rw [e])))
  go_wp2_with (first
   | (go_at_call 70; with_reducible refine cz HCO.out TT fun q' => ?_)
   | (go_at_call 70; with_reducible refine cz HCN.out TT fun q' => ?_))
  go_ret
  exact ⟨ret_b HN.out.symm, TT.out.trans0 (TchW.t _)⟩
 by_cases d3 : a.tx = b.tx
 case neg =>
  have HN : Hid (res = false) := HRES.out.symm.trans (decide_eq_false (fun e => d3 (by rw [e])))
  go_wp2_with (first
   | (go_at_call 70; with_reducible refine cz HCO.out TT fun q' => ?_)
   | (go_at_call 70; with_reducible refine cz HCN.out TT fun q' => ?_))
  go_ret
  exact ⟨ret_b HN.out.symm, TT.out.trans0 (TchW.t _)⟩
 by_cases d4 : nma = nmb
 case neg =>
  have z : ¬ ((nma : Nat) : Int) = ((nmb : Nat) : Int) := by omega
  have HN : Hid (res = false) := HRES.out.symm.trans (decide_eq_false (fun e => d4 (by rw [<- HNMa.out, <- HNMb.out, e])))
  go_wp2_with (first
   | (go_at_call 70; with_reducible refine cz HCO.out TT fun q' => ?_)
   | (go_at_call 70; with_reducible refine cz HCN.out TT fun q' => ?_))
  go_ret
  exact ⟨ret_b HN.out.symm, TT.out.trans0 (TchW.t _)⟩
 by_cases d5 : nwa = nwb
 case neg =>
  have z : ¬ ((nwa : Nat) : Int) = ((nwb : Nat) : Int) := by omega
  have HN : Hid (res = false) := HRES.out.symm.trans (decide_eq_false (fun e => d5 (by rw [<- HNWa.out, <- HNWb.out, e])))
  go_wp2_with (first
   | (go_at_call 70; with_reducible refine cz HCO.out TT fun q' => ?_)
   | (go_at_call 70; with_reducible refine cz HCN.out TT fun q' => ?_))
  go_ret
  exact ⟨ret_b HN.out.symm, TT.out.trans0 (TchW.t _)⟩
 by_cases d6 : nea = neb
 case neg =>
  have z : ¬ ((nea : Nat) : Int) = ((neb : Nat) : Int) := by omega
  have HN : Hid (res = false) := HRES.out.symm.trans (decide_eq_false (fun e => d6 (by rw [<- HNEa.out, <- HNEb.out, e])))
  go_wp2_with (first
   | (go_at_call 70; with_reducible refine cz HCO.out TT fun q' => ?_)
   | (go_at_call 70; with_reducible refine cz HCN.out TT fun q' => ?_))
  go_ret
  exact ⟨ret_b HN.out.symm, TT.out.trans0 (TchW.t _)⟩
 cases q4 with
 | false =>
  have HN : Hid (res = false) := HRES.out.symm.trans (decide_eq_false (fun e => of_decide_eq_false HQ4.out (by rw [e])))
  go_wp2_with (first
   | (go_at_call 70; with_reducible refine cz HCO.out TT fun q' => ?_)
   | (go_at_call 70; with_reducible refine cz HCN.out TT fun q' => ?_))
  go_ret
  exact ⟨ret_b HN.out.symm, TT.out.trans0 (TchW.t _)⟩
 | true =>
 cases q5 with
 | false =>
  have HN : Hid (res = false) := HRES.out.symm.trans (decide_eq_false (fun e => of_decide_eq_false HQ5.out (by rw [e])))
  go_wp2_with (first
   | (go_at_call 70; with_reducible refine cz HCO.out TT fun q' => ?_)
   | (go_at_call 70; with_reducible refine cz HCN.out TT fun q' => ?_))
  go_ret
  exact ⟨ret_b HN.out.symm, TT.out.trans0 (TchW.t _)⟩
 | true =>
 have HHDR : Hid (a.broker = b.broker /\ a.nid = b.nid /\ a.nseq = b.nseq /\ a.tx = b.tx) := ⟨d0, d1, d2, d3⟩
 go_wp2_with (first
  | (go_at_call 70; with_reducible refine cz HCO.out TT fun q' => ?_)
  | (go_at_call 70; with_reducible refine cz HCN.out TT fun q' => ?_))
 go_loopg [5] nma (fun kx s wr => ∃ k : Nat, s = .int .i64 k /\ k <= nma /\ nma - k <= kx /\ Hid (Tch No w wr) /\ Hid (BoxAt wr w.heap.size [.int .i64 a.broker, .int .i64 a.nid, .int .i64 a.nseq, .int .i64 a.tx, .slice ama nma cma, .slice awa nwa cwa, .slice aea nea cea, .slice aoa noa coa, .slice ana nna cna]) /\ Hid (BoxAt wr (w.heap.size + 1) [.int .i64 b.broker, .int .i64 b.nid, .int .i64 b.nseq, .int .i64 b.tx, .slice amb nmb cmb, .slice awb nwb cwb, .slice aeb neb ceb, .slice aob nob cob, .slice anb nnb cnb]) /\ Hid (EqTo a.ms b.ms k))
 case atStart => exact ⟨0, rfl, Nat.zero_le _, by omega, TT.out.trans0 (TchW.t _), HB.out.keep (TchW.t _), HB2.out.keep (TchW.t _), fun i _ _ h => absurd h (Nat.not_lt_zero _)⟩
 case round =>
  clear c7 c8 g7 g8 c0 g0 c1 g1 c2 g2 c3 g3 c4 g4 c5 g5 c6 g6
  obtain ⟨k, rfl, hk, hgk, TT, HB, HB2, I⟩ := hrel
  by_cases hlt : k < nma
  ·have hkl1 : k < a.ms.length := by have := HNMa.out; omega
   have hkl2 : k < b.ms.length := by have := HNMb.out; omega
   have hb1 : ∃ b' o, ama = some ⟨b', o, none⟩ /\ w.cell? ⟨b', o + k * 6, none⟩ = some (.int .i64 (a.ms[k]'hkl1).id) /\ w.cell? ⟨b', o + k * 6 + 1, none⟩ = some (strV (a.ms[k]'hkl1).q) /\ w.cell? ⟨b', o + k * 6 + 2, none⟩ = some (strV (a.ms[k]'hkl1).b) /\ w.cell? ⟨b', o + k * 6 + 3, none⟩ = some (.int .i64 (a.ms[k]'hkl1).seq) /\ w.cell? ⟨b', o + k * 6 + 4, none⟩ = some (.int .i64 (a.ms[k]'hkl1).cnt) /\ w.cell? ⟨b', o + k * 6 + 5, none⟩ = some (.int .i64 (a.ms[k]'hkl1).who) := by
    rcases msgs_cells HMSa.out with ⟨_, h0⟩ | ⟨b', o, cap2, h1, _, _, _, h5⟩
    ·rw [h0] at hkl1; simp at hkl1
    ·rw [HNMa.out] at h1
     injection h1 with h1 _ _
     exact ⟨b', o, h1, h5 k hkl1⟩
   have hb2 : ∃ b' o, amb = some ⟨b', o, none⟩ /\ w.cell? ⟨b', o + k * 6, none⟩ = some (.int .i64 (b.ms[k]'hkl2).id) /\ w.cell? ⟨b', o + k * 6 + 1, none⟩ = some (strV (b.ms[k]'hkl2).q) /\ w.cell? ⟨b', o + k * 6 + 2, none⟩ = some (strV (b.ms[k]'hkl2).b) /\ w.cell? ⟨b', o + k * 6 + 3, none⟩ = some (.int .i64 (b.ms[k]'hkl2).seq) /\ w.cell? ⟨b', o + k * 6 + 4, none⟩ = some (.int .i64 (b.ms[k]'hkl2).cnt) /\ w.cell? ⟨b', o + k * 6 + 5, none⟩ = some (.int .i64 (b.ms[k]'hkl2).who) := by
    rcases msgs_cells HMSb.out with ⟨_, h0⟩ | ⟨b', o, cap2, h1, _, _, _, h5⟩
    ·rw [h0] at hkl2; simp at hkl2
    ·rw [HNMb.out] at h1
     injection h1 with h1 _ _
     exact ⟨b', o, h1, h5 k hkl2⟩
   obtain ⟨b1, o1, rfl, hc1⟩ := hb1
   obtain ⟨b2, o2, rfl, hc2⟩ := hb2
   obtain ⟨x, hx⟩ : ∃ x, a.ms[k] = x := ⟨_, rfl⟩
   obtain ⟨y, hy⟩ : ∃ x, b.ms[k] = x := ⟨_, rfl⟩
   have HX := Lib.hid hx
   have HY := Lib.hid hy
   rw [hx] at hc1
   rw [hy] at hc2
   obtain ⟨i1, q1, m1, s1, c1, w1⟩ := x
   obtain ⟨i2, q2, m2, s2, c2, w2⟩ := y
   simp only at hc1 hc2
   obtain ⟨sq, hsq, hsqe⟩ := str_letter q1
   obtain ⟨sb, hsb, hsbe⟩ := str_letter m1
   obtain ⟨tq, htq⟩ : ∃ z, strV q2 = .string z := ⟨_, rfl⟩
   obtain ⟨tb, htb⟩ : ∃ z, strV m2 = .string z := ⟨_, rfl⟩
   rw [hsq, hsb] at hc1
   rw [htq, htb] at hc2
   obtain ⟨f0, f1, f2, f3, f4, f5⟩ := hc1
   obtain ⟨g0, g1, g2, g3, g4, g5⟩ := hc2
   have e0 := fun (p : TchW wr) => (TT.out.trans0 p.t).cell f0 (fun h => h)
   have k0 := fun (p : TchW wr) => (TT.out.trans0 p.t).cell g0 (fun h => h)
   have e1 := fun (p : TchW wr) => (TT.out.trans0 p.t).cell f1 (fun h => h)
   have k1 := fun (p : TchW wr) => (TT.out.trans0 p.t).cell g1 (fun h => h)
   have e2 := fun (p : TchW wr) => (TT.out.trans0 p.t).cell f2 (fun h => h)
   have k2 := fun (p : TchW wr) => (TT.out.trans0 p.t).cell g2 (fun h => h)
   have e3 := fun (p : TchW wr) => (TT.out.trans0 p.t).cell f3 (fun h => h)
   have k3 := fun (p : TchW wr) => (TT.out.trans0 p.t).cell g3 (fun h => h)
   have e4 := fun (p : TchW wr) => (TT.out.trans0 p.t).cell f4 (fun h => h)
   have k4 := fun (p : TchW wr) => (TT.out.trans0 p.t).cell g4 (fun h => h)
   have e5 := fun (p : TchW wr) => (TT.out.trans0 p.t).cell f5 (fun h => h)
   have k5 := fun (p : TchW wr) => (TT.out.trans0 p.t).cell g5 (fun h => h)
   clear f0 f1 f2 f3 f4 f5 g0 g1 g2 g3 g4 g5 hx hy
   have HEM : Hid (∀ p : TchW wr, Calls Tryz.prog 71 #[.agg #[.int .i64 i1, .string sq, .string sb, .int .i64 s1, .int .i64 c1, .int .i64 w1], .agg #[.int .i64 i2, .string tq, .string tb, .int .i64 s2, .int .i64 c2, .int .i64 w2]] p.wo fun e w' => e = .returned (.bool (decide ((⟨i1, q1, m1, s1, c1, w1⟩ : MsgM) = ⟨i2, q2, m2, s2, c2, w2⟩))) /\ Tch No p.wo w') := fun p => by
    have := reqmsg_any ⟨i1, q1, m1, s1, c1, w1⟩ ⟨i2, q2, m2, s2, c2, w2⟩ p.wo
    unfold encMsg at this
    simp only at this
    rwa [hsq, hsb, htq, htb] at this
   obtain ⟨bp, hbp⟩ : ∃ x, decide ((⟨i1, q1, m1, s1, c1, w1⟩ : MsgM) = ⟨i2, q2, m2, s2, c2, w2⟩) = x := ⟨_, rfl⟩
   have HBP := Lib.hid hbp
   rw [hbp] at HEM
   clear hbp hsq hsqe hsb hsbe htq htb
   have f4 := fun (p : TchW wr) => (HB.out.keep p.t) 4 _ rfl
   have h4 := fun (p : TchW wr) => (HB2.out.keep p.t) 4 _ rfl
   have f4' := HB.out 4 _ rfl
   go_upto_region 6 with fail
   cases bp with
   | false =>
    have HN : Hid (res = false) := HRES.out.symm.trans (decide_eq_false (fun e0 => of_decide_eq_false (eqto_bad hkl1 hkl2 (by rw [HX.out, HY.out]; exact of_decide_eq_false HBP.out)) (by rw [e0])))
    refine wp_region_qt (by kernel_rfl) (by kernel_rfl) ?_
    repeat (go_big_quiet_step ((go_at_call 71; exact qt_t (HEM.out _))))
    with_reducible refine wpQuiet_nil ?_
    rintro _ ⟨pq, rfl⟩
    go_wp2_with fail
    go_ret
    exact ⟨ret_b HN.out.symm, TT.out.trans0 pq.t⟩
   | true =>
    have HI : Hid (EqTo a.ms b.ms (k + 1)) := eqto_step I.out hkl1 hkl2 (by rw [HX.out, HY.out]; exact of_decide_eq_true HBP.out)
    refine wp_region_qt (by kernel_rfl) (by kernel_rfl) ?_
    repeat (go_big_quiet_step ((go_at_call 71; exact qt_t (HEM.out _))))
    with_reducible refine wpQuiet_nil ?_
    rintro _ ⟨pq, rfl⟩
    go_wp2_with fail
    go_roundg (nma - (k + 1))
    case measure => omega
    case rel => exact ⟨k + 1, by go_num, by omega, by omega, TT.out.trans0 pq.t, HB.out.keep pq.t, HB2.out.keep pq.t, HI⟩
  ·have HLms : Hid (a.ms = b.ms) := by rw [Hid]; exact of_decide_eq_true (eqto_all (HNMa.out.trans (show nma = k by omega)) (HNMb.out.trans (show nmb = k by omega)) I.out)
   have f4' := HB.out 4 _ rfl
   clear I
   obtain rfl : nma = k := by omega
   clear hgk hk hlt
   go_wp2_with fail
   have TT0 := TT
   have HB0 := HB
   have HB20 := HB2
   clear TT HB HB2
   go_loopg [6] nwa (fun kx s wr => ∃ k : Nat, s = .int .i64 k /\ k <= nwa /\ nwa - k <= kx /\ Hid (Tch No w wr) /\ Hid (BoxAt wr w.heap.size [.int .i64 a.broker, .int .i64 a.nid, .int .i64 a.nseq, .int .i64 a.tx, .slice ama nma cma, .slice awa nwa cwa, .slice aea nea cea, .slice aoa noa coa, .slice ana nna cna]) /\ Hid (BoxAt wr (w.heap.size + 1) [.int .i64 b.broker, .int .i64 b.nid, .int .i64 b.nseq, .int .i64 b.tx, .slice amb nmb cmb, .slice awb nwb cwb, .slice aeb neb ceb, .slice aob nob cob, .slice anb nnb cnb]) /\ Hid (EqTo a.waits b.waits k))
   case atStart => exact ⟨0, rfl, Nat.zero_le _, by omega, TT0.out, HB0.out, HB20.out, fun i _ _ h => absurd h (Nat.not_lt_zero _)⟩
   case round =>
    clear TT0 HB0 HB20
    obtain ⟨k2, rfl, hk, hgk, TT, HB, HB2, I⟩ := hrel
    by_cases hlt : k2 < nwa
    ·have hkl1 : k2 < a.waits.length := by have := HNWa.out; omega
     have hkl2 : k2 < b.waits.length := by have := HNWb.out; omega
     have hb1 : ∃ b' o, awa = some ⟨b', o, none⟩ /\ w.cell? ⟨b', o + k2 * 2, none⟩ = some (.int .i64 (a.waits[k2]'hkl1).tid) /\ ∃ a' c, w.cell? ⟨b', o + k2 * 2 + 1, none⟩ = some (.slice a' (a.waits[k2]'hkl1).puts.length c) /\ IsPuts w (.slice a' (a.waits[k2]'hkl1).puts.length c) (a.waits[k2]'hkl1).puts := by
      rcases brs_cells HWSa.out with ⟨_, h0⟩ | ⟨b', o, cap2, h1, _, _, _, h5⟩
      ·rw [h0] at hkl1; simp at hkl1
      ·rw [HNWa.out] at h1
       injection h1 with h1 _ _
       exact ⟨b', o, h1, h5 k2 hkl1⟩
     have hb2 : ∃ b' o, awb = some ⟨b', o, none⟩ /\ w.cell? ⟨b', o + k2 * 2, none⟩ = some (.int .i64 (b.waits[k2]'hkl2).tid) /\ ∃ a' c, w.cell? ⟨b', o + k2 * 2 + 1, none⟩ = some (.slice a' (b.waits[k2]'hkl2).puts.length c) /\ IsPuts w (.slice a' (b.waits[k2]'hkl2).puts.length c) (b.waits[k2]'hkl2).puts := by
      rcases brs_cells HWSb.out with ⟨_, h0⟩ | ⟨b', o, cap2, h1, _, _, _, h5⟩
      ·rw [h0] at hkl2; simp at hkl2
      ·rw [HNWb.out] at h1
       injection h1 with h1 _ _
       exact ⟨b', o, h1, h5 k2 hkl2⟩
     obtain ⟨b1, o1, rfl, hc1⟩ := hb1
     obtain ⟨b2, o2, rfl, hc2⟩ := hb2
     obtain ⟨x, hx⟩ : ∃ x, a.waits[k2] = x := ⟨_, rfl⟩
     obtain ⟨y, hy⟩ : ∃ x, b.waits[k2] = x := ⟨_, rfl⟩
     have HX := Lib.hid hx
     have HY := Lib.hid hy
     rw [hx] at hc1
     rw [hy] at hc2
     obtain ⟨t1, p1⟩ := x
     obtain ⟨t2, p2⟩ := y
     obtain ⟨hc1, pa, pc, hc3, hp1⟩ := hc1
     obtain ⟨hc2, qa, qc, hc4, hp2⟩ := hc2
     simp only at hc1 hc2 hc3 hc4 hp1 hp2
     obtain ⟨np, hnp⟩ : ∃ n, p1.length = n := ⟨_, rfl⟩
     obtain ⟨nq, hnq⟩ : ∃ n, p2.length = n := ⟨_, rfl⟩
     rw [hnp] at hc3 hp1
     rw [hnq] at hc4 hp2
     have e1 : ∀ p : TchW wr, p.wo.cell? ⟨b1, o1 + k2 * 2, none⟩ = some (.int .i64 t1) := fun p => (TT.out.trans0 p.t).cell hc1 (fun h => h)
     have e2 : ∀ p : TchW wr, p.wo.cell? ⟨b2, o2 + k2 * 2, none⟩ = some (.int .i64 t2) := fun p => (TT.out.trans0 p.t).cell hc2 (fun h => h)
     have e3 : ∀ p : TchW wr, p.wo.cell? ⟨b1, o1 + k2 * 2 + 1, none⟩ = some (.slice pa np pc) := fun p => (TT.out.trans0 p.t).cell hc3 (fun h => h)
     have e4 : ∀ p : TchW wr, p.wo.cell? ⟨b2, o2 + k2 * 2 + 1, none⟩ = some (.slice qa nq qc) := fun p => (TT.out.trans0 p.t).cell hc4 (fun h => h)
     have HP : Hid (∀ p : TchW wr, Calls Tryz.prog 72 #[.slice pa np pc, .slice qa nq qc] p.wo fun e w' => e = .returned (.bool (decide (p1 = p2))) /\ Tch No p.wo w') := fun p => reqputs_any p1 p2 _ _ p.wo (hp1.keep (TT.out.trans0 p.t)) (hp2.keep (TT.out.trans0 p.t))
     obtain ⟨bp, hbp⟩ : ∃ b, decide (p1 = p2) = b := ⟨_, rfl⟩
     have HBP := Lib.hid hbp
     rw [hbp] at HP
     clear hc1 hc2 hc3 hc4 hp1 hp2 hnp hnq hx hy hbp
     have f5 := fun (p : TchW wr) => (HB.out.keep p.t) 5 _ rfl
     have h5 := fun (p : TchW wr) => (HB2.out.keep p.t) 5 _ rfl
     have f5' := HB.out 5 _ rfl
     go_upto_region 11 with fail
     by_cases e : t1 = t2
     case neg =>
      have d1 : (t1 == t2) = false := by simpa using e
      have d2 : (t1 != t2) = true := by simpa using e
      have HN : Hid (res = false) := HRES.out.symm.trans (decide_eq_false (fun e0 => of_decide_eq_false (eqto_bad hkl1 hkl2 (by rw [HX.out, HY.out]; intro h; injection h with h _; exact e h)) (by rw [e0])))
      refine wp_region_qt (by kernel_rfl) (by kernel_rfl) ?_
      repeat (go_big_quiet_step ((go_at_call 72; exact qt_t (HP.out _))))
      with_reducible refine wpQuiet_nil ?_
      rintro _ ⟨pq, rfl⟩
      go_wp2_with fail
      go_ret
      exact ⟨ret_b HN.out.symm, TT.out.trans0 pq.t⟩
     have d1 : (t1 == t2) = true := by simpa using e
     have d2 : (t1 != t2) = false := by simpa using e
     have ET := Lib.hid e
     clear e
     cases bp with
     | false =>
      have HN : Hid (res = false) := HRES.out.symm.trans (decide_eq_false (fun e0 => of_decide_eq_false (eqto_bad hkl1 hkl2 (by rw [HX.out, HY.out]; intro h; injection h with _ h; exact (of_decide_eq_false HBP.out) h)) (by rw [e0])))
      refine wp_region_qt (by kernel_rfl) (by kernel_rfl) ?_
      repeat (go_big_quiet_step ((go_at_call 72; exact qt_t (HP.out _))))
      with_reducible refine wpQuiet_nil ?_
      rintro _ ⟨pq, rfl⟩
      go_wp2_with fail
      go_ret
      exact ⟨ret_b HN.out.symm, TT.out.trans0 pq.t⟩
     | true =>
      have HI : Hid (EqTo a.waits b.waits (k2 + 1)) := eqto_step I.out hkl1 hkl2 (by rw [HX.out, HY.out, ET.out, of_decide_eq_true HBP.out])
      refine wp_region_qt (by kernel_rfl) (by kernel_rfl) ?_
      repeat (go_big_quiet_step ((go_at_call 72; exact qt_t (HP.out _))))
      with_reducible refine wpQuiet_nil ?_
      rintro _ ⟨pq, rfl⟩
      go_wp2_with fail
      go_roundg (nwa - (k2 + 1))
      case measure => omega
      case rel => exact ⟨k2 + 1, by go_num, by omega, by omega, TT.out.trans0 pq.t, HB.out.keep pq.t, HB2.out.keep pq.t, HI⟩
    ·have HLwaits : Hid (a.waits = b.waits) := by rw [Hid]; exact of_decide_eq_true (eqto_all (HNWa.out.trans (show nwa = k2 by omega)) (HNWb.out.trans (show nwb = k2 by omega)) I.out)
     have f5' := HB.out 5 _ rfl
     clear I
     obtain rfl : nwa = k2 := by omega
     clear hgk hk hlt
     go_wp2_with fail
     have TT0 := TT
     have HB0 := HB
     have HB20 := HB2
     clear TT HB HB2
     go_loopg [7] nea (fun kx s wr => ∃ k : Nat, s = .int .i64 k /\ k <= nea /\ nea - k <= kx /\ Hid (Tch No w wr) /\ Hid (BoxAt wr w.heap.size [.int .i64 a.broker, .int .i64 a.nid, .int .i64 a.nseq, .int .i64 a.tx, .slice ama nma cma, .slice awa nwa cwa, .slice aea nea cea, .slice aoa noa coa, .slice ana nna cna]) /\ Hid (BoxAt wr (w.heap.size + 1) [.int .i64 b.broker, .int .i64 b.nid, .int .i64 b.nseq, .int .i64 b.tx, .slice amb nmb cmb, .slice awb nwb cwb, .slice aeb neb ceb, .slice aob nob cob, .slice anb nnb cnb]) /\ Hid (EqTo a.ends b.ends k))
     case atStart => exact ⟨0, rfl, Nat.zero_le _, by omega, TT0.out, HB0.out, HB20.out, fun i _ _ h => absurd h (Nat.not_lt_zero _)⟩
     case round =>
      clear TT0 HB0 HB20
      obtain ⟨k3, rfl, hk, hgk, TT, HB, HB2, I⟩ := hrel
      by_cases hlt : k3 < nea
      ·have hkl1 : k3 < a.ends.length := by have := HNEa.out; omega
       have hkl2 : k3 < b.ends.length := by have := HNEb.out; omega
       have hb1 : ∃ b' o, aea = some ⟨b', o, none⟩ /\ w.cell? ⟨b', o + k3 * 2, none⟩ = some (.int .i64 (a.ends[k3]'hkl1).tid) /\ w.cell? ⟨b', o + k3 * 2 + 1, none⟩ = some (.bool (a.ends[k3]'hkl1).yes) := by
        rcases ends_cells HESa.out with ⟨_, h0⟩ | ⟨b', o, cap2, h1, _, _, _, h5⟩
        ·rw [h0] at hkl1; simp at hkl1
        ·rw [HNEa.out] at h1
         injection h1 with h1 _ _
         exact ⟨b', o, h1, h5 k3 hkl1⟩
       have hb2 : ∃ b' o, aeb = some ⟨b', o, none⟩ /\ w.cell? ⟨b', o + k3 * 2, none⟩ = some (.int .i64 (b.ends[k3]'hkl2).tid) /\ w.cell? ⟨b', o + k3 * 2 + 1, none⟩ = some (.bool (b.ends[k3]'hkl2).yes) := by
        rcases ends_cells HESb.out with ⟨_, h0⟩ | ⟨b', o, cap2, h1, _, _, _, h5⟩
        ·rw [h0] at hkl2; simp at hkl2
        ·rw [HNEb.out] at h1
         injection h1 with h1 _ _
         exact ⟨b', o, h1, h5 k3 hkl2⟩
       obtain ⟨b1, o1, rfl, hc1⟩ := hb1
       obtain ⟨b2, o2, rfl, hc2⟩ := hb2
       obtain ⟨x, hx⟩ : ∃ x, a.ends[k3] = x := ⟨_, rfl⟩
       obtain ⟨y, hy⟩ : ∃ x, b.ends[k3] = x := ⟨_, rfl⟩
       have HX := Lib.hid hx
       have HY := Lib.hid hy
       rw [hx] at hc1
       rw [hy] at hc2
       obtain ⟨t1, y1⟩ := x
       obtain ⟨t2, y2⟩ := y
       simp only at hc1 hc2
       have e1 : ∀ p : TchW wr, p.wo.cell? ⟨b1, o1 + k3 * 2, none⟩ = some (.int .i64 t1) := fun p => (TT.out.trans0 p.t).cell hc1.1 (fun h => h)
       have e2 : ∀ p : TchW wr, p.wo.cell? ⟨b2, o2 + k3 * 2, none⟩ = some (.int .i64 t2) := fun p => (TT.out.trans0 p.t).cell hc2.1 (fun h => h)
       have e3 : ∀ p : TchW wr, p.wo.cell? ⟨b1, o1 + k3 * 2 + 1, none⟩ = some (.bool y1) := fun p => (TT.out.trans0 p.t).cell hc1.2 (fun h => h)
       have e4 : ∀ p : TchW wr, p.wo.cell? ⟨b2, o2 + k3 * 2 + 1, none⟩ = some (.bool y2) := fun p => (TT.out.trans0 p.t).cell hc2.2 (fun h => h)
       clear hc1 hc2 hx hy
       have f6 := fun (p : TchW wr) => (HB.out.keep p.t) 6 _ rfl
       have h6 := fun (p : TchW wr) => (HB2.out.keep p.t) 6 _ rfl
       have f6' := HB.out 6 _ rfl
       go_upto_region 16 with fail
       by_cases e : t1 = t2
       case neg =>
        have d1 : (t1 == t2) = false := by simpa using e
        have d2 : (t1 != t2) = true := by simpa using e
        have HN : Hid (res = false) := HRES.out.symm.trans (decide_eq_false (fun e0 => of_decide_eq_false (eqto_bad hkl1 hkl2 (by rw [HX.out, HY.out]; intro h; injection h with h _; exact e h)) (by rw [e0])))
        refine wp_region_qt (by kernel_rfl) (by kernel_rfl) ?_
        repeat (go_big_quiet_step (fail))
        with_reducible refine wpQuiet_nil ?_
        rintro _ ⟨pq, rfl⟩
        go_wp2_with fail
        go_ret
        exact ⟨ret_b HN.out.symm, TT.out.trans0 pq.t⟩
       have d1 : (t1 == t2) = true := by simpa using e
       have d2 : (t1 != t2) = false := by simpa using e
       have ET := Lib.hid e
       clear e
       by_cases e : y1 = y2
       case neg =>
        have m1 : (y1 = y2) = False := eq_false e
        have m2 : (y1 == y2) = false := by simpa using e
        have m3 : (y1 != y2) = true := by simpa using e
        have HN : Hid (res = false) := HRES.out.symm.trans (decide_eq_false (fun e0 => of_decide_eq_false (eqto_bad hkl1 hkl2 (by rw [HX.out, HY.out]; intro h; injection h with _ h; exact e h)) (by rw [e0])))
        refine wp_region_qt (by kernel_rfl) (by kernel_rfl) ?_
        repeat (go_big_quiet_step (fail))
        with_reducible refine wpQuiet_nil ?_
        rintro _ ⟨pq, rfl⟩
        go_wp2_with fail
        go_ret
        exact ⟨ret_b HN.out.symm, TT.out.trans0 pq.t⟩
       have m1 : (y1 = y2) = True := eq_true e
       have m2 : (y1 == y2) = true := by simpa using e
       have m3 : (y1 != y2) = false := by simpa using e
       have EY := Lib.hid e
       clear e
       have HI : Hid (EqTo a.ends b.ends (k3 + 1)) := eqto_step I.out hkl1 hkl2 (by rw [HX.out, HY.out, ET.out, EY.out])
       refine wp_region_qt (by kernel_rfl) (by kernel_rfl) ?_
       repeat (go_big_quiet_step (fail))
       with_reducible refine wpQuiet_nil ?_
       rintro _ ⟨pq, rfl⟩
       go_wp2_with fail
       go_roundg (nea - (k3 + 1))
       case measure => omega
       case rel => exact ⟨k3 + 1, by go_num, by omega, by omega, TT.out.trans0 pq.t, HB.out.keep pq.t, HB2.out.keep pq.t, HI⟩
      ·have HLends : Hid (a.ends = b.ends) := by rw [Hid]; exact of_decide_eq_true (eqto_all (HNEa.out.trans (show nea = k3 by omega)) (HNEb.out.trans (show neb = k3 by omega)) I.out)
       have f6' := HB.out 6 _ rfl
       clear I
       obtain rfl : nea = k3 := by omega
       clear hgk hk hlt
       go_wp2_with fail
       have HN : Hid (res = true) := HRES.out.symm.trans (decide_eq_true (by
        obtain ⟨x1, x2, x3, x4⟩ := HHDR.out
        have y1 := HLms.out
        have y2 := HLwaits.out
        have y3 := HLends.out
        have y4 := of_decide_eq_true HQ4.out
        have y5 := of_decide_eq_true HQ5.out
        revert x1 x2 x3 x4 y1 y2 y3 y4 y5
        generalize a = a'
        generalize b = b'
        obtain ⟨_, _, _, _, _, _, _, _, _⟩ := a'
        obtain ⟨_, _, _, _, _, _, _, _, _⟩ := b'
        simp only
        rintro rfl rfl rfl rfl rfl rfl rfl rfl rfl
        rfl))
       go_ret
       exact ⟨ret_b HN.out.symm, TT.out⟩
end
end Go.Proofs.YtelaljoebdpicaaGreat
