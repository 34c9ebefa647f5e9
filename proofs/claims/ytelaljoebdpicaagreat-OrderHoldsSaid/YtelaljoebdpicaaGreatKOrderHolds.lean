/- OrderHolds: the law OrderHolds returns true for every input, and each argument reads behind the call as it read before. No condition. -/
import Derived.Test.YtelaljoebdpicaaGreatPOrderHolds07
import Derived.Test.YtelaljoebdpicaaGreatPOrderHolds09
import Derived.Test.YtelaljoebdpicaaGreatPOrderHolds32
import Derived.Test.YtelaljoebdpicaaGreatPOrderHolds35
import Derived.Test.YtelaljoebdpicaaGreatPOrderHolds38
import Derived.Test.YtelaljoebdpicaaGreatRows
import Derived.WalkKit
import Derived.ProofKit
import Derived.OpenShut
import Derived.ShutString
import Derived.ChangeOld
import Derived.Below
import Derived.SizedLaws
import Derived.StillTailTactics
namespace Go.Proofs.YtelaljoebdpicaaGreat.orderHolds
open Go.ChangeShapes Go.WideShapes Go.ChangeAt Go.RowKit Go.Maps
open Go.ChangeMaps (open_string shut_string)
set_option linter.unusedVariables false
set_option linter.unusedSimpArgs false

theorem own : ownKnob Tryz.prog.godebug = none := by kernel_rfl
theorem laidOut : laidOutB Tryz.prog = true := by kernel_rfl

set_option maxRecDepth 100000 in
set_option maxHeartbeats 8000000 in
theorem walk (v0 : Value) (s0 : StM) (w : World) (w0 : ArgSt w v0 s0) :
  Calls Tryz.prog 11 #[v0] w fun e w' => e = .returned (.bool true) /\ Below w.heap.size w w' := by
 obtain ⟨br, ni, ns, tx, am, nm0, cm, aw, nw0, cw, ae, ne0, ce, ao, no0, co, an, nn0, cn, rfl⟩ := argst_vals w0
 have HST := Lib.hid (fun (W : World) (t : Tch No w W) => lstate_any s0 _ W (w0.keep t))
 clear w0
 go_enter Tryz.func11, Tryz.ntmps11
 go_wp2_with fail
 obtain ⟨bs, hbs⟩ : ∃ x, w.heap.size = x := ⟨_, rfl⟩
 refine (begun10_any _).mono ?_
 rintro e w1 ⟨rfl, t1⟩
 have B1 : Hid (w1.heap[bs]? = some (.cells #[.int .i64 br, .int .i64 ni, .int .i64 ns, .int .i64 tx, .slice am nm0 cm, .slice aw nw0 cw, .slice ae ne0 ce, .slice ao no0 co, .slice an nn0 cn] 27 (0, 0))) := by rw [<- hbs]; exact blk_tch t1 (blk_new w _) (fun h => h)
 have T1 : Hid (Tch No w w1) := (Tch.alloc w _).trans0 t1
 have HBS := Lib.hid hbs
 rw [hbs]
 obtain ⟨q0, q1, q2, q3, q4, q5, q6, q7, q8⟩ := kc9 B1.out
 clear t1 hbs
 go_wp2_with fail
 refine (HST.out w1 T1.out).mono ?_
 rintro e w2 ⟨v2, s, rfl, hok, t2, hs2⟩
 have B0 : Hid (SB0 (fun q => q = bs) w bs w1) := SB0.made T1.out rfl B1.out (by have := HBS.out; omega)
 have S2 := Lib.hid (stw_one (b := bs) hs2)
 have T2 := Lib.hid t2
 have OK := Lib.hid hok
 clear hok t2 hs2 q0 q1 q2 q3 q4 q5 q6 q7 q8 HST B1
 go_wp2_with (first | (refine SB0.store B0.out T2.out S2.out rfl rfl ?_; intro wz BZ TZ) | (refine SB.load BZ.out rfl ?_; intro A1 HA1))
 refine (rmay_any s OK.out _ wz (HA1.out.is (Tch.refl _ _))).mono ?_
 rintro e w3 ⟨rfl, t3⟩
 have BX := Lib.hid (BZ.out.keep t3)
 clear t3 HA1 BZ TZ B0 S2 T2 T1
 cases hmay : mayM s with
 | false =>
  clear hmay
  go_wp2_with fail
  go_ret
  exact ⟨rfl, BX.out.t.below0⟩
 | true =>
  have hM := (may_iff s).1 hmay
  have HONE := Lib.hid (holds_one hM)
  have hn := hM.lms
  have hnw := hM.lw
  have hno := hM.lo
  clear hM hmay
  have HHO0 := Lib.hid (fun (t : Int) (W : World) (A : Array Value) (h : IsSt W (.agg A) s) => oholds_any s (by omega) t (.agg A) W h)
  go_wp2_with (refine SB.load BX.out rfl ?_; intro A2 HA2)
  refine (oloose_any s (by omega) (by omega) (by omega) _ w3 (HA2.out.is (Tch.refl _ _))).mono ?_
  rintro e w4 ⟨v4, rfl, o4, t4⟩
  obtain ⟨qa, qc, rfl, _, _⟩ := own_shape o4.1
  have O4 := Lib.hid (CellsAt.ofRow o4.1)
  have BY := Lib.hid (BX.out.keep t4)
  obtain ⟨LS, hLS⟩ : ∃ l, looseM s = l := ⟨_, rfl⟩
  have HMEM : Hid (∀ i (hi : i < s.ms.length), s.ms[i].who ≠ 0 -> decide (s.ms[i].who ∈ LS) = (!hasP (·.tid) s.waits s.ms[i].who && !hasP (·.tid) s.opens s.ms[i].who)) := by rw [<- hLS]; exact fun i hi h0 => loose_who s (List.getElem_mem hi) h0
  have HPART : Hid (∀ k, ((LS.take k).map fun t => (holdsM s t).length).sum <= heldC s.ms) := by rw [<- hLS]; exact holds_part s
  rw [hLS] at O4 ⊢
  clear o4 t4 HA2 hLS BX
  obtain ⟨nq, hnq⟩ : ∃ n, LS.length = n := ⟨_, rfl⟩
  have HNQ := Lib.hid hnq
  rw [hnq] at O4 ⊢
  have hnq2 : nq <= 9223372036854775807 := by
   obtain ⟨_, _, e, h1, h2⟩ := CellsAt.shape O4.out
   unfold maxLen at h2; omega
  have HROW : Hid (∀ k (hk : k < LS.length), ∃ b o, qa = some ⟨b, o, none⟩ /\ w4.cell? ⟨b, o + k, none⟩ = some (.int .i64 LS[k])) := by
   intro k hk
   rcases O4.out.2 with ⟨_, h0⟩ | ⟨b, o, c, e, _, _, _, hc⟩
   ·omega
   ·injection e with e1 _ _
    exact ⟨b, o, e1, hc k _ (by simp [hk, encL])⟩
  obtain ⟨nm, hnm⟩ : ∃ n, s.ms.length = n := ⟨_, rfl⟩
  have HNM := Lib.hid hnm
  rw [hnm] at hn
  clear hnm hnq O4 hnw hno
  go_wp2_with fail
  go_loopg [5, 6, 7, 8, 9] nm (fun kx s5 s6 s7 s8 s9 wr => ∃ i h : Nat, s6 = .int .i64 i /\ s5 = .int .i64 h /\ i <= nm /\ nm - i <= kx /\ h <= i /\ Hid (h = heldC (s.ms.take i)) /\ Hid (Tch No w4 wr))
  case atStart => exact ⟨0, 0, rfl, rfl, Nat.zero_le _, by omega, by omega, by simp [Hid, heldC], Tch.refl _ _⟩
  case round =>
   obtain ⟨i, h, rfl, rfl, hi, hix, hhi, HHS, TT⟩ := hrel
   have BR := Lib.hid (BY.out.keep TT.out)
   by_cases hlt : i < nm
   ·have hil : i < s.ms.length := by rw [HNM.out]; exact hlt
    obtain ⟨mb, mo, cm, e4, _, _, _, _, _, e5⟩ := BR.out.msAt hil
    rw [HNM.out] at e4
    have HHC : Hid (heldC (s.ms.take (i + 1)) = heldC (s.ms.take i) + (if s.ms[i].who = 0 then 0 else 1)) := by rw [Hid, take_snoc hil, held_snoc]
    have HIN := Lib.hid (HMEM.out i hil)
    have HHP := Lib.hid (holds_pos s (List.getElem_mem hil))
    obtain ⟨x, hx⟩ : ∃ x, s.ms[i].who = x := ⟨_, rfl⟩
    rw [hx] at e5 HHC HIN HHP
    clear hx
    by_cases h0 : x = 0
    ·subst h0
     go_wp2_with fail
     go_roundg (nm - (i + 1))
     case measure => omega
     case rel => exact ⟨i + 1, h, by go_num, rfl, by omega, by omega, by omega, by rw [Hid, HHC.out, <- HHS.out]; rfl, TT.out⟩
    ·have hb0 : (x == 0) = false := beq_eq_false_iff_ne.2 h0
     have IN := Lib.hid (HIN.out h0)
     rw [if_neg h0] at HHC
     clear HIN h0
     have HHO := Lib.hid (HHO0.out x)
     have hhp : (((holdsM s x).length : Int) == 0) = false := beq_eq_false_iff_ne.2 (by have := HHP.out; omega)
     obtain ⟨hl, hhl⟩ : ∃ n, (holdsM s x).length = n := ⟨_, rfl⟩
     rw [hhl] at hhp HHO
     clear HHP hhl
     have HAW := Lib.hid (fun (W : World) (A : Array Value) (h : IsSt W (.agg A) s) => atwaits_any s x (.agg A) W h)
     obtain ⟨ao, co, e7, hop⟩ := BR.out.open_
     have HAO : Hid (∀ W, Tch No wr W -> Calls Tryz.prog 35 #[.slice ao s.opens.length co, .int .i64 x] W fun e w' => e = .returned (.int .i64 (atI (·.tid) s.opens x)) /\ Tch No W w') := fun W T => atpend_any s.opens x _ W (hop.keep T)
     clear hop
     go_wp2_with fail
     go_loopg [8, 9] nq (fun ky s8 s9 wq => ∃ k : Nat, ∃ b : Bool, s9 = .int .i64 k /\ s8 = .bool b /\ k <= nq /\ nq - k <= ky /\ Hid (b = decide (x ∈ LS.take k)) /\ Hid (Tch No wr wq))
     case atStart => exact ⟨0, false, rfl, rfl, Nat.zero_le _, by omega, by simp [Hid], Tch.refl _ _⟩
     case round =>
      obtain ⟨k, b, rfl, rfl, hk, hky, HBV, TQ⟩ := hrel
      by_cases hlk : k < nq
      ·have hkl : k < LS.length := by rw [HNQ.out]; exact hlk
       obtain ⟨qb, qo, eq1, hqc0⟩ := HROW.out k hkl
       subst eq1
       have hqc := (TT.out.trans0 TQ.out).cell hqc0 (fun h => h)
       have HSN : Hid (decide (x ∈ LS.take (k + 1)) = (decide (x ∈ LS.take k) || decide (LS[k] = x))) := by
        rw [Hid, take_snoc hkl, Bool.eq_iff_iff]
        simp only [Bool.or_eq_true, decide_eq_true_eq, List.mem_append, List.mem_singleton]
        exact or_congr Iff.rfl eq_comm
       obtain ⟨y, hy⟩ : ∃ y, LS[k] = y := ⟨_, rfl⟩
       rw [hy] at hqc HSN
       rw [<- HBV.out] at HSN
       clear hy hqc0 e4 e5 e7
       cases b with
       | true =>
        go_wp2_with fail
        go_roundg (nq - (k + 1))
        case measure => omega
        case rel => exact ⟨k + 1, true, by go_num, rfl, by omega, by omega, by rw [Hid, HSN.out]; rfl, TQ.out⟩
       | false =>
        by_cases hyx : y = x
        ·have hb1 : (y == x) = true := beq_iff_eq.2 hyx
         have HYX := Lib.hid hyx
         clear hyx
         go_wp2_with fail
         go_roundg (nq - (k + 1))
         case measure => omega
         case rel => exact ⟨k + 1, true, by go_num, rfl, by omega, by omega, by rw [Hid, HSN.out, decide_eq_true HYX.out]; rfl, TQ.out⟩
        ·have hb1 : (y == x) = false := beq_eq_false_iff_ne.2 hyx
         have HYX := Lib.hid hyx
         clear hyx
         go_wp2_with fail
         go_roundg (nq - (k + 1))
         case measure => omega
         case rel => exact ⟨k + 1, false, by go_num, rfl, by omega, by omega, by rw [Hid, HSN.out, decide_eq_false HYX.out]; rfl, TQ.out⟩
      ·obtain rfl : k = nq := by omega
       rw [<- HNQ.out, List.take_length] at HBV
       have BQ := Lib.hid (BR.out.keep TQ.out)
       replace e7 := TQ.out.cell e7 (fun h => h)
       obtain ⟨no, hno⟩ : ∃ n, s.opens.length = n := ⟨_, rfl⟩
       rw [hno] at e7 HAO
       clear hno e4 e5
       have q1 := atI_has (fun p : BrM => p.tid) s.waits x
       have q2 := atI_has (fun p : PendM => p.tid) s.opens x
       obtain ⟨rd, hrd⟩ : ∃ b, hasP (fun p : BrM => p.tid) s.waits x = b := ⟨_, rfl⟩
       obtain ⟨op, hop⟩ : ∃ b, hasP (fun p : PendM => p.tid) s.opens x = b := ⟨_, rfl⟩
       have HRD := Lib.hid hrd
       have HOP := Lib.hid hop
       rw [hrd] at q1
       rw [hop] at q2
       clear hrd hop
       generalize atI (fun p : BrM => p.tid) s.waits x = jw at q1 HAW
       generalize atI (fun p : PendM => p.tid) s.opens x = jo at q2 HAO
       cases rd <;> cases op
       ·have HB : Hid (b = true) := by rw [Hid, HBV.out, IN.out, HRD.out, HOP.out]; rfl
        have hbv := HB.out
        subst hbv
        go_wp2_with (first | (refine SB.loadG BP.out rfl rfl ?_; intro A6 HA6) | (refine SB.load BQ.out rfl ?_; intro A5 HA5) | (go_at_call 34; refine (HAW.out _ _ (HA5.out.is (Tch.refl _ _))).mono ?_; rintro e w6 ⟨rfl, t6⟩; have T6 := Lib.hid t6; clear t6; have BW := Lib.hid (BQ.out.keep T6.out); replace e7 := T6.out.cell e7 (fun h => h); clear HA5) | (go_at_call 35; refine (HAO.out _ ((TQ.out.trans0 T6.out))).mono ?_; rintro e w7 ⟨rfl, t7⟩; have T7 := Lib.hid t7; clear t7; have BP := Lib.hid (BW.out.keep T7.out)) | (go_at_call 36; refine (HHO.out _ _ (HA6.out.is (Tch.refl _ _))).mono ?_; rintro e w8 ⟨v8, rfl, o8, t8⟩; have T8 := Lib.hid t8; obtain ⟨ha8, hc8, rfl, _, _⟩ := own_shape o8.1; clear o8 t8 HA6))
        go_roundg (nm - (i + 1))
        case measure => omega
        case rel => exact ⟨i + 1, h + 1, by go_num, by go_num, by omega, by omega, by omega, by rw [Hid, HHC.out, <- HHS.out], (((TT.out.trans0 TQ.out).trans0 T6.out).trans0 T7.out).trans0 T8.out⟩
       ·have HB : Hid (b = false) := by rw [Hid, HBV.out, IN.out, HRD.out, HOP.out]; rfl
        have hbv := HB.out
        subst hbv
        go_wp2_with (first | (refine SB.loadG BP.out rfl rfl ?_; intro A6 HA6) | (refine SB.load BQ.out rfl ?_; intro A5 HA5) | (go_at_call 34; refine (HAW.out _ _ (HA5.out.is (Tch.refl _ _))).mono ?_; rintro e w6 ⟨rfl, t6⟩; have T6 := Lib.hid t6; clear t6; have BW := Lib.hid (BQ.out.keep T6.out); replace e7 := T6.out.cell e7 (fun h => h); clear HA5) | (go_at_call 35; refine (HAO.out _ ((TQ.out.trans0 T6.out))).mono ?_; rintro e w7 ⟨rfl, t7⟩; have T7 := Lib.hid t7; clear t7; have BP := Lib.hid (BW.out.keep T7.out)) | (go_at_call 36; refine (HHO.out _ _ (HA6.out.is (Tch.refl _ _))).mono ?_; rintro e w8 ⟨v8, rfl, o8, t8⟩; have T8 := Lib.hid t8; obtain ⟨ha8, hc8, rfl, _, _⟩ := own_shape o8.1; clear o8 t8 HA6))
        go_roundg (nm - (i + 1))
        case measure => omega
        case rel => exact ⟨i + 1, h + 1, by go_num, by go_num, by omega, by omega, by omega, by rw [Hid, HHC.out, <- HHS.out], (((TT.out.trans0 TQ.out).trans0 T6.out).trans0 T7.out).trans0 T8.out⟩
       ·have HB : Hid (b = false) := by rw [Hid, HBV.out, IN.out, HRD.out, HOP.out]; rfl
        have hbv := HB.out
        subst hbv
        go_wp2_with (first | (refine SB.loadG BW.out rfl rfl ?_; intro A6 HA6) | (refine SB.load BQ.out rfl ?_; intro A5 HA5) | (go_at_call 34; refine (HAW.out _ _ (HA5.out.is (Tch.refl _ _))).mono ?_; rintro e w6 ⟨rfl, t6⟩; have T6 := Lib.hid t6; clear t6; have BW := Lib.hid (BQ.out.keep T6.out); replace e7 := T6.out.cell e7 (fun h => h); clear HA5) | (go_at_call 36; refine (HHO.out _ _ (HA6.out.is (Tch.refl _ _))).mono ?_; rintro e w8 ⟨v8, rfl, o8, t8⟩; have T8 := Lib.hid t8; obtain ⟨ha8, hc8, rfl, _, _⟩ := own_shape o8.1; clear o8 t8 HA6))
        go_roundg (nm - (i + 1))
        case measure => omega
        case rel => exact ⟨i + 1, h + 1, by go_num, by go_num, by omega, by omega, by omega, by rw [Hid, HHC.out, <- HHS.out], ((TT.out.trans0 TQ.out).trans0 T6.out).trans0 T8.out⟩
       ·have HB : Hid (b = false) := by rw [Hid, HBV.out, IN.out, HRD.out, HOP.out]; rfl
        have hbv := HB.out
        subst hbv
        go_wp2_with (first | (refine SB.loadG BW.out rfl rfl ?_; intro A6 HA6) | (refine SB.load BQ.out rfl ?_; intro A5 HA5) | (go_at_call 34; refine (HAW.out _ _ (HA5.out.is (Tch.refl _ _))).mono ?_; rintro e w6 ⟨rfl, t6⟩; have T6 := Lib.hid t6; clear t6; have BW := Lib.hid (BQ.out.keep T6.out); replace e7 := T6.out.cell e7 (fun h => h); clear HA5) | (go_at_call 36; refine (HHO.out _ _ (HA6.out.is (Tch.refl _ _))).mono ?_; rintro e w8 ⟨v8, rfl, o8, t8⟩; have T8 := Lib.hid t8; obtain ⟨ha8, hc8, rfl, _, _⟩ := own_shape o8.1; clear o8 t8 HA6))
        go_roundg (nm - (i + 1))
        case measure => omega
        case rel => exact ⟨i + 1, h + 1, by go_num, by go_num, by omega, by omega, by omega, by rw [Hid, HHC.out, <- HHS.out], ((TT.out.trans0 TQ.out).trans0 T6.out).trans0 T8.out⟩
   ·obtain rfl : i = nm := by omega
    rw [<- HNM.out, List.take_length] at HHS
    have HPH : Hid (∀ k, ((LS.take k).map fun t => (holdsM s t).length).sum <= h) := by rw [HHS.out]; exact HPART.out
    obtain ⟨am6, cm6, hm6⟩ := BR.out.ms0 HNM.out
    go_wp2_with fail
    clear hm6
    go_loopg [10, 11] nq (fun ky s10 s11 wq => ∃ k n : Nat, s11 = .int .i64 k /\ s10 = .int .i64 n /\ k <= nq /\ nq - k <= ky /\ n <= h /\ Hid (n = ((LS.take k).map fun t => (holdsM s t).length).sum) /\ Hid (Tch No wr wq))
    case atStart => exact ⟨0, 0, rfl, rfl, Nat.zero_le _, by omega, by omega, by simp [Hid], Tch.refl _ _⟩
    case round =>
     obtain ⟨k, n, rfl, rfl, hk, hky, hnh, HNS, TQ⟩ := hrel
     by_cases hlk : k < nq
     ·have hkl : k < LS.length := by rw [HNQ.out]; exact hlk
      obtain ⟨qb, qo, eq1, hqc0⟩ := HROW.out k hkl
      subst eq1
      have HNX : Hid (((LS.take (k + 1)).map fun t => (holdsM s t).length).sum = n + (holdsM s LS[k]).length) := by
       rw [Hid, take_snoc hkl, List.map_append, List.sum_append, HNS.out]; simp
      have HNB := Lib.hid (HPH.out (k + 1))
      rw [HNX.out] at HNB
      have hqc := (TT.out.trans0 TQ.out).cell hqc0 (fun h => h)
      obtain ⟨y, hy⟩ : ∃ y, LS[k] = y := ⟨_, rfl⟩
      rw [hy] at hqc HNX HNB
      clear hy hqc0
      have HHO := Lib.hid (HHO0.out y)
      obtain ⟨qn, hqn⟩ : ∃ m, (holdsM s y).length = m := ⟨_, rfl⟩
      rw [hqn] at HHO HNX HNB
      clear hqn
      have hnb := HNB.out
      have HQC := Lib.hid hqc
      have HADD : Hid (IntKind.i64.wrap (((n : Nat) : Int) + ((qn : Nat) : Int)) = ((n + qn : Nat) : Int)) := by
       have e : ((n : Nat) : Int) + ((qn : Nat) : Int) = ((n + qn : Nat) : Int) := by omega
       rw [Hid, e]; exact IntWalk.i64_in _ (by omega)
      obtain ⟨am5, cm5, aw5, cw5, ae5, ce5, ao5, co5, an5, cn5, hc5, hi5⟩ := (BR.out.keep TQ.out).cell
      have HC5 := Lib.hid hc5
      have HI5 : Hid (∀ W, Tch No wr W -> IsSt W (.agg #[.int .i64 s.broker, .int .i64 s.nid, .int .i64 s.nseq, .int .i64 s.tx, .slice am5 s.ms.length cm5, .slice aw5 s.waits.length cw5, .slice ae5 s.ends.length ce5, .slice ao5 s.opens.length co5, .slice an5 s.noes.length cn5]) s) := fun W t => hi5.keep t
      clear hc5 hi5 hqc
      go_upto_region 26 with fail
      refine frame_var 98 rfl (fun fr hfr hsz => ?_)
      have h1 : fr.eval (.tmp 1) = .pointer (some ⟨bs, 0, none⟩) := by rw [hfr.out]; rfl
      have h4 : fr.eval (.tmp 4) = .slice (some ⟨qb, qo, none⟩) nq qc := by rw [hfr.out]; rfl
      have h10 : fr.eval (.tmp 10) = .int .i64 ((n : Nat) : Int) := by rw [hfr.out]; rfl
      have h11 : fr.eval (.tmp 11) = .int .i64 ((k : Nat) : Int) := by rw [hfr.out]; rfl
      have hlist : ∀ f ∈ ([(fun x _ => x = .int .i64 ((n : Nat) : Int)), (fun x _ => x = .agg #[.int .i64 s.broker, .int .i64 s.nid, .int .i64 s.nseq, .int .i64 s.tx, .slice am5 s.ms.length cm5, .slice aw5 s.waits.length cw5, .slice ae5 s.ends.length ce5, .slice ao5 s.opens.length co5, .slice an5 s.noes.length cn5]), (fun x _ => x = .slice (some ⟨qb, qo, none⟩) nq qc), (fun x _ => x = .int .i64 ((k : Nat) : Int)), (fun x _ => x = .pointer (some ⟨qb, qo + k, none⟩)), (fun x _ => x = .int .i64 y), (fun x _ => ∃ (a : Option Addr) (c : Nat), x = .slice a qn c), (fun x _ => x = .int .i64 ((qn : Nat) : Int)), (fun x _ => x = .int .i64 ((n + qn : Nat) : Int)), (fun x _ => x = .int .i64 ((n + qn : Nat) : Int))] : List (Value -> World -> Prop)), Stb f :=
       all_mem1 ((pur_eq _).stb) (all_mem1 ((pur_eq _).stb) (all_mem1 ((pur_eq _).stb) (all_mem1 ((pur_eq _).stb) (all_mem1 ((pur_eq _).stb) (all_mem1 ((pur_eq _).stb) (all_mem1 (pur_p.stb) (all_mem1 ((pur_eq _).stb) (all_mem1 ((pur_eq _).stb) (all_mem1 ((pur_eq _).stb) (all_mem0))))))))))
      refine wp_region_inv2 9 (C0 := fun W => Tch No wr W) (C1 := fun W => Tch No wr W) (RL [(fun x _ => x = .int .i64 ((n : Nat) : Int)), (fun x _ => x = .agg #[.int .i64 s.broker, .int .i64 s.nid, .int .i64 s.nseq, .int .i64 s.tx, .slice am5 s.ms.length cm5, .slice aw5 s.waits.length cw5, .slice ae5 s.ends.length ce5, .slice ao5 s.opens.length co5, .slice an5 s.noes.length cn5]), (fun x _ => x = .slice (some ⟨qb, qo, none⟩) nq qc), (fun x _ => x = .int .i64 ((k : Nat) : Int)), (fun x _ => x = .pointer (some ⟨qb, qo + k, none⟩)), (fun x _ => x = .int .i64 y), (fun x _ => ∃ (a : Option Addr) (c : Nat), x = .slice a qn c), (fun x _ => x = .int .i64 ((qn : Nat) : Int)), (fun x _ => x = .int .i64 ((n + qn : Nat) : Int)), (fun x _ => x = .int .i64 ((n + qn : Nat) : Int))]) [] [80, 81, 82, 83, 84, 85, 86, 87, 88, 10] [(some 80, [10], []), (some 81, [1], []), (some 82, [4], []), (some 83, [11], []), (some 84, [82, 83], [2, 3]), (some 85, [84], [4]), (some 86, [81, 85], [1, 5]), (some 87, [86], [6]), (some 88, [80, 87], [0, 7]), (some 10, [88], [8, 6, 0, 1, 2, 3, 4, 5, 6, 7, 8])] (fun i => ([[], [], [], [], [2, 3], [2, 3, 4], [1, 2, 3, 4, 5], [1, 2, 3, 4, 5, 6], [0, 1, 2, 3, 4, 5, 6, 7], [0, 1, 2, 3, 4, 5, 6, 7, 8]][i]?).getD []) (fun i => ([[], [], [], [], [2, 3], [4], [1, 5], [6], [0, 7], [8]][i]?).getD []) (fun _ => []) (fun _ => []) (by kernel_rfl) (by kernel_rfl) (by kernel_rfl) (by rw [hsz]; kernel_rfl) ?_ [0, 1, 2, 3, 4, 5, 6, 7, 8] [] [10] (by kernel_rfl) (rl_pur ?_) ?_ ?_ ?_ ?_
      ·exact Tch.drew _
      ·show ∀ j, j < 10 -> _ ∨ _
       refine all_lt1 (all_lt1 (all_lt1 (all_lt1 (all_lt1 (all_lt1 (all_lt1 (all_lt1 (all_lt1 (all_lt1 (all_lt0) (Or.inr (pur_eq _))) (Or.inr (pur_eq _))) (Or.inr (pur_eq _))) (Or.inr (pur_eq _))) (Or.inr (pur_eq _))) (Or.inr (pur_eq _))) (Or.inr pur_p)) (Or.inr (pur_eq _))) (Or.inr (pur_eq _))) (Or.inr (pur_eq _))
      ·intro i hi him
       have him2 : i = 0 ∨ i = 1 ∨ i = 2 ∨ i = 3 ∨ i = 4 ∨ i = 5 ∨ i = 6 ∨ i = 7 ∨ i = 8 := by simpa using him
       rcases him2 with rfl | rfl | rfl | rfl | rfl | rfl | rfl | rfl | rfl
       ·refine istep_w2 ⟨some 80, _, _, _, _, none⟩ rfl (fun a w' hf hC hn => (iwanted_no rfl)) (fun a W hf hk hC hn K hK => ?_)
        exact wp_runs (y_move (ρ := a.eval) (.tmp 10) rfl ((hk 10 (by decide)).trans h10) W) (hK _ _ hC rfl (fun j _ _ _ _ x h => h))
       ·exact istep2_of (iq (d := 81) (.agg #[.int .i64 s.broker, .int .i64 s.nid, .int .i64 s.nseq, .int .i64 s.tx, .slice am5 s.ms.length cm5, .slice aw5 s.waits.length cw5, .slice ae5 s.ends.length ce5, .slice ao5 s.opens.length co5, .slice an5 s.noes.length cn5]) rfl (fun _ _ => rfl) (fun a W hf hC hn => y_ldState (ρ := a.eval) (.tmp 1) (b := bs) (off := 0) rfl (hf.ev (by kernel_rfl) h1) W ((blk_cell (blk_tch hC HC5.out (fun h => h)) 0).trans rfl) ((blk_cell (blk_tch hC HC5.out (fun h => h)) 1).trans rfl) ((blk_cell (blk_tch hC HC5.out (fun h => h)) 2).trans rfl) ((blk_cell (blk_tch hC HC5.out (fun h => h)) 3).trans rfl) ((blk_cell (blk_tch hC HC5.out (fun h => h)) 4).trans rfl) ((blk_cell (blk_tch hC HC5.out (fun h => h)) 5).trans rfl) ((blk_cell (blk_tch hC HC5.out (fun h => h)) 6).trans rfl) ((blk_cell (blk_tch hC HC5.out (fun h => h)) 7).trans rfl) ((blk_cell (blk_tch hC HC5.out (fun h => h)) 8).trans rfl)))
       ·exact istep2_of (iq (d := 82) (.slice (some ⟨qb, qo, none⟩) nq qc) rfl (fun _ _ => rfl) (fun a W hf hC hn => y_move (ρ := a.eval) (.tmp 4) rfl (hf.ev (by kernel_rfl) h4) W))
       ·exact istep2_of (iq (d := 83) (.int .i64 ((k : Nat) : Int)) rfl (fun _ _ => rfl) (fun a W hf hC hn => y_move (ρ := a.eval) (.tmp 11) rfl (hf.ev (by kernel_rfl) h11) W))
       ·exact istep2_of (iq (d := 84) (.pointer (some ⟨qb, qo + k, none⟩)) rfl (fun _ _ => rfl) (fun a W hf hC hn => y_ixI64 (ρ := a.eval) (.tmp 82) (.tmp 83) (b := qb) (off := qo) (n := nq) (c := qc) (k := k) rfl (hn 2 (by decide)) (hn 3 (by decide)) (by omega) W))
       ·exact istep2_of (iq (d := 85) (.int .i64 y) rfl (fun _ _ => rfl) (fun a W hf hC hn => y_ldint64 (ρ := a.eval) (.tmp 84) (ad := ⟨qb, qo + k, none⟩) rfl (hn 4 (by decide)) W (hC.cell HQC.out (fun h => h))))
       ·refine istep_w2 ⟨some 86, _, _, _, _, none⟩ rfl (fun a w' hf hC hn => (iwanted_no rfl)) (fun a W hf hk hC hn K hK => ?_)
        refine w_call Tryz.func36 (by kernel_rfl) (by kernel_rfl) [.tmp 81, .tmp 85] _ rfl [.agg #[.int .i64 s.broker, .int .i64 s.nid, .int .i64 s.nseq, .int .i64 s.tx, .slice am5 s.ms.length cm5, .slice aw5 s.waits.length cw5, .slice ae5 s.ends.length ce5, .slice ao5 s.opens.length co5, .slice an5 s.noes.length cn5], .int .i64 y] (map2 (hn 1 (by decide)) (hn 5 (by decide))) (HHO.out W _ (HI5.out W hC)) (fun e w' h => ?_)
        obtain ⟨v', he, h1, h2⟩ := h
        obtain ⟨a9, c9, e9, _, _⟩ := own_shape h1.1
        exact ⟨v', he, hK _ _ (hC.trans0 h2) ⟨a9, c9, e9⟩ (fun j _ _ _ _ x h => rl_stb hlist j x _ _ h2 h)⟩
       ·refine istep_w2 ⟨some 87, _, _, _, _, none⟩ rfl (fun a w' hf hC hn => (iwanted_no rfl)) (fun a W hf hk hC hn K hK => ?_)
        obtain ⟨a9, c9, e9⟩ := hn 6 (by decide)
        exact wp_runs (y_lenI64 (ρ := a.eval) (.tmp 86) rfl e9 W) (hK _ _ hC rfl (fun j _ _ _ _ x h => h))
       ·exact istep2_of (iq (d := 88) (.int .i64 ((n + qn : Nat) : Int)) rfl (fun _ _ => rfl) (fun a W hf hC hn => y_add_int (ρ := a.eval) (.tmp 80) (.tmp 87) (x := ((n : Nat) : Int)) (y := ((qn : Nat) : Int)) rfl (hn 0 (by decide)) (hn 7 (by decide)) HADD.out W))
      ·intro i hi him
       cases him
      ·exact istep2_of (iq (d := 10) (.int .i64 ((n + qn : Nat) : Int)) rfl (fun _ _ => rfl) (fun a W hf hC hn => y_assign (ρ := a.eval) (.tmp 88) rfl (hn 8 (by decide)) W))
      ·intro af wf hf hC hR
       obtain ⟨vs, hl, rfl⟩ := hf
       have hl : vs.length = 10 := hl
       obtain ⟨u0, vs0, hv0, hl⟩ := vs_cons hl
       obtain ⟨u1, vs1, hv1, hl⟩ := vs_cons hl
       obtain ⟨u2, vs2, hv2, hl⟩ := vs_cons hl
       obtain ⟨u3, vs3, hv3, hl⟩ := vs_cons hl
       obtain ⟨u4, vs4, hv4, hl⟩ := vs_cons hl
       obtain ⟨u5, vs5, hv5, hl⟩ := vs_cons hl
       obtain ⟨u6, vs6, hv6, hl⟩ := vs_cons hl
       obtain ⟨u7, vs7, hv7, hl⟩ := vs_cons hl
       obtain ⟨u8, vs8, hv8, hl⟩ := vs_cons hl
       obtain ⟨u9, vs9, hv9, hl⟩ := vs_cons hl
       have hvn := vs_nil hl
       have hvs : vs = [u0, u1, u2, u3, u4, u5, u6, u7, u8, u9] := by rw [hv0, hv1, hv2, hv3, hv4, hv5, hv6, hv7, hv8, hv9, hvn]
       clear hvn hl hv0 hv1 hv2 hv3 hv4 hv5 hv6 hv7 hv8 hv9
       subst hvs
       have r9 : u9 = .int .i64 ((n + qn : Nat) : Int) := by
        have e : (putAll fr [80, 81, 82, 83, 84, 85, 86, 87, 88, 10] [u0, u1, u2, u3, u4, u5, u6, u7, u8, u9]).eval (.tmp 10) = u9 := putAll_get 9 (by decide) rfl rfl rfl (by rw [hsz]; decide)
        have h : (fun x _ => x = .int .i64 ((n + qn : Nat) : Int)) ((putAll fr [80, 81, 82, 83, 84, 85, 86, 87, 88, 10] [u0, u1, u2, u3, u4, u5, u6, u7, u8, u9]).eval (.tmp 10)) wf := hR 9 (by decide) (by decide)
        rw [e] at h
        exact h
       have hfr2 := hfr.out
       subst hfr2
       simp only [putAll, Act.put, List.setIfInBounds_toArray, List.set_cons_succ, List.set_cons_zero]
       obtain rfl := r9
       clear hR hlist hl hsz
       have TF := Lib.hid hC
       clear hC
       go_wp2_with fail
       go_roundg (nq - (k + 1))
       case measure => omega
       case rel => exact ⟨k + 1, n + qn, by go_num, by go_num, by omega, by omega, by omega, by rw [Hid, HNX.out], TQ.out.trans0 TF.out⟩
     ·obtain rfl : k = nq := by omega
      have BQ := Lib.hid (BR.out.keep TQ.out)
      have HHO := Lib.hid (HHO0.out 1)
      rw [HONE.out] at HHO
      have hnh2 : (n : Int) <= (h : Int) := by omega
      go_wp2_with (first | (refine SB.loadG BQ.out rfl rfl ?_; intro A9 HA9) | (go_at_call 36; refine (HHO.out _ _ (HA9.out.is (Tch.refl _ _))).mono ?_; rintro e w8 ⟨v8, rfl, o8, t8⟩; have T8 := Lib.hid t8; obtain ⟨ha8, hc8, rfl, _, _⟩ := own_shape o8.1; clear o8 t8 HA9))
      go_ret
      exact ⟨rfl, (BQ.out.t.trans0 T8.out).below0⟩

/-! ### THE ROW's STEP -/
set_option maxRecDepth 100000 in
theorem lifted (os : Os) (started : os.Started) (H : Type) (enc : TypeId × Value → H) :
    ReturnsInHanded {} Tryz.checked os 11 .any (Rows.orderHoldsSpec.pre6 enc Tryz.prog Tryz.f11 Rows.orderHoldsRow.domain false) (Rows.orderHoldsSpec.post enc Tryz.prog Tryz.f11 false true false false) := by
  refine returnsInHanded_of_change_sized (C := Tryz.checked) own started (by kernel_rfl) Tryz.func11
    (ChangeSpec.witness6 (enc := enc) (C := Tryz.checked) false ⟨#[], #[.agg #[.int .i64 0, .int .i64 0, .int .i64 0, .int .i64 0, .slice none 0 0, .slice none 0 0, .slice none 0 0, .slice none 0 0, .slice none 0 0]], []⟩ 8 (by kernel_rfl) (by kernel_rfl) (by kernel_rfl) (by kernel_rfl)) ?_
  intro W base args ds gs before hval0 hW hcnd hsz0 _
  have hval : ∀ (j : Nat) t v, Tryz.f11.params[j]? = some t → args[j]? = some v → Value.okWide Tryz.prog W .any base t v := hval0
  have hW' := hW
  obtain ⟨p, q, hA0, hV, rfl, hfz, hnd⟩ := hW
  have hA : DataW.TrodAll enc Tryz.prog W 0 (fun _ => true) true Tryz.f11.params.toList args.toList ds p := hA0
  have hsz : (DataW.weightsEach Tryz.prog (Tryz.f11.params.toList ++ Rows.orderHoldsSpec.plain.varTypes Tryz.prog) (ds ++ gs)).all (· ≤ reachBytes) = true := hsz0
  rw [Tryz.params11] at hA hval hsz
  obtain ⟨v0, vs0, d0, ds0, p0, q0, hargs, rfl, rfl, h0, r0⟩ := trodAll_cons hA
  obtain ⟨rfl, rfl, rfl⟩ := trodAll_nil r0
  obtain rfl : args = #[v0] := by cases args; simp_all
  obtain ⟨rfl, rfl⟩ := trodVars_none hV
  have k0 := h0
  have lt0 : ∀ x ∈ p0, x.block < W.heap.size := by obtain ⟨m, hm⟩ := k0; exact DataW.trod_lt m _ _ _ hm
  obtain ⟨cs0, rfl⟩ : ∃ cs, v0 = .agg cs := by
    have := hval 0 27 v0 rfl rfl
    simp only [Value.okWide, Tryz.underlying27] at this
    obtain ⟨cs, h, _⟩ := this
    exact ⟨cs, h⟩
  obtain ⟨s0, w0⟩ : ∃ s, ArgSt W (.agg cs0) s := by
    obtain ⟨fuel, hf⟩ := h0
    have := open_st hf (fun n hn => by have := List.all_eq_true.1 hsz n (DataW.weights_mem_each (j := 0) (t := 27) (d := d0) rfl rfl n hn); simpa using this)
    simpa [Value.cells] using this
  clear hA0 hval0
  refine (walk (.agg cs0) s0 W w0).mono fun e W' ⟨he, bel⟩ => ?_
  subst he
  exact ⟨_, rfl, _, _, _, [], _, [], hW', trodAll_mk1 (shut_bool Tryz.underlying4 _), (trodAll_cons_mk (Below.trod laidOut (by kernel_rfl) (of_decide_eq_true (by kernel_rfl)) k0 bel lt0) trodAll_mk0), rfl, bel.frame _, fun h => by cases h⟩

theorem clo0 : Tryz.prog.mayEnter = true := by kernel_rfl
theorem clo1 : (Rows.orderHoldsRow.lifted == Tryz.prog.liftsFinal) = true := by kernel_rfl
theorem clo2 : (Tryz.prog.make == some Rows.orderHoldsRow.make) = true := by kernel_rfl
theorem clo3 : (Rows.orderHoldsRow.inPlace == Tryz.prog.inPlace 11) = true := by kernel_rfl
theorem clo4 : (Rows.orderHoldsRow.unfollowed == Tryz.prog.unfollowed 11) = true := by kernel_rfl
theorem clo5 : (Rows.orderHoldsRow.recurses == Tryz.prog.recurses 11) = true := by kernel_rfl
theorem clo6 : (Rows.orderHoldsRow.named == Tryz.prog.varsNamed 11) = true := by kernel_rfl
theorem clo7 : laidOutB Tryz.prog = true := by kernel_rfl
theorem clo8 : mapsRowed Tryz.prog = true := by kernel_rfl
theorem clo9 : Tryz.prog.stopsHeard = true := by kernel_rfl
theorem clo10 : (Rows.orderHoldsRow.plainKeys == Tryz.prog.plainKeys) = true := by kernel_rfl
set_option maxRecDepth 100000 in
theorem closed : joinedFacts Tryz.prog 11 Tryz.f11 Rows.orderHoldsSpec Rows.orderHoldsRow = true := by
  unfold joinedFacts
  rw [clo0, clo1, clo2, clo3, clo4, clo5, clo6, clo7, clo8, clo9, clo10]
  kernel_rfl
theorem over : Rows.orderHoldsRow.holds Tryz.pinned (OpenSpec.ofChange Rows.orderHoldsSpec) :=
  OpenClaim.holds_of_wide 11 Tryz.f11 rfl rfl rfl rfl rfl rfl rfl ⟨rfl, rfl, rfl, rfl, rfl⟩ rfl rfl rfl rfl rfl (by kernel_rfl) Tryz.func11 closed
    (of_decide_eq_true (by kernel_rfl)) (by unfold Func.isWrapper; first | (rw [if_pos (by decide +kernel)]; kernel_rfl) | (rw [if_neg (by decide +kernel)]; exact ⟨rfl, rfl⟩))
    (fun os started H enc _ => lifted os started H enc)

/--  THE STATEMENT  -/
theorem proved : Rows.OrderHoldsSaid := over
#print axioms proved
end Go.Proofs.YtelaljoebdpicaaGreat.orderHolds
