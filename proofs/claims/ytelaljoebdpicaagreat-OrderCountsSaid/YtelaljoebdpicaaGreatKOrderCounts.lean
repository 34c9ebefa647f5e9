/- OrderCounts: the law OrderCounts returns true for every input, and each argument reads behind the call as it read before. No condition. -/
import Derived.Test.YtelaljoebdpicaaGreatPOrderCounts15
import Derived.Test.YtelaljoebdpicaaGreatPOrderCounts39
import Derived.Test.YtelaljoebdpicaaGreatPOrderCounts42
import Derived.Test.YtelaljoebdpicaaGreatPOrderCounts44
import Derived.Test.YtelaljoebdpicaaGreatPOrderCounts46
import Derived.Test.YtelaljoebdpicaaGreatRows
import Derived.WalkKit
import Derived.ProofKit
import Derived.OpenShut
import Derived.ShutString
import Derived.ChangeOld
import Derived.Below
import Derived.SizedLaws
namespace Go.Proofs.YtelaljoebdpicaaGreat.orderCounts
open Go.ChangeShapes Go.WideShapes Go.ChangeAt Go.RowKit Go.Maps
open Go.ChangeMaps (open_string shut_string)
set_option linter.unusedVariables false
set_option linter.unusedSimpArgs false

theorem own : ownKnob Tryz.prog.godebug = none := by kernel_rfl
theorem laidOut : laidOutB Tryz.prog = true := by kernel_rfl

set_option maxRecDepth 100000 in
set_option maxHeartbeats 8000000 in
theorem walk (v0 : Value) (s0 : StM) (w : World) (w0 : ArgSt w v0 s0) :
  Calls Tryz.prog 10 #[v0] w fun e w' => e = .returned (.bool true) /\ Below w.heap.size w w' := by
 obtain ⟨br, ni, ns, tx, am, nm0, cm, aw, nw0, cw, ae, ne0, ce, ao, no0, co, an, nn0, cn, rfl⟩ := argst_vals w0
 have HST := Lib.hid (fun (W : World) (t : Tch No w W) => lstate_any s0 _ W (w0.keep t))
 clear w0
 go_enter Tryz.func10, Tryz.ntmps10
 go_wp2_with fail
 obtain ⟨bs, hbs⟩ : ∃ x, w.heap.size = x := ⟨_, rfl⟩
 refine (begun10_any _).mono ?_
 rintro e w1 ⟨rfl, t1⟩
 have B1 : Hid (w1.heap[bs]? = some (.cells #[.int .i64 br, .int .i64 ni, .int .i64 ns, .int .i64 tx, .slice am nm0 cm, .slice aw nw0 cw, .slice ae ne0 ce, .slice ao no0 co, .slice an nn0 cn] 27 (0, 0))) := by rw [<- hbs]; exact blk_tch t1 (blk_new w _) (fun h => h)
 have T1 : Hid (Tch No w w1) := (Tch.alloc w _).trans0 t1
 have HBS := Lib.hid hbs
 rw [hbs]
 obtain ⟨q0, q1, q2, q3, q4, q5, q6, q7, q8⟩ := kc9 B1.out
 clear t1 hbs
 go_wp2_with fail
 refine (HST.out w1 T1.out).mono ?_
 rintro e w2 ⟨v2, s, rfl, hok, t2, hs2⟩
 have B0 : Hid (SB0 (fun q => q = bs) w bs w1) := SB0.made T1.out rfl B1.out (by have := HBS.out; omega)
 have S2 := Lib.hid (stw_one (b := bs) hs2)
 have T2 := Lib.hid t2
 have OK := Lib.hid hok
 clear hok t2 hs2 q0 q1 q2 q3 q4 q5 q6 q7 q8 HST B1
 go_wp2_with (first | (refine SB0.store B0.out T2.out S2.out rfl rfl ?_; intro wz BZ TZ) | (refine SB.load BZ.out rfl ?_; intro A1 HA1))
 refine (rmay_any s OK.out _ wz (HA1.out.is (Tch.refl _ _))).mono ?_
 rintro e w3 ⟨rfl, t3⟩
 have BX := Lib.hid (BZ.out.keep t3)
 clear t3 HA1 BZ TZ B0 S2 T2 T1
 cases hmay : mayM s with
 | false =>
  have HF := Lib.hid hmay
  clear hmay
  go_wp2_with (refine SB.load BX.out rfl ?_; intro A2 HA2)
  refine (may_any s OK.out _ w3 (HA2.out.is (Tch.refl _ _))).mono ?_
  rintro e w4 ⟨rfl, t4⟩
  rw [HF.out]
  go_wp2_with fail
  go_ret
  exact ⟨rfl, (BX.out.t.trans0 t4).below0⟩
 | true =>
  have hM := (may_iff s).1 hmay
  have HRS := Lib.hid hM.mseq
  have HMO := Lib.hid (moreM_may hM)
  have hn := hM.lms
  have hnw := hM.lw
  clear hM hmay
  go_wp2_with (refine SB.load BX.out rfl ?_; intro A2 HA2)
  refine (oqueues_any s [] (by omega) (by omega) (by have := HMO.out; omega) _ _ w3 (HA2.out.is (Tch.refl _ _)) (CellsAt.nil _ _)).mono ?_
  rintro e w4 ⟨v4, rfl, o4, t4⟩
  obtain ⟨qa, qc, rfl, _, _⟩ := own_shape o4.1
  have O4 := Lib.hid (CellsAt.ofRow o4.1)
  have BY := Lib.hid (BX.out.keep t4)
  obtain ⟨QS, hQS⟩ : ∃ l, queuesM s [] = l := ⟨_, rfl⟩
  have HSUM : Hid ((QS.map fun q => inQ s.ms q).sum = s.ms.length) := by rw [<- hQS]; exact queues_sum s
  have HPART : Hid (∀ k, ((QS.take k).map fun q => inQ s.ms q).sum <= s.ms.length) := by rw [<- hQS]; exact queues_part s
  rw [hQS] at O4 ⊢
  clear o4 t4 HA2 hQS BX HMO
  obtain ⟨nq, hnq⟩ : ∃ n, QS.length = n := ⟨_, rfl⟩
  have HNQ := Lib.hid hnq
  rw [hnq] at O4 ⊢
  have hnq2 : nq <= 9223372036854775807 := by
   obtain ⟨_, _, e, h1, h2⟩ := CellsAt.shape O4.out
   unfold maxLen at h2; omega
  clear hnq
  go_wp2_with fail
  go_loopg [4, 6, 7, 8, 9, 10, 11, 13, 28] nq (fun kx s4 s6 s7 s8 s9 s10 s11 s13 s28 wr => ∃ k m : Nat, s28 = .int .i64 k /\ s4 = .int .i64 m /\ k <= nq /\ nq - k <= kx /\ m <= 72 /\ Hid (m = ((QS.take k).map fun q => inQ s.ms q).sum) /\ Hid (Tch No w4 wr))
  case atStart => exact ⟨0, 0, rfl, rfl, Nat.zero_le _, by omega, by omega, by simp [Hid], Tch.refl _ _⟩
  case round =>
   obtain ⟨k, m, rfl, rfl, hk, hkx, hm72, HSM, TT⟩ := hrel
   have BR := Lib.hid (BY.out.keep TT.out)
   by_cases hlt : k < nq
   ·have hkl : k < QS.length := by rw [HNQ.out]; exact hlt
    obtain ⟨qb, qo, rfl, hqc⟩ : ∃ b o, qa = some ⟨b, o, none⟩ /\ wr.cell? ⟨b, o + k, none⟩ = some (strV QS[k]) := by
     rcases O4.out.2 with ⟨_, h0⟩ | ⟨b, o, c, e, _, _, _, hc⟩
     ·omega
     ·injection e with e1 _ _
      exact ⟨b, o, e1, TT.out.cell (hc k _ (by simp [hkl])) (fun h => h)⟩
    have HNX : Hid (((QS.take (k + 1)).map fun q => inQ s.ms q).sum = ((QS.take k).map fun q => inQ s.ms q).sum + inQ s.ms QS[k]) := by
     rw [Hid, take_snoc hkl, List.map_append, List.sum_append]; simp
    obtain ⟨q, hq⟩ : ∃ q, QS[k] = q := ⟨_, rfl⟩
    rw [hq] at hqc HNX
    clear hq
    obtain ⟨qq, hqq⟩ : ∃ x : ByteArray, (⟨q.toArray⟩ : ByteArray) = x := ⟨_, rfl⟩
    have HSE : Hid (∀ t : Txt, ((⟨t.toArray⟩ : ByteArray).toList == qq.toList) = decide (t = q)) := fun t => by rw [<- hqq]; exact str_eq t q
    have HQQ : Hid (strV q = .string qq) := by rw [Hid, strV, hqq]
    rw [HQQ.out] at hqc
    have HCN := Lib.hid (fun (W : World) (A : Array Value) (h : IsSt W (.agg A) s) => ocounts_any s (by omega) q (.agg A) W h)
    have HNE := Lib.hid (fun (W : World) (A : Array Value) (h : IsSt W (.agg A) s) => onext_any s HRS.out (by omega) q (.agg A) W h)
    rw [HQQ.out] at HCN HNE
    have H3 : Hid (freeN s.ms q + heldN s.ms q + deadN s.ms q = inQ s.ms q) := three_all _ _
    have HNF := Lib.hid (next_free s q)
    have HLE : Hid (inQ s.ms q <= s.ms.length) := List.countP_le_length
    obtain ⟨f, hf⟩ : ∃ n, freeN s.ms q = n := ⟨_, rfl⟩
    obtain ⟨hd, hhd⟩ : ∃ n, heldN s.ms q = n := ⟨_, rfl⟩
    obtain ⟨d, hd2⟩ : ∃ n, deadN s.ms q = n := ⟨_, rfl⟩
    rw [hf, hhd, hd2] at HCN H3
    rw [hf] at HNF
    clear hf hhd hd2 hqq
    have hs3 : f + hd + d <= 72 := by have h1 := H3.out; have h2 := HLE.out; omega
    go_wp2_with (refine SB.load BR.out rfl ?_; intro A3 HA3)
    refine (HCN.out wr A3 (HA3.out.is (Tch.refl _ _))).mono ?_
    rintro e w5 ⟨rfl, t5⟩
    have T5 := Lib.hid t5
    have B5 := Lib.hid (BR.out.keep t5)
    clear t5 HA3 HCN hqc
    obtain ⟨am5, cm5, hm5⟩ := B5.out.ms0 rfl
    obtain ⟨nm, hnm⟩ : ∃ n, s.ms.length = n := ⟨_, rfl⟩
    have HNM := Lib.hid hnm
    rw [hnm] at hm5 hn HLE
    clear hnm
    go_wp2_with fail
    go_loopg [10, 11] nm (fun kx s10 s11 wq => ∃ j c : Nat, s11 = .int .i64 j /\ s10 = .int .i64 c /\ j <= nm /\ c <= j /\ nm - j <= kx /\ Hid (c = inQ (s.ms.take j) q) /\ Hid (Tch No w5 wq))
    case atStart => exact ⟨0, 0, rfl, rfl, Nat.zero_le _, Nat.le_refl _, by omega, by simp [Hid, inQ], Tch.refl _ _⟩
    case round =>
     clear hm5
     obtain ⟨j, c, rfl, rfl, hj, hcj, hjx, HCJ, TQ⟩ := hrel
     have B6 := Lib.hid (B5.out.keep TQ.out)
     by_cases hlj : j < nm
     ·have hjl : j < s.ms.length := by rw [HNM.out]; exact hlj
      obtain ⟨mb, mo, cmq, e4, _, e1, _⟩ := B6.out.msAt hjl
      rw [HNM.out] at e4
      have HSN : Hid (inQ (s.ms.take (j + 1)) q = inQ (s.ms.take j) q + (if decide (s.ms[j].q = q) = true then 1 else 0)) := by
       rw [Hid, take_snoc hjl, inQ, inQ, countP_snoc]
      have hse := HSE.out s.ms[j].q
      obtain ⟨x1, hx1⟩ : ∃ x, s.ms[j].q = x := ⟨_, rfl⟩
      rw [hx1] at e1 hse HSN
      clear hx1
      simp only [strV] at e1
      obtain ⟨q1, hq1⟩ : ∃ q : ByteArray, (⟨x1.toArray⟩ : ByteArray) = q := ⟨_, rfl⟩
      rw [hq1] at e1 hse
      clear hq1
      by_cases hxq : x1 = q
      ·have hb : (q1.toList == qq.toList) = true := by rw [hse]; exact decide_eq_true hxq
       have HX := Lib.hid hxq
       clear hse hxq
       go_wp2_with fail
       go_roundg (nm - (j + 1))
       case measure => omega
       case rel => exact ⟨j + 1, c + 1, by go_num, by go_num, by omega, by omega, by omega, by rw [Hid, HSN.out, <- HCJ.out, if_pos (decide_eq_true HX.out)], TQ.out⟩
      ·have hb : (q1.toList == qq.toList) = false := by rw [hse]; exact decide_eq_false hxq
       have HX := Lib.hid hxq
       clear hse hxq
       go_wp2_with fail
       go_roundg (nm - (j + 1))
       case measure => omega
       case rel => exact ⟨j + 1, c, by go_num, rfl, by omega, by omega, by omega, by rw [Hid, HSN.out, <- HCJ.out, if_neg (by simp [HX.out])]; rfl, TQ.out⟩
     ·obtain rfl : j = nm := by omega
      have HCQ : Hid (c = f + hd + d /\ c = inQ s.ms q) := by
       have h1 := HCJ.out
       rw [<- HNM.out, List.take_length] at h1
       exact ⟨by rw [H3.out]; exact h1, h1⟩
      obtain ⟨am6, cm6, hm6⟩ := B6.out.ms0 HNM.out
      have hcf := HCQ.out.1
      go_wp2_with (refine SB.load B6.out rfl ?_; intro A4 HA4)
      refine (HNE.out _ A4 (HA4.out.is (Tch.refl _ _))).mono ?_
      rintro e w7 ⟨rfl, t7⟩
      have T7 := Lib.hid (TQ.out.trans0 t7)
      clear t7 HA4 hm6
      obtain ⟨nx, hnx⟩ : ∃ o, nextM s q = o := ⟨_, rfl⟩
      rw [hnx] at HNF ⊢
      clear hnx
      have hMS : m + c <= 72 := by
       have h1 := HPART.out (k + 1)
       rw [HNX.out, <- HSM.out, <- HCQ.out.2, HNM.out] at h1
       omega
      cases nx with
      | none =>
       have hf0 : f = 0 := by
        have h1 := HNF.out.1
        simp at h1; omega
       subst hf0
       simp only [Option.getD_none, Option.isSome_none, msgV, msg0, strV]
       obtain ⟨z2, hz2⟩ : ∃ x : ByteArray, (⟨([] : Txt).toArray⟩ : ByteArray) = x := ⟨_, rfl⟩
       rw [hz2]
       clear hz2
       have hne : ((hd : Int) + (d : Int) != (c : Int)) = false := by rw [hcf]; simp
       go_wp2_with fail
       go_roundg (nq - (k + 1))
       case measure => omega
       case rel => exact ⟨k + 1, m + c, by go_num, by go_num, by omega, by omega, by omega, by rw [Hid, HNX.out, <- HSM.out, <- HCQ.out.2], ((TT.out.trans0 T5.out).trans0 T7.out).trans0 (Tch.alloc _ _)⟩
      | some mm =>
       have hf1 : 0 < f := by
        have h1 := HNF.out.1
        simp at h1; omega
       obtain ⟨g1, g2, g3⟩ := HNF.out.2 mm rfl
       obtain ⟨x0, x1, x2, x3, x4, x5⟩ := mm
       simp only at g1 g2 g3
       subst g1 g2
       have hf2 : (0 : Int) < (f : Int) := by omega
       have hne : ((f : Int) + (hd : Int) + (d : Int) != (c : Int)) = false := by rw [hcf]; simp
       simp only [Option.getD_some, Option.isSome_some, msgV]
       rw [HQQ.out]
       simp only [strV]
       obtain ⟨b2, hb2⟩ : ∃ x : ByteArray, (⟨x2.toArray⟩ : ByteArray) = x := ⟨_, rfl⟩
       rw [hb2]
       have HDD := Lib.hid (fun W => odead_any x0 qq b2 x3 x4 0 W)
       have hdb : (decide ((0 : Int) = 0) && decide (3 <= x4)) = false := by simp; omega
       rw [hdb] at HDD
       clear hdb hb2
       go_wp2_with (go_at_call 32; refine (HDD.out _).mono ?_; rintro e wd ⟨rfl, td⟩)
       go_roundg (nq - (k + 1))
       case measure => omega
       case rel => exact ⟨k + 1, m + c, by go_num, by go_num, by omega, by omega, by omega, by rw [Hid, HNX.out, <- HSM.out, <- HCQ.out.2], (((TT.out.trans0 T5.out).trans0 T7.out).trans0 (Tch.alloc _ _)).trans0 td⟩
   ·obtain rfl : k = nq := by omega
    have HMT : Hid (m = s.ms.length) := by
     have h1 := HSM.out
     rw [<- HNQ.out, List.take_length, HSUM.out] at h1
     exact h1
    obtain ⟨am5, cm5, hm5⟩ := BR.out.ms0 rfl
    rw [<- HMT.out] at hm5
    go_wp2_with fail
    go_ret
    exact ⟨by simp, BR.out.t.below0⟩

/-! ### THE ROW's STEP -/
set_option maxRecDepth 100000 in
theorem lifted (os : Os) (started : os.Started) (H : Type) (enc : TypeId × Value → H) :
    ReturnsInHanded {} Tryz.checked os 10 .any (Rows.orderCountsSpec.pre6 enc Tryz.prog Tryz.f10 Rows.orderCountsRow.domain false) (Rows.orderCountsSpec.post enc Tryz.prog Tryz.f10 false true false false) := by
  refine returnsInHanded_of_change_sized (C := Tryz.checked) own started (by kernel_rfl) Tryz.func10
    (ChangeSpec.witness6 (enc := enc) (C := Tryz.checked) false ⟨#[], #[.agg #[.int .i64 0, .int .i64 0, .int .i64 0, .int .i64 0, .slice none 0 0, .slice none 0 0, .slice none 0 0, .slice none 0 0, .slice none 0 0]], []⟩ 8 (by kernel_rfl) (by kernel_rfl) (by kernel_rfl) (by kernel_rfl)) ?_
  intro W base args ds gs before hval0 hW hcnd hsz0 _
  have hval : ∀ (j : Nat) t v, Tryz.f10.params[j]? = some t → args[j]? = some v → Value.okWide Tryz.prog W .any base t v := hval0
  have hW' := hW
  obtain ⟨p, q, hA0, hV, rfl, hfz, hnd⟩ := hW
  have hA : DataW.TrodAll enc Tryz.prog W 0 (fun _ => true) true Tryz.f10.params.toList args.toList ds p := hA0
  have hsz : (DataW.weightsEach Tryz.prog (Tryz.f10.params.toList ++ Rows.orderCountsSpec.plain.varTypes Tryz.prog) (ds ++ gs)).all (· ≤ reachBytes) = true := hsz0
  rw [Tryz.params10] at hA hval hsz
  obtain ⟨v0, vs0, d0, ds0, p0, q0, hargs, rfl, rfl, h0, r0⟩ := trodAll_cons hA
  obtain ⟨rfl, rfl, rfl⟩ := trodAll_nil r0
  obtain rfl : args = #[v0] := by cases args; simp_all
  obtain ⟨rfl, rfl⟩ := trodVars_none hV
  have k0 := h0
  have lt0 : ∀ x ∈ p0, x.block < W.heap.size := by obtain ⟨m, hm⟩ := k0; exact DataW.trod_lt m _ _ _ hm
  obtain ⟨cs0, rfl⟩ : ∃ cs, v0 = .agg cs := by
    have := hval 0 27 v0 rfl rfl
    simp only [Value.okWide, Tryz.underlying27] at this
    obtain ⟨cs, h, _⟩ := this
    exact ⟨cs, h⟩
  obtain ⟨s0, w0⟩ : ∃ s, ArgSt W (.agg cs0) s := by
    obtain ⟨fuel, hf⟩ := h0
    have := open_st hf (fun n hn => by have := List.all_eq_true.1 hsz n (DataW.weights_mem_each (j := 0) (t := 27) (d := d0) rfl rfl n hn); simpa using this)
    simpa [Value.cells] using this
  clear hA0 hval0
  refine (walk (.agg cs0) s0 W w0).mono fun e W' ⟨he, bel⟩ => ?_
  subst he
  exact ⟨_, rfl, _, _, _, [], _, [], hW', trodAll_mk1 (shut_bool Tryz.underlying4 _), (trodAll_cons_mk (Below.trod laidOut (by kernel_rfl) (of_decide_eq_true (by kernel_rfl)) k0 bel lt0) trodAll_mk0), rfl, bel.frame _, fun h => by cases h⟩

theorem clo0 : Tryz.prog.mayEnter = true := by kernel_rfl
theorem clo1 : (Rows.orderCountsRow.lifted == Tryz.prog.liftsFinal) = true := by kernel_rfl
theorem clo2 : (Tryz.prog.make == some Rows.orderCountsRow.make) = true := by kernel_rfl
theorem clo3 : (Rows.orderCountsRow.inPlace == Tryz.prog.inPlace 10) = true := by kernel_rfl
theorem clo4 : (Rows.orderCountsRow.unfollowed == Tryz.prog.unfollowed 10) = true := by kernel_rfl
theorem clo5 : (Rows.orderCountsRow.recurses == Tryz.prog.recurses 10) = true := by kernel_rfl
theorem clo6 : (Rows.orderCountsRow.named == Tryz.prog.varsNamed 10) = true := by kernel_rfl
theorem clo7 : laidOutB Tryz.prog = true := by kernel_rfl
theorem clo8 : mapsRowed Tryz.prog = true := by kernel_rfl
theorem clo9 : Tryz.prog.stopsHeard = true := by kernel_rfl
theorem clo10 : (Rows.orderCountsRow.plainKeys == Tryz.prog.plainKeys) = true := by kernel_rfl
set_option maxRecDepth 100000 in
theorem closed : joinedFacts Tryz.prog 10 Tryz.f10 Rows.orderCountsSpec Rows.orderCountsRow = true := by
  unfold joinedFacts
  rw [clo0, clo1, clo2, clo3, clo4, clo5, clo6, clo7, clo8, clo9, clo10]
  kernel_rfl
theorem over : Rows.orderCountsRow.holds Tryz.pinned (OpenSpec.ofChange Rows.orderCountsSpec) :=
  OpenClaim.holds_of_wide 10 Tryz.f10 rfl rfl rfl rfl rfl rfl rfl ⟨rfl, rfl, rfl, rfl, rfl⟩ rfl rfl rfl rfl rfl (by kernel_rfl) Tryz.func10 closed
    (of_decide_eq_true (by kernel_rfl)) (by unfold Func.isWrapper; first | (rw [if_pos (by decide +kernel)]; kernel_rfl) | (rw [if_neg (by decide +kernel)]; exact ⟨rfl, rfl⟩))
    (fun os started H enc _ => lifted os started H enc)

/--  THE STATEMENT  -/
theorem proved : Rows.OrderCountsSaid := over
#print axioms proved
end Go.Proofs.YtelaljoebdpicaaGreat.orderCounts
