/- SegSpoilt: the law SegSpoilt returns true for every input, and each argument reads behind the call as it read before. No condition. The frame is the kit's proof-skeleton. -/
import Derived.Test.YtcjlgdldhcbcjaaRows
import Derived.WalkKit
import Derived.ProofKit
import Derived.OpenShut
import Derived.ShutString
import Derived.ChangeOld
import Derived.Below
import Derived.Test.YtcjlgdldhcbcjaaBeg3
import Derived.Test.YtcjlgdldhcbcjaaTorn3
import Derived.Test.YtcjlgdldhcbcjaaSpoil0
import Derived.Test.YtcjlgdldhcbcjaaRegY
import Derived.Test.YtcjlgdldhcbcjaaMake
import Derived.Deep.DeepCutAuto
import Derived.Deep.CutBlock
namespace Go.Proofs.Ytcjlgdldhcbcjaa.segSpoilt
open Go.ChangeShapes Go.WideShapes Go.ChangeAt Go.RowKit Go.Maps
open Go.ChangeMaps (open_string shut_string)
set_option linter.unusedVariables false
set_option linter.unusedSimpArgs false

theorem own : ownKnob Try.prog.godebug = none := by kernel_rfl
theorem laidOut : laidOutB Try.prog = true := by kernel_rfl

theorem wf_bounds {n : Int} (h : (Lit.int .i64 n).wf = true) : -9223372036854775808 ≤ n ∧ n ≤ 9223372036854775807 := by
  simp only [Lit.wf, IntKind.min, IntKind.max, IntKind.signed, IntKind.bits] at h
  simp at h; omega
theorem bytes_le30 (zb : List Int) (lb : Nat) : (bytesOf (zb.take (min lb 30))).length ≤ 30 := by
  simp [bytesOf]; omega
theorem u8s_set (l : List UInt8) (j : Nat) (c : UInt8) : (u8s l).set j (.int .u8 (c.toNat : Int)) = u8s (l.set j c) := by
  unfold u8s; rw [List.map_set]
theorem xor8 (a b : UInt8) : bits .xor .u8 (a.toNat : Int) (b.toNat : Int) = ((a ^^^ b).toNat : Int) := by
  rw [Go.u8_xor_nat a.toNat b.toNat (UInt8.toNat_lt a) (UInt8.toNat_lt b), UInt8.toNat_xor]
theorem xor_ne (u x : UInt8) (hx : x.toNat ≠ 0) : u ^^^ x ≠ u := by
  intro e
  have h := congrArg UInt8.toNat e
  rw [UInt8.toNat_xor] at h
  have h2 := congrArg (fun n => u.toNat ^^^ n) h
  simp only [xor_inv, Nat.xor_self] at h2
  exact hx h2
set_option maxRecDepth 100000 in
set_option maxHeartbeats 20000000 in
theorem walk (a0 : Option Addr) (len0 cap0 : Nat) (a1 : Int) (a2 : Int) (w : World) (w0 : IsBss w a0 len0 cap0) (w1 : (Lit.int .i64 a1).wf = true) (w2 : (Lit.int .u8 a2).wf = true) :
    Calls Try.prog 7 #[.slice a0 len0 cap0, .int .i64 a1, .int .u8 a2] w fun e w' => e = .returned (.bool true) ∧ Below w.heap.size w w' := by
  have hbd := wf_bounds w1
  obtain ⟨xc, hxc⟩ : ∃ c : UInt8, (c.toNat : Int) = a2 := ⟨_, bytesOf_at w2⟩
  subst hxc
  have W0 := Lib.hid w0
  obtain ⟨xn, hxn⟩ : ∃ n, xc.toNat = n := ⟨_, rfl⟩
  have HXN := Lib.hid hxn
  rw [hxn]
  clear w0 w1 w2 hxn
  go_enter Try.func7, Try.ntmps7
  go_wp2_with fail
  refine (begun4_any w).mono ?_
  rintro e w1 ⟨rfl, t1⟩
  have T1 := Lib.hid t1; clear t1
  go_wp2_with fail
  refine (dk_new (K := K0 w1) 1048576 w1 (fun k hk => hk)).mono ?_
  rintro e w2 ⟨db, mb, rfl, d2, t2⟩
  rw [show roomOf 1048576 = 1048576 by rfl] at d2
  have D2 := Lib.hid d2; have T2 := Lib.hid t2; clear d2 t2
  go_wp2_with fail
  refine (open_ok D2.out 0 (by omega) (by simp) e0 rfl).mono ?_
  rintro e w3 ⟨lb, rfl, l3, k3⟩
  by_cases hneg : a1 < 0
  · have T3 : Hid (Tch No w1 w3) := k3.noK (w := w1) T2.out
    clear l3 k3 hbd
    go_wp2_with fail
    go_ret
    exact ⟨rfl, (T1.out.trans0 T3.out).below0⟩
  by_cases hx0 : xn = 0
  · subst hx0
    have T3 : Hid (Tch No w1 w3) := k3.noK (w := w1) T2.out
    clear l3 k3 hbd
    go_wp2_with fail
    go_ret
    exact ⟨rfl, (T1.out.trans0 T3.out).below0⟩
  obtain ⟨ct, rfl⟩ : ∃ ct : Nat, a1 = (ct : Int) := ⟨a1.toNat, by omega⟩
  have hneg' : ¬ (ct : Int) < 0 := by omega
  have hct : (ct : Int) ≤ 9223372036854775807 := by omega
  have hxi : ¬ (xn : Int) = 0 := by omega
  have hxb : ((xn : Int) == 0) = false := by rw [beq_eq_false_iff_ne]; omega
  have B3 : Hid (TornS w1 w3 lb db mb [] (.slice none 0 0) [] (.slice none 0 0) [] 0) := by
    have hR : ∀ k, ¬ (RowsF (.slice none 0 0) [] k ∨ (Value.slice none 0 0).ownBlock = some k) := by
      rintro k ((hk | ⟨x, hx, _⟩) | hk)
      · simp [Value.ownBlock] at hk
      · simp at hx
      · simp [Value.ownBlock] at hk
    refine ⟨LSt.less (K := K0 w1) l3 (fun k hk => ?_), IsRows.nil _, rfl, World.ownsRow_nil _ _ _ _, fun k hk => absurd hk (hR k), fun k hk => absurd (.inr hk) (hR k), k3.noK (w := w1) T2.out, by simp, by simp⟩
    rcases hk with (hk | hk) | hk
    · exact hk
    · exact absurd (.inl hk) (hR k)
    · exact absurd (.inr hk) (hR k)
  clear l3 k3 D2 T2 hneg hbd
  go_upto_block 0 with fail
  go_cut [11] from 12 to 64 (fun s11 wx => ∃ (A : List (List UInt8)) (v : Value) (R : List BE), s11 = v ∧ Hid (TornS w1 wx lb db mb A v R (.slice none 0 0) [] 8))
  case first =>
    go_wp2_with fail
    go_loopw [11, 12] (fun s i wr => ∃ (j : Nat) (A : List (List UInt8)) (v : Value) (R : List BE), j ≤ len0 ∧ j ≤ 8 ∧ i = .int .i64 j ∧ s = v ∧ Hid (TornS w1 wr lb db mb A v R (.slice none 0 0) [] j)) (fun _ i _ => 8 - (intOf i).toNat)
    case atStart => exact ⟨0, [], _, [], by omega, by omega, rfl, rfl, B3⟩
    case round =>
      clear B3
      obtain ⟨j, A, v, R, hj1, hj2, rfl, rfl, HB⟩ := hrel
      obtain ⟨av, mv, cv, rfl, hmv⟩ := own_shape' HB.out.rows.row
      by_cases gg : j < len0 ∧ j < 8
      · obtain ⟨g1, g2⟩ := gg
        obtain ⟨ob, oo, x, l, c, zs, ha, hcx, hrow⟩ := W0.out.2.2 j g1
        subst ha
        have hc' := (T1.out.trans0 HB.out.tch).cell hcx (fun h => h)
        have HR := Lib.hid (hrow.tch0 (T1.out.trans0 HB.out.tch))
        obtain ⟨bb, hbb⟩ : ∃ bb, bytesOf (zs.take (min l 30)) = bb := ⟨_, rfl⟩
        have hb30 : bb.length ≤ 30 := by rw [← hbb]; exact bytes_le30 zs l
        have HBB := Lib.hid hbb
        clear hcx hrow hbb
        go_wp2_with fail
        refine (short_own x l c zs 30 wr HR.out (by omega)).mono ?_
        rintro e w5 ⟨vb, rfl, sb, fb, tb, _⟩
        rw [HBB.out] at sb
        obtain ⟨xa, xm, xc', rfl, hxm⟩ := sb.shape'
        have SB := Lib.hid sb; have FB := Lib.hid fb; have TB := Lib.hid tb
        have L5 : Hid (LSt w5 lb db mb 1048576 (oneM A) 0 A (fun k => ((K0 w1 k ∨ RowsF (.slice av mv cv) R k) ∨ (Value.slice none 0 0).ownBlock = some k) ∨ (Value.slice xa xm xc').ownBlock = some k)) := HB.out.log.more tb (fun k hk => by
          rcases hk with hk | hk
          · exact .inl hk
          · exact .inr ⟨fb k hk, sb.blt k hk⟩)
        have hfl := framed_le A (fun b hb => (HB.out.fit b hb).2)
        have hadd := Lib.hid (lst_add L5.out (by omega) (.slice xa xm xc') bb sb (fun k hk => .inr hk) (Nat.le_trans (oneM_len A) (by omega)) (by have := HB.out.cnt; omega))
        have HXL : Hid (xm = bb.length) := hxm.out
        clear sb fb tb hxm HBB hmv
        by_cases hfit : fits bb
        · have hx1 : 0 < xm := by have := HXL.out; unfold fits at hfit; omega
          have hao := addM_one 1048576 A bb hfit (by have := HB.out.cnt; omega)
          rw [if_neg (by have := HB.out.cnt; omega)] at hao
          rw [hao] at hadd
          have HFIT := Lib.hid hfit
          clear hao hfit
          go_wp2_with fail
          refine hadd.out.mono ?_
          rintro e w6 ⟨rfl, l6, k6⟩
          have L6 := Lib.hid l6
          have K6 := Lib.hid k6
          have R6 : Hid (w6.ownsRow 0 22 1 (.slice av mv cv) R.length (R.map (·.v))) := k6.own (own_tch HB.out.rows.row TB.out (fun _ _ h => h)) (fun k hk => .inl (.inl (.inr (.inl hk))))
          have hRl : Hid (R.length + 1 ≤ 2000000000) := by rw [Hid]; have h1 := congrArg List.length HB.out.is; rw [List.length_map] at h1; have := HB.out.cnt; omega
          clear hadd l6 k6 hfl
          go_wp2_with (at_builtin; go_must (refine wpList_appR rfl _ _ rfl (.slice av mv cv) R.length (R.map (·.v)) rfl (own_tch R6.out (Tch.alloc _ _) (fun _ _ h => h)) ⟨w6.heap.size, 0, none⟩ 1 (.slice xa xm xc') rfl (by simp) rfl hRl.out ?_); intro aN nN cN w7 hA; have H7 := Lib.hid (HB.out.add (x := ⟨bb, .slice xa xm xc'⟩) HFIT.out hb30 TB.out SB.out FB.out L6.out K6.out (Tch.alloc w6 _) hA); clear hA)
          exact ⟨⟨j + 1, A ++ [bb], _, _, by omega, by omega, by go_num, rfl, H7⟩, by simp [intOf]; omega⟩
        · have hx0 : xm = 0 := by have := HXL.out; unfold fits at hfit; omega
          have hao := addM_no 1048576 (oneM A) 0 A bb hfit
          rw [hao] at hadd
          subst hx0
          clear hao hfit hfl
          go_wp2_with fail
          refine hadd.out.mono ?_
          rintro e w6 ⟨rfl, l6, k6⟩
          have H7 := Lib.hid (HB.out.skip TB.out l6 k6)
          clear hadd l6 k6 HB L5
          go_wp2_with fail
          exact ⟨⟨j + 1, A, _, _, by omega, by omega, by go_num, rfl, H7⟩, by simp [intOf]; omega⟩
      · have H9 := Lib.hid (HB.out.keep (Tch.refl _ _) hj2)
        by_cases g1 : j < len0
        · have g2 : ¬ j < 8 := fun h => gg ⟨g1, h⟩
          clear gg
          go_wp2_with fail
          go_meet
          exact ⟨A, _, R, rfl, H9⟩
        · clear gg
          go_wp2_with fail
          go_meet
          exact ⟨A, _, R, rfl, H9⟩
  case rest =>
    clear B3
    obtain ⟨A, v, R, rfl, HB⟩ := hcut
    obtain ⟨wa, hwa⟩ : ∃ x, x = wc := ⟨_, rfl⟩
    subst hwa
    obtain ⟨av, mv, cv, rfl, hmv⟩ := own_shape' HB.out.rows.row
    have hfl := framed_le A (fun b hb => (HB.out.fit b hb).2)
    have hAc := HB.out.cnt
    obtain ⟨me, hme⟩ : ∃ n, A.length = n := ⟨_, rfl⟩
    have hmv2 : mv = me := by have h1 := congrArg List.length HB.out.is; rw [List.length_map] at h1; rw [hmv.out, h1, hme]
    subst hmv2
    obtain ⟨L, hL⟩ : ∃ L, (framed A).length = L := ⟨_, rfl⟩
    have hL9 : L ≤ 288 := by omega
    have HL := Lib.hid hL; have HNA := Lib.hid hme
    have hn8 : mv ≤ 8 := by omega
    have hmc : mv ≤ cv := by
      obtain ⟨a', c', e, h1, _⟩ := own_shape HB.out.rows.row
      injection e with e1 e2 e3; omega
    clear hmv hfl hAc
    go_wp2_with fail
    refine (dk_read HB.out.log.dk ⟨#[108, 111, 103, 48, 48, 48]⟩ (by decide)).mono ?_
    rintro e w5 ⟨x5, he, b5, f5, t5, o5⟩
    rw [show (ByteArray.mk #[108, 111, 103, 48, 48, 48]).data.toList = segNm 0 from rfl, get_one] at he b5 o5
    by_cases hA : A = []
    · rw [if_pos hA] at he
      simp only [Option.isSome_none] at he
      subst he
      have hm0 : mv = 0 := by rw [← hme, hA]; rfl
      subst hm0
      have T5 := Lib.hid ((T1.out.trans0 HB.out.tch).trans0 t5)
      obtain ⟨xa, xm, xc', rfl, _⟩ := b5.shape'
      clear b5 f5 t5 o5 HB hA hL hme
      go_wp2_with fail
      go_ret
      exact ⟨rfl, T5.out.below0⟩
    rw [if_neg hA] at he b5 o5
    simp only [Option.isSome_some, Option.elim_some] at he b5 o5
    subst he
    have hL1 : 0 < L := by
      cases A with
      | nil => exact absurd rfl hA
      | cons b r => rw [framed_cons, List.length_append, frameM_length] at hL; omega
    rw [hL] at o5
    obtain ⟨g5, c5, hx5⟩ : ∃ g c, x5 = .slice (some ⟨g, 0, none⟩) L c := by
      rcases o5.2 with ⟨_, h0⟩ | ⟨g, c', cur, e, _⟩
      · omega
      · exact ⟨g, c', e⟩
    subst hx5
    obtain ⟨pa, hpa⟩ : ∃ k, ct % L = k := ⟨_, rfl⟩
    have hpL : pa < L := by rw [← hpa]; exact Nat.mod_lt _ (by omega)
    have hrem : (ct : Int).tmod (L : Int) = (pa : Int) := by rw [← Int.ofNat_tmod, hpa]
    have hrem2 : (ct : Int) % (L : Int) = (pa : Int) := by rw [← hpa, Int.natCast_emod]
    have hL0 : ¬ (L : Int) = 0 := by omega
    have hLb : ((L : Int) == 0) = false := by rw [beq_eq_false_iff_ne]; omega
    have hpA : pa < (framed A).length := by rw [hL]; exact hpL
    obtain ⟨u, hu⟩ : ∃ u, ((framed A)[pa]'hpA) = u := ⟨_, rfl⟩
    obtain ⟨y, hy⟩ : ∃ y, u ^^^ xc = y := ⟨_, rfl⟩
    have hyu : Hid (y ≠ (framed A)[pa]'hpA) := by rw [Hid, hu, ← hy]; exact xor_ne u xc (by rw [HXN.out]; exact hx0)
    have X8 := xor8 u xc
    rw [hy, HXN.out] at X8
    obtain ⟨un, hun⟩ : ∃ n, u.toNat = n := ⟨_, rfl⟩
    rw [hun] at X8
    have cell := o5.cellAt pa (by omega)
    have fro := o5.frozenAt pa
    have hget : (u8s (framed A))[pa]? = some (.int .u8 (un : Int)) := by
      rw [u8s, List.getElem?_map, List.getElem?_eq_getElem hpA, hu]
      show some (Value.int IntKind.u8 (u.toNat : Int)) = _
      rw [hun]
    rw [hget] at cell
    have hg5 : Hid (wa.heap.size ≤ g5) := f5 g5 rfl
    obtain ⟨wE, hwE⟩ : ∃ wE, w5.setCell ⟨g5, pa, none⟩ (.int .u8 (y.toNat : Int)) = wE := ⟨_, rfl⟩
    have HWE := Lib.hid hwE
    have TE : Hid (Tch No wa wE) := by rw [← hwE]; exact t5.fresh (Tch.setCell (F := fun q => q = g5) w5 ⟨g5, pa, none⟩ _ (fun _ => rfl)) (fun k hk => by rw [hk]; exact hg5.out)
    obtain ⟨b', hb'⟩ : ∃ b', (framed A).set pa y = b' := ⟨_, rfl⟩
    have hbl : b'.length = L := by rw [← hb', List.length_set, hL]
    have SE : Hid (SlB wE (.slice (some ⟨g5, 0, none⟩) L c5) b') := by
      have h := (o5.stored pa (.int .u8 (y.toNat : Int))).1
      rw [u8s_set, hwE, hb'] at h
      rw [← hbl] at h
      have h2 := SlB.ofRow h (by unfold lim; omega)
      rw [hbl] at h2
      exact h2
    have HBE := Lib.hid (HB.out.keep TE.out (Nat.le_refl _))
    have HBP := Lib.hid hb'; have HBL := Lib.hid hbl
    obtain ⟨yn, hyn⟩ : ∃ n, y.toNat = n := ⟨_, rfl⟩
    rw [hyn] at X8 HWE
    have hmv0 : 0 < mv := by
      cases A with
      | nil => exact absurd rfl hA
      | cons b r => simp at hme; omega
    clear hme
    clear b5 f5 t5 o5 HB hget hu hy hun hwE hb' hbl hyn hpa hL hA hx0 hg5
    go_wp2_with fail
    rw [HWE.out]
    go_wp2_with fail
    go_loop [16, 17] (fun s t => ∃ k : Nat, k < mv ∧ s = .int .i64 k ∧ ∃ fr0 : Nat, fr0 ≤ pa ∧ t = .int .i64 fr0 ∧ Hid ((framed (A.take k)).length = fr0)) (fun s _ => mv - (intOf s).toNat)
    case atStart => exact ⟨0, hmv0, rfl, 0, by omega, rfl, by simp [Hid, framed]⟩
    case round =>
      obtain ⟨k, hk, rfl, fr0, hfr0, rfl, hF⟩ := hrel
      have HRL : Hid (R.length = mv) := by have h1 := congrArg List.length HBE.out.is; rw [List.length_map, HNA.out] at h1; exact h1
      have hkR : k < R.length := by rw [HRL.out]; exact hk
      have hkA : k < A.length := by rw [HNA.out]; exact hk
      obtain ⟨ga, ca, hs, hx⟩ := HBE.out.rows.at_ hkR
      have hbk : A[k] = R[k].b := by
        have h1 : (R.map (·.b))[k]? = A[k]? := by rw [HBE.out.is]
        rw [List.getElem?_map, List.getElem?_eq_getElem hkR, List.getElem?_eq_getElem hkA] at h1
        simpa using h1.symm
      have hbt := HBE.out.rows.bts R[k] (List.getElem_mem hkR)
      have hfit := HBE.out.fit A[k] (List.getElem_mem hkA)
      obtain ⟨xk, mk, ck, hvk, hmk⟩ := hbt.shape'
      have hmk2 : mk = A[k].length := by rw [hmk.out, hbk]
      rw [hvk] at hx
      simp only [Value.slice.injEq] at hs
      obtain ⟨rfl, hs2, rfl⟩ := hs
      have hstep : Hid ((framed (A.take (k + 1))).length = fr0 + (6 + mk)) := by
        rw [Hid, List.take_add_one, List.getElem?_eq_getElem hkA]
        show (framed (A.take k ++ [A[k]])).length = _
        rw [framed_append, List.length_append, framed_one, frameM_length, hF.out, hmk2]
      have hmk3 : mk ≤ 30 := by rw [hmk2]; exact hfit.2
      clear hs2 hmk hmk2 hvk hbt hfit hbk
      by_cases hle : fr0 + 6 + mk ≤ pa
      · have hk1 : k + 1 < mv := by
          rcases Nat.lt_or_ge (k + 1) mv with q | q
          · exact q
          · have e1 : A.take (k + 1) = A := List.take_of_length_le (by rw [HNA.out]; exact q)
            have h1 := hstep.out
            rw [e1, HL.out] at h1
            omega
        go_wp2_with fail
        exact ⟨⟨k + 1, hk1, by go_num, fr0 + (6 + mk), by omega, by go_num, hstep⟩, by simp [intOf]; omega⟩
      · obtain ⟨r, s1, s2, s3⟩ := spoilt A (fun b hb => (HBE.out.fit b hb).1) pa k y hpA hyu.out hkA (by rw [hF.out]; exact hfr0) (by rw [hstep.out]; omega)
        rw [HBP.out] at s1 s2 s3
        rw [hF.out] at s3
        obtain ⟨o1, o2⟩ := open_spoilt b' (by rw [HBL.out]; omega)
        have hall : (framesM b').all.length ≤ 288 := by have := (framesM_le b').1; rw [HBL.out] at this; omega
        rw [s1] at hall o2
        have S2 := Lib.hid s2; have S3 := Lib.hid s3; have O1 := Lib.hid o1; have O2 := Lib.hid o2; have HALL := Lib.hid hall
        clear s1 s2 s3 o1 o2 hall hstep hyu hpA cell fro
        go_wp2_with fail
        refine (dk_new (K := K0 wE) 1048576 wE (fun k hk => hk)).mono ?_
        rintro e w6 ⟨dg, mg, rfl, d6, t6⟩
        rw [show roomOf 1048576 = 1048576 by rfl] at d6
        have hp1 := dk_append d6 ⟨#[108, 111, 103, 48, 48, 48]⟩ _ b' (SE.out.tch0 t6) (fun q hq => SE.out.blt q hq) (by decide) (by simp) (by rw [HBL.out]; omega)
        rw [show (ByteArray.mk #[108, 111, 103, 48, 48, 48]).data.toList = segNm 0 from rfl, (app_left b' (by rw [HBL.out]; omega)).1] at hp1
        have HP1 := Lib.hid hp1
        have T6 := Lib.hid t6
        clear d6 t6 hp1
        go_wp2_with fail
        refine HP1.out.mono ?_
        rintro e w7 ⟨rfl, d7, k7⟩
        have hop := Lib.hid (open_any d7 0 (by omega) (by simp [segM]))
        have T7 : Hid (Tch No wE w7) := k7.noK (w := wE) T6.out
        clear d7 k7 HP1
        go_wp2_with fail
        refine hop.out.mono ?_
        rintro e w8 (⟨lg, hq0, rfl, l8, k8⟩ | ⟨hq0, rfl, d8, k8⟩)
        · have T8 : Hid (Tch No wE w8) := k8.noK (w := wE) T7.out
          have he0 : (framesM b').err = 0 := by rw [← O1.out]; exact hq0
          have L8 : Hid (LSt w8 lg dg mg 1048576 (openM 1048576 (segM b' 0 false) 0).M (openM 1048576 (segM b' 0 false) 0).last (A.take k ++ r) (K0 wE)) := by
            have h := l8
            rw [O2.out he0] at h
            exact h
          have hlow : pa < fr0 + 2 := by
            rcases Nat.lt_or_ge pa (fr0 + 2) with q | q
            · exact q
            · have := S3.out (by omega); omega
          clear l8 k8 hq0 hop he0
          go_wp2_with fail
          refine (lst_all L8.out (by have := HALL.out; omega)).mono ?_
          rintro e w10 ⟨vA, RA, rfl, rA, iA, _, tA⟩
          obtain ⟨aA, mA, cA, rfl, hmA, hcA⟩ := rows_shape rA
          have RAll := Lib.hid rA
          have HRA : Hid (RA.length = mA) := hmA.out.symm
          have hkmA : k ≤ mA := by
            have h1 := congrArg List.length iA
            rw [List.length_map, List.length_append, List.length_take, HRA.out] at h1
            omega
          have RW : Hid (IsRows w10 (.slice (some ⟨ga, 0, none⟩) mv cv) R) := (HBE.out.rows.tch0 T8.out).tch0 tA
          have HEQ : Hid ((RA.take k).map (·.b) = (R.take k).map (·.b)) := by
            rw [Hid, List.map_take, List.map_take, iA, HBE.out.is, List.take_append_of_le_length (by rw [List.length_take]; omega), List.take_take, Nat.min_self]
          have T10 := Lib.hid (T8.out.trans0 tA)
          clear rA iA tA hmA
          go_upto_region 30 with fail
          go_cut [6] from 126 to 144 (fun s6 wx => s6 = .bool true ∧ Hid (Tch No w10 wx))
          case first =>
            rename_i hJ hM
            refine frame_gen 145 rfl (fun fr hfr hsz => ?_)
            have h1 : fr.eval (.tmp 1) = .int .i64 (pa : Nat) := by rw [hfr.out]; rfl
            have h11 : fr.eval (.tmp 11) = .slice (some ⟨ga, 0, none⟩) mv cv := by rw [hfr.out]; rfl
            have h16 : fr.eval (.tmp 16) = .int .i64 (k : Nat) := by rw [hfr.out]; rfl
            have h17 : fr.eval (.tmp 17) = .int .i64 (fr0 : Nat) := by rw [hfr.out]; rfl
            have h20 : fr.eval (.tmp 20) = .slice aA mA cA := by rw [hfr.out]; rfl
            refine wp_region_any (by kernel_rfl) ?_
            change wpAny _ _ _ _ 20 _ _ (World.drew _)
            refine any_take 0 126 (.int .i64 (pa : Nat)) (oi := ⟨some 126, _, _, _, _, none⟩) rfl rfl (by kernel_rfl) (by kernel_rfl) (by kernel_rfl) (fun _ _ _ h => h) (wanted_no rfl) (fun W => x_move (.tmp 1) rfl (by simp [ev_eq, ev_ne, size_put, hsz, h1, h11, h16, h17, h20]) W) ?_
            refine any_take 1 127 (.int .i64 (fr0 : Nat)) (oi := ⟨some 127, _, _, _, _, none⟩) rfl rfl (by kernel_rfl) (by kernel_rfl) (by kernel_rfl) (fun _ _ _ h => h) (wanted_no rfl) (fun W => x_move (.tmp 17) rfl (by simp [ev_eq, ev_ne, size_put, hsz, h1, h11, h16, h17, h20]) W) ?_
            refine any_take 2 128 (.int .i64 ((pa : Int) - (fr0 : Int))) (oi := ⟨some 128, _, _, _, _, none⟩) rfl rfl (by kernel_rfl) (by kernel_rfl) (by kernel_rfl) (fun _ _ _ h => h) (wanted_no rfl) (fun W => x_sub (.tmp 126) (.tmp 127) (a := pa) (b := fr0) rfl (by simp [ev_eq, ev_ne, size_put, hsz, h1, h11, h16, h17, h20]) (by simp [ev_eq, ev_ne, size_put, hsz, h1, h11, h16, h17, h20]) (IntWalk.i64_in _ ⟨by omega, by omega⟩) W) ?_
            refine any_take 3 129 (.bool true) (oi := ⟨some 129, _, _, _, _, none⟩) rfl rfl (by kernel_rfl) (by kernel_rfl) (by kernel_rfl) (fun _ _ _ h => h) (wanted_no rfl) (fun W => x_lss (.tmp 128) (.const (.int .i64 2)) (a := (pa : Int) - (fr0 : Int)) (b := 2) rfl (by simp [ev_eq, ev_ne, size_put, hsz, h1, h11, h16, h17, h20]) rfl (decide_eq_true (by omega)) W) ?_
            refine any_take 4 130 (.bool true) (oi := ⟨some 130, _, _, _, _, none⟩) rfl rfl (by kernel_rfl) (by kernel_rfl) (by kernel_rfl) (fun _ _ _ h => h) (wanted_no rfl) (fun W => x_move (.tmp 129) rfl (by simp [ev_eq, ev_ne, size_put, hsz, h1, h11, h16, h17, h20]) W) ?_
            refine any_take 5 131 (.slice aA mA cA) (oi := ⟨some 131, _, _, _, _, some (4, true)⟩) rfl rfl (by kernel_rfl) (by kernel_rfl) (by kernel_rfl) (fun _ _ _ h => h) (wanted_by (oj := ⟨some 130, _, _, _, _, _⟩) (j := 4) (d := 130) (want := true) rfl rfl rfl (by simp [ev_eq, ev_ne, size_put, hsz, h1, h11, h16, h17, h20])) (fun W => x_move (.tmp 20) rfl (by simp [ev_eq, ev_ne, size_put, hsz, h1, h11, h16, h17, h20]) W) ?_
            refine any_take 6 132 (.int .i64 (mA : Nat)) (oi := ⟨some 132, _, _, _, _, some (4, true)⟩) rfl rfl (by kernel_rfl) (by kernel_rfl) (by kernel_rfl) (fun _ _ _ h => h) (wanted_by (oj := ⟨some 130, _, _, _, _, _⟩) (j := 4) (d := 130) (want := true) rfl rfl rfl (by simp [ev_eq, ev_ne, size_put, hsz, h1, h11, h16, h17, h20])) (fun W => x_lenR (.tmp 131) (a := aA) (n := mA) (c := cA) rfl (by simp [ev_eq, ev_ne, size_put, hsz, h1, h11, h16, h17, h20]) W) ?_
            refine any_take 7 133 (.int .i64 (k : Nat)) (oi := ⟨some 133, _, _, _, _, some (4, true)⟩) rfl rfl (by kernel_rfl) (by kernel_rfl) (by kernel_rfl) (fun _ _ _ h => h) (wanted_by (oj := ⟨some 130, _, _, _, _, _⟩) (j := 4) (d := 130) (want := true) rfl rfl rfl (by simp [ev_eq, ev_ne, size_put, hsz, h1, h11, h16, h17, h20])) (fun W => x_move (.tmp 16) rfl (by simp [ev_eq, ev_ne, size_put, hsz, h1, h11, h16, h17, h20]) W) ?_
            refine any_take 8 134 (.bool true) (oi := ⟨some 134, _, _, _, _, some (4, true)⟩) rfl rfl (by kernel_rfl) (by kernel_rfl) (by kernel_rfl) (fun _ _ _ h => h) (wanted_by (oj := ⟨some 130, _, _, _, _, _⟩) (j := 4) (d := 130) (want := true) rfl rfl rfl (by simp [ev_eq, ev_ne, size_put, hsz, h1, h11, h16, h17, h20])) (fun W => x_geq (.tmp 132) (.tmp 133) (a := mA) (b := k) rfl (by simp [ev_eq, ev_ne, size_put, hsz, h1, h11, h16, h17, h20]) (by simp [ev_eq, ev_ne, size_put, hsz, h1, h11, h16, h17, h20]) (decide_eq_true (by omega)) W) ?_
            refine any_take 9 135 (.bool true) (oi := ⟨some 135, _, _, _, _, none⟩) rfl rfl (by kernel_rfl) (by kernel_rfl) (by kernel_rfl) (fun _ _ _ h => h) (wanted_no rfl) (fun W => x_pick (.tmp 130) (.tmp 134) (.const (.bool false)) (b := true) rfl (by simp [ev_eq, ev_ne, size_put, hsz, h1, h11, h16, h17, h20]) (by simp [ev_eq, ev_ne, size_put, hsz, h1, h11, h16, h17, h20]) W) ?_
            refine any_take 10 136 (.bool true) (oi := ⟨some 136, _, _, _, _, none⟩) rfl rfl (by kernel_rfl) (by kernel_rfl) (by kernel_rfl) (fun _ _ _ h => h) (wanted_no rfl) (fun W => x_move (.tmp 135) rfl (by simp [ev_eq, ev_ne, size_put, hsz, h1, h11, h16, h17, h20]) W) ?_
            refine any_take 11 137 (.slice aA mA cA) (oi := ⟨some 137, _, _, _, _, some (10, true)⟩) rfl rfl (by kernel_rfl) (by kernel_rfl) (by kernel_rfl) (fun _ _ _ h => h) (wanted_by (oj := ⟨some 136, _, _, _, _, _⟩) (j := 10) (d := 136) (want := true) rfl rfl rfl (by simp [ev_eq, ev_ne, size_put, hsz, h1, h11, h16, h17, h20])) (fun W => x_move (.tmp 20) rfl (by simp [ev_eq, ev_ne, size_put, hsz, h1, h11, h16, h17, h20]) W) ?_
            refine any_take 12 138 (.int .i64 (k : Nat)) (oi := ⟨some 138, _, _, _, _, some (10, true)⟩) rfl rfl (by kernel_rfl) (by kernel_rfl) (by kernel_rfl) (fun _ _ _ h => h) (wanted_by (oj := ⟨some 136, _, _, _, _, _⟩) (j := 10) (d := 136) (want := true) rfl rfl rfl (by simp [ev_eq, ev_ne, size_put, hsz, h1, h11, h16, h17, h20])) (fun W => x_move (.tmp 16) rfl (by simp [ev_eq, ev_ne, size_put, hsz, h1, h11, h16, h17, h20]) W) ?_
            refine any_take 13 139 (.slice aA k cA) (oi := ⟨some 139, _, _, _, _, some (10, true)⟩) rfl rfl (by kernel_rfl) (by kernel_rfl) (by kernel_rfl) (fun _ _ _ h => h) (wanted_by (oj := ⟨some 136, _, _, _, _, _⟩) (j := 10) (d := 136) (want := true) rfl rfl rfl (by simp [ev_eq, ev_ne, size_put, hsz, h1, h11, h16, h17, h20])) (fun W => x_front (.tmp 137) (.tmp 138) (a := aA) (m := mA) (c := cA) (n := k) rfl (by simp [ev_eq, ev_ne, size_put, hsz, h1, h11, h16, h17, h20]) (by simp [ev_eq, ev_ne, size_put, hsz, h1, h11, h16, h17, h20]) (by omega) W) ?_
            refine any_take 14 140 (.slice (some ⟨ga, 0, none⟩) mv cv) (oi := ⟨some 140, _, _, _, _, some (10, true)⟩) rfl rfl (by kernel_rfl) (by kernel_rfl) (by kernel_rfl) (fun _ _ _ h => h) (wanted_by (oj := ⟨some 136, _, _, _, _, _⟩) (j := 10) (d := 136) (want := true) rfl rfl rfl (by simp [ev_eq, ev_ne, size_put, hsz, h1, h11, h16, h17, h20])) (fun W => x_move (.tmp 11) rfl (by simp [ev_eq, ev_ne, size_put, hsz, h1, h11, h16, h17, h20]) W) ?_
            refine any_take 15 141 (.int .i64 (k : Nat)) (oi := ⟨some 141, _, _, _, _, some (10, true)⟩) rfl rfl (by kernel_rfl) (by kernel_rfl) (by kernel_rfl) (fun _ _ _ h => h) (wanted_by (oj := ⟨some 136, _, _, _, _, _⟩) (j := 10) (d := 136) (want := true) rfl rfl rfl (by simp [ev_eq, ev_ne, size_put, hsz, h1, h11, h16, h17, h20])) (fun W => x_move (.tmp 16) rfl (by simp [ev_eq, ev_ne, size_put, hsz, h1, h11, h16, h17, h20]) W) ?_
            refine any_take 16 142 (.slice (some ⟨ga, 0, none⟩) k cv) (oi := ⟨some 142, _, _, _, _, some (10, true)⟩) rfl rfl (by kernel_rfl) (by kernel_rfl) (by kernel_rfl) (fun _ _ _ h => h) (wanted_by (oj := ⟨some 136, _, _, _, _, _⟩) (j := 10) (d := 136) (want := true) rfl rfl rfl (by simp [ev_eq, ev_ne, size_put, hsz, h1, h11, h16, h17, h20])) (fun W => x_front (.tmp 140) (.tmp 141) (a := some ⟨ga, 0, none⟩) (m := mv) (c := cv) (n := k) rfl (by simp [ev_eq, ev_ne, size_put, hsz, h1, h11, h16, h17, h20]) (by simp [ev_eq, ev_ne, size_put, hsz, h1, h11, h16, h17, h20]) (by omega) W) ?_
            refine any_one 17 143 (o := ⟨some 143, _, _, _, _, some (10, true)⟩) (by kernel_rfl) rfl rfl (wanted_by (oj := ⟨some 136, _, _, _, _, _⟩) (j := 10) (d := 136) (want := true) rfl rfl rfl (by simp [ev_eq, ev_ne, size_put, hsz, h1, h11, h16, h17, h20])) (fun K hK => ?_)
            refine wp_eq (.tmp 139) (.tmp 142) rfl (.slice aA k cA) (.slice (some ⟨ga, 0, none⟩) k cv) (by simp [ev_eq, ev_ne, size_put, hsz, h1, h11, h16, h17, h20]) (by simp [ev_eq, ev_ne, size_put, hsz, h1, h11, h16, h17, h20]) (eq_any ((RAll.out.tch0 (Tch.drew _)).take k (by rw [HRA.out]; omega)) ((RW.out.tch0 (Tch.drew _)).take k (by rw [HRL.out]; omega)) HEQ.out (by rw [List.length_take]; omega)) ?_
            rintro e wE2 ⟨rfl, tE2⟩
            refine ⟨_, rfl, hK _ _ ?_⟩
            clear hK K
            have TE2 := Lib.hid ((Tch.drew w10).trans0 tE2); clear tE2
            refine any_take 18 144 (.bool true) (oi := ⟨some 144, _, _, _, _, none⟩) rfl rfl (by kernel_rfl) (by kernel_rfl) (by kernel_rfl) (fun _ _ _ h => h) (wanted_no rfl) (fun W => x_pick (.tmp 136) (.tmp 143) (.const (.bool false)) (b := true) rfl (by simp [ev_eq, ev_ne, size_put, hsz, h1, h11, h16, h17, h20]) (by simp [ev_eq, ev_ne, size_put, hsz, h1, h11, h16, h17, h20]) W) ?_
            refine any_take 19 6 (.bool true) (oi := ⟨some 6, _, _, _, _, none⟩) rfl rfl (by kernel_rfl) (by kernel_rfl) (by kernel_rfl) (fun _ _ _ h => h) (wanted_no rfl) (fun W => x_assign (.tmp 144) rfl (by simp [ev_eq, ev_ne, size_put, hsz, h1, h11, h16, h17, h20]) W) ?_
            refine wpAny_done (by kernel_rfl) ?_ _
            simp only [Exit.then]
            refine hM _ _ (Met.intro (hJ _ _ ⟨.bool true, .int .i64 (pa : Nat), .int .i64 (fr0 : Nat), .int .i64 ((pa : Int) - (fr0 : Int)), .bool true, .bool true, .slice aA mA cA, .int .i64 (mA : Nat), .int .i64 (k : Nat), .bool true, .bool true, .bool true, .slice aA mA cA, .int .i64 (k : Nat), .slice aA k cA, .slice (some ⟨ga, 0, none⟩) mv cv, .int .i64 (k : Nat), .slice (some ⟨ga, 0, none⟩) k cv, .bool true, .bool true, ⟨rfl, TE2⟩, ?_⟩))
            have hfr2 := hfr.out
            subst hfr2
            show _ = _
            kernel_rfl
          case rest =>
            obtain ⟨rfl, TE2⟩ := hcut
            have TX := Lib.hid ((T1.out.trans0 HBE.out.tch).trans0 (T10.out.trans0 TE2.out))
            clear RW RAll L8 HBE SE
            go_wp2_with fail
            go_ret
            exact ⟨rfl, TX.out.below0⟩
        · have T8 : Hid (Tch No wE w8) := k8.noK (w := wE) T7.out
          have hq3 : (openM 1048576 (segM b' 0 false) 0).err = 3 := by
            rw [O1.out] at hq0 ⊢
            exact S2.out.resolve_left hq0
          have TX := Lib.hid ((T1.out.trans0 HBE.out.tch).trans0 T8.out)
          rw [hq3]
          clear d8 k8 hq0 hop hq3 HBE SE
          go_wp2_with fail
          go_ret
          exact ⟨rfl, TX.out.below0⟩

/-! ### THE ROW's STEP: WRITTEN OUT: LEAVE IT -/
set_option maxRecDepth 100000 in
theorem lifted (os : Os) (started : os.Started) (H : Type) (enc : TypeId × Value → H) :
    ReturnsInHanded {} Try.checked os 7 .any (Rows.segSpoiltSpec.pre6 enc Try.prog Try.f7 Rows.segSpoiltRow.domain false) (Rows.segSpoiltSpec.post enc Try.prog Try.f7 false true false false) := by
  refine returnsInHanded_of_change (C := Try.checked) own started (by kernel_rfl) Try.func7
    (ChangeSpec.witness6 (enc := enc) (C := Try.checked) false ⟨#[], #[.slice none 0 0, .int .i64 0, .int .u8 0], []⟩ 8 (by kernel_rfl) (by kernel_rfl) (by kernel_rfl) (by kernel_rfl)) ?_
  intro W base args ds gs before hval0 hW hcnd _
  have hval : ∀ (j : Nat) t v, Try.f7.params[j]? = some t → args[j]? = some v → Value.okWide Try.prog W .any base t v := hval0
  have hW' := hW
  obtain ⟨p, q, hA0, hV, rfl, hfz, hnd⟩ := hW
  have hA : DataW.TrodAll enc Try.prog W 0 (fun _ => true) true Try.f7.params.toList args.toList ds p := hA0
  rw [Try.params7] at hA hval
  obtain ⟨v0, vs0, d0, ds0, p0, q0, hargs, rfl, rfl, h0, r0⟩ := trodAll_cons hA
  obtain ⟨v1, vs1, d1, ds1, p1, q1, rfl, rfl, rfl, h1, r1⟩ := trodAll_cons r0
  obtain ⟨v2, vs2, d2, ds2, p2, q2, rfl, rfl, rfl, h2, r2⟩ := trodAll_cons r1
  obtain ⟨rfl, rfl, rfl⟩ := trodAll_nil r2
  obtain rfl : args = #[v0, v1, v2] := by cases args; simp_all
  obtain ⟨rfl, rfl⟩ := trodVars_none hV
  obtain ⟨a0, len0, cap0, rfl⟩ := okWide_slice Try.underlying46 (hval 0 46 v0 rfl rfl)
  have k0 := h0
  have lt0 : ∀ x ∈ p0, x.block < W.heap.size := by obtain ⟨m, hm⟩ := k0; exact DataW.trod_lt m _ _ _ hm
  have w0 : IsBss W a0 len0 cap0 := by
    obtain ⟨fuel, hf⟩ := h0
    obtain ⟨_, _, _, hcs, hw⟩ := open_bss hf
    simp [Value.cells] at hcs
    obtain ⟨rfl, rfl, rfl⟩ := hcs
    exact hw
  obtain ⟨a1, rfl, rfl, rfl, w1⟩ := open_int Try.underlying3 (hval 1 3 v1 rfl rfl) h1
  obtain ⟨a2, rfl, rfl, rfl, w2⟩ := open_int Try.underlying5 (hval 2 5 v2 rfl rfl) h2
  clear hA0 hval0
  refine (walk a0 len0 cap0 a1 a2 W w0 w1 w2).mono fun e W' ⟨he, bel⟩ => ?_
  subst he
  exact ⟨_, rfl, _, _, _, [], _, [], hW', trodAll_mk1 (shut_bool Try.underlying4 _), (trodAll_cons_mk (Below.trod laidOut (by kernel_rfl) (of_decide_eq_true (by kernel_rfl)) k0 bel lt0) (trodAll_cons_mk (shut_int Try.underlying3 w1) (trodAll_cons_mk (shut_int Try.underlying5 w2) trodAll_mk0))), rfl, bel.frame _, fun h => by cases h⟩

theorem over : Rows.segSpoiltRow.holds Try.pinned (OpenSpec.ofChange Rows.segSpoiltSpec) :=
  OpenClaim.holds_of_wide 7 Try.f7 rfl rfl rfl rfl rfl rfl rfl ⟨rfl, rfl, rfl, rfl, rfl⟩ rfl rfl rfl rfl rfl (by kernel_rfl) Try.func7 (by kernel_rfl)
    (of_decide_eq_true (by kernel_rfl)) (by unfold Func.isWrapper; first | (rw [if_pos (by decide +kernel)]; kernel_rfl) | (rw [if_neg (by decide +kernel)]; exact ⟨rfl, rfl⟩))
    (fun os started H enc _ => lifted os started H enc)

/--  THE STATEMENT  -/
theorem proved : Rows.SegSpoiltSaid := over
#print axioms proved
end Go.Proofs.Ytcjlgdldhcbcjaa.segSpoilt
