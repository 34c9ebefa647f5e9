/- SegTorn: the law SegTorn returns true for every input, and each argument reads behind the call as it read before. No condition. The frame is the kit's proof-skeleton. -/
import Derived.Test.YtcjlgdldhcbcjaaRows
import Derived.WalkKit
import Derived.ProofKit
import Derived.OpenShut
import Derived.ShutString
import Derived.ChangeOld
import Derived.Below
import Derived.Test.YtcjlgdldhcbcjaaBeg3
import Derived.Test.YtcjlgdldhcbcjaaTorn3
import Derived.Test.YtcjlgdldhcbcjaaMake
import Derived.Deep.DeepCutAuto
import Derived.Deep.CutBlock
namespace Go.Proofs.Ytcjlgdldhcbcjaa.segTorn
open Go.ChangeShapes Go.WideShapes Go.ChangeAt Go.RowKit Go.Maps
open Go.ChangeMaps (open_string shut_string)
set_option linter.unusedVariables false
set_option linter.unusedSimpArgs false

theorem own : ownKnob Try.prog.godebug = none := by kernel_rfl
theorem laidOut : laidOutB Try.prog = true := by kernel_rfl

theorem wf_bounds {n : Int} (h : (Lit.int .i64 n).wf = true) : -9223372036854775808 ≤ n ∧ n ≤ 9223372036854775807 := by
  simp only [Lit.wf, IntKind.min, IntKind.max, IntKind.signed, IntKind.bits] at h
  simp at h; omega
theorem bytes_le30 (zb : List Int) (lb : Nat) : (bytesOf (zb.take (min lb 30))).length ≤ 30 := by
  simp [bytesOf]; omega
set_option maxRecDepth 100000 in
set_option maxHeartbeats 20000000 in
theorem walk (a0 : Option Addr) (len0 cap0 : Nat) (a1 : Int) (a2 : Bool) (w : World) (w0 : IsBss w a0 len0 cap0) (w1 : (Lit.int .i64 a1).wf = true) :
    Calls Try.prog 8 #[.slice a0 len0 cap0, .int .i64 a1, .bool a2] w fun e w' => e = .returned (.bool true) ∧ Below w.heap.size w w' := by
  have hbd := wf_bounds w1
  have W0 := Lib.hid w0
  have kc := fun (w : World) (C : Array Value) (n c : Nat) => Lib.run_convert_bytes_const (P := Try.prog) w 22 5 C n c Try.underlying22 Try.underlying5
  clear w0 w1
  go_enter Try.func8, Try.ntmps8
  go_wp2_with fail
  refine (begun4_any w).mono ?_
  rintro e w1 ⟨rfl, t1⟩
  have T1 := Lib.hid t1; clear t1
  go_wp2_with fail
  refine (dk_new (K := K0 w1) 1048576 w1 (fun k hk => hk)).mono ?_
  rintro e w2 ⟨db, mb, rfl, d2, t2⟩
  rw [show roomOf 1048576 = 1048576 by rfl] at d2
  have D2 := Lib.hid d2; have T2 := Lib.hid t2; clear d2 t2
  go_wp2_with fail
  refine (open_ok D2.out 0 (by omega) (by simp) e0 rfl).mono ?_
  rintro e w3 ⟨lb, rfl, l3, k3⟩
  by_cases hneg : a1 < 0
  · have T3 : Hid (Tch No w1 w3) := k3.noK (w := w1) T2.out
    clear l3 k3 hbd
    go_wp2_with fail
    go_ret
    exact ⟨rfl, (T1.out.trans0 T3.out).below0⟩
  obtain ⟨ct, rfl⟩ : ∃ ct : Nat, a1 = (ct : Int) := ⟨a1.toNat, by omega⟩
  have hneg' : ¬ (ct : Int) < 0 := by omega
  have hct : (ct : Int) ≤ 9223372036854775807 := by omega
  have B3 : Hid (TornS w1 w3 lb db mb [] (.slice none 0 0) [] (.slice none 0 0) [] 0) := by
    have hR : ∀ k, ¬ (RowsF (.slice none 0 0) [] k ∨ (Value.slice none 0 0).ownBlock = some k) := by
      rintro k ((hk | ⟨x, hx, _⟩) | hk)
      · simp [Value.ownBlock] at hk
      · simp at hx
      · simp [Value.ownBlock] at hk
    refine ⟨LSt.less (K := K0 w1) l3 (fun k hk => ?_), IsRows.nil _, rfl, World.ownsRow_nil _ _ _ _, fun k hk => absurd hk (hR k), fun k hk => absurd (.inr hk) (hR k), k3.noK (w := w1) T2.out, by simp, by simp⟩
    rcases hk with (hk | hk) | hk
    · exact hk
    · exact absurd (.inl hk) (hR k)
    · exact absurd (.inr hk) (hR k)
  clear l3 k3 D2 T2 hneg hbd
  go_upto_block 0 with fail
  go_cut [11, 12] from 13 to 73 (fun s11 s12 wx => ∃ (A : List (List UInt8)) (v ve : Value) (R : List BE), s11 = v ∧ s12 = ve ∧ Hid (TornS w1 wx lb db mb A v R ve (endsM A) 8))
  case first =>
    go_wp2_with fail
    go_loopw [11, 12, 13] (fun s t i wr => ∃ (j : Nat) (A : List (List UInt8)) (v ve : Value) (R : List BE), j ≤ len0 ∧ j ≤ 8 ∧ i = .int .i64 j ∧ s = v ∧ t = ve ∧ Hid (TornS w1 wr lb db mb A v R ve (endsM A) j)) (fun _ _ i _ => 8 - (intOf i).toNat)
    case atStart => exact ⟨0, [], _, _, [], by omega, by omega, rfl, rfl, rfl, B3⟩
    case round =>
      clear B3
      obtain ⟨j, A, v, ve, R, hj1, hj2, rfl, rfl, rfl, HB⟩ := hrel
      obtain ⟨av, mv, cv, rfl, hmv⟩ := own_shape' HB.out.rows.row
      obtain ⟨ae, me, ce, rfl, hme⟩ := own_shape' HB.out.ends
      by_cases gg : j < len0 ∧ j < 8
      · obtain ⟨g1, g2⟩ := gg
        obtain ⟨ob, oo, x, l, c, zs, ha, hcx, hrow⟩ := W0.out.2.2 j g1
        subst ha
        have hc' := (T1.out.trans0 HB.out.tch).cell hcx (fun h => h)
        have HR := Lib.hid (hrow.tch0 (T1.out.trans0 HB.out.tch))
        obtain ⟨bb, hbb⟩ : ∃ bb, bytesOf (zs.take (min l 30)) = bb := ⟨_, rfl⟩
        have hb30 : bb.length ≤ 30 := by rw [← hbb]; exact bytes_le30 zs l
        have HBB := Lib.hid hbb
        clear hcx hrow hbb
        go_wp2_with fail
        refine (short_own x l c zs 30 wr HR.out (by omega)).mono ?_
        rintro e w5 ⟨vb, rfl, sb, fb, tb, _⟩
        rw [HBB.out] at sb
        obtain ⟨xa, xm, xc, rfl, hxm⟩ := sb.shape'
        have SB := Lib.hid sb; have FB := Lib.hid fb; have TB := Lib.hid tb
        have L5 : Hid (LSt w5 lb db mb 1048576 (oneM A) 0 A (fun k => ((K0 w1 k ∨ RowsF (.slice av mv cv) R k) ∨ (Value.slice ae me ce).ownBlock = some k) ∨ (Value.slice xa xm xc).ownBlock = some k)) := HB.out.log.more tb (fun k hk => by
          rcases hk with hk | hk
          · exact .inl hk
          · exact .inr ⟨fb k hk, sb.blt k hk⟩)
        have hfl := framed_le A (fun b hb => (HB.out.fit b hb).2)
        have hadd := Lib.hid (lst_add L5.out (by omega) (.slice xa xm xc) bb sb (fun k hk => .inr hk) (Nat.le_trans (oneM_len A) (by omega)) (by have := HB.out.cnt; omega))
        have HXL : Hid (xm = bb.length) := hxm.out
        clear sb fb tb hxm HBB hmv hme
        by_cases hfit : fits bb
        · have hx1 : 0 < xm := by have := HXL.out; unfold fits at hfit; omega
          have hao := addM_one 1048576 A bb hfit (by have := HB.out.cnt; omega)
          rw [if_neg (by have := HB.out.cnt; omega)] at hao
          rw [hao] at hadd
          have HFIT := Lib.hid hfit
          have hlen9 : Hid ((framed (A ++ [bb])).length ≤ 1000 ∧ (endsM A).length + 1 ≤ 2000000000) := by
            rw [Hid, framed_snoc_len, endsM_length]; have := HB.out.cnt; omega
          clear hao hfit
          go_wp2_with fail
          refine hadd.out.mono ?_
          rintro e w6 ⟨rfl, l6, k6⟩
          have L6 := Lib.hid l6
          have K6 := Lib.hid k6
          have R6 : Hid (w6.ownsRow 0 22 1 (.slice av mv cv) R.length (R.map (·.v))) := k6.own (own_tch HB.out.rows.row TB.out (fun _ _ h => h)) (fun k hk => .inl (.inl (.inr (.inl hk))))
          have hRl : Hid (R.length + 1 ≤ 2000000000) := by rw [Hid]; have h1 := congrArg List.length HB.out.is; rw [List.length_map] at h1; have := HB.out.cnt; omega
          clear hadd l6 k6 hfl
          go_wp2_with (at_builtin; go_must (refine wpList_appR rfl _ _ rfl (.slice av mv cv) R.length (R.map (·.v)) rfl (own_tch R6.out (Tch.alloc _ _) (fun _ _ h => h)) ⟨w6.heap.size, 0, none⟩ 1 (.slice xa xm xc) rfl (by simp) rfl hRl.out ?_); intro aN nN cN w7 hA; have H7 := Lib.hid (HB.out.add (x := ⟨bb, .slice xa xm xc⟩) HFIT.out hb30 TB.out SB.out FB.out L6.out K6.out (Tch.alloc w6 _) hA); clear hA)
          refine (dk_read H7.out.log.dk ⟨#[108, 111, 103, 48, 48, 48]⟩ (by decide)).mono ?_
          rintro e w8 ⟨x8, he, b8, _, t8, _⟩
          rw [show (ByteArray.mk #[108, 111, 103, 48, 48, 48]).data.toList = segNm 0 from rfl, get_one, if_neg (by simp)] at he b8
          simp only [Option.isSome_some] at he
          subst he
          obtain ⟨xa8, xm8, xc8, rfl, hx8⟩ := b8.shape'
          have HX8 : Hid (xm8 = (framed (A ++ [bb])).length) := hx8.out
          have hx89 : xm8 ≤ 1000 := by rw [HX8.out]; exact hlen9.out.1
          have H8 := Lib.hid (H7.out.keep t8 (Nat.le_refl _))
          clear b8 t8 hx8 H7 L6 K6 R6 L5 HB
          go_wp2_with (at_builtin; go_must (refine wpList_appI rfl _ _ rfl (.slice ae me ce) (endsM A) rfl (own_tch H8.out.ends (Tch.alloc _ _) (fun _ _ h => h)) ⟨w8.heap.size, 0, none⟩ 1 xm8 rfl (by simp) hlen9.out.2 ?_); intro aM nM cM w9 hA hnM; subst hnM; have H9 := Lib.hid (H8.out.end_ (Tch.alloc w8 _) hA); clear hA)
          exact ⟨⟨j + 1, A ++ [bb], _, _, _, by omega, by omega, by go_num, rfl, rfl, by rw [endsM_snoc, ← HX8.out]; exact H9⟩, by simp [intOf]; omega⟩
        · have hx0 : xm = 0 := by have := HXL.out; unfold fits at hfit; omega
          have hao := addM_no 1048576 (oneM A) 0 A bb hfit
          rw [hao] at hadd
          subst hx0
          clear hao hfit hfl
          go_wp2_with fail
          refine hadd.out.mono ?_
          rintro e w6 ⟨rfl, l6, k6⟩
          have H7 := Lib.hid (HB.out.skip TB.out l6 k6)
          clear hadd l6 k6 HB L5
          go_wp2_with fail
          exact ⟨⟨j + 1, A, _, _, _, by omega, by omega, by go_num, rfl, rfl, H7⟩, by simp [intOf]; omega⟩
      · have H9 := Lib.hid (HB.out.keep (Tch.refl _ _) hj2)
        by_cases g1 : j < len0
        · have g2 : ¬ j < 8 := fun h => gg ⟨g1, h⟩
          clear gg
          go_wp2_with fail
          go_meet
          exact ⟨A, _, _, R, rfl, rfl, H9⟩
        · clear gg
          go_wp2_with fail
          go_meet
          exact ⟨A, _, _, R, rfl, rfl, H9⟩
  case rest =>
    clear B3
    obtain ⟨A, v, ve, R, rfl, rfl, HB⟩ := hcut
    obtain ⟨av, mv, cv, rfl, hmv⟩ := own_shape' HB.out.rows.row
    obtain ⟨ae, me, ce, rfl, hme⟩ := own_shape' HB.out.ends
    have hfl := framed_le A (fun b hb => (HB.out.fit b hb).2)
    have hAc := HB.out.cnt
    obtain ⟨nA, hnA⟩ : ∃ n, A.length = n := ⟨_, rfl⟩
    have hmv2 : mv = nA := by have h1 := congrArg List.length HB.out.is; rw [List.length_map] at h1; rw [hmv.out, h1, hnA]
    have hme2 : me = nA := by rw [hme.out, endsM_length, hnA]
    subst hmv2
    have hme3 := hme2
    subst hme3
    obtain ⟨L, hL⟩ : ∃ L, (framed A).length = L := ⟨_, rfl⟩
    have hL9 : L ≤ 288 := by omega
    have HL := Lib.hid hL; have HNA := Lib.hid hnA
    have hn8 : me ≤ 8 := by omega
    clear hmv hme hfl hAc hnA hme2
    go_wp2_with fail
    refine (dk_read HB.out.log.dk ⟨#[108, 111, 103, 48, 48, 48]⟩ (by decide)).mono ?_
    rintro e w5 ⟨x5, he, b5, _, t5, _⟩
    rw [show (ByteArray.mk #[108, 111, 103, 48, 48, 48]).data.toList = segNm 0 from rfl, get_one] at he b5
    have hx5 : SlB w5 x5 (framed A) := by
      by_cases hA : A = []
      · subst hA; exact b5
      · rw [if_neg hA] at b5; exact b5
    obtain ⟨bq, hbq⟩ : ∃ q, (if A = [] then none else some (⟨segNm 0, framed A, 0, false⟩ : FE)).isSome = q := ⟨_, rfl⟩
    rw [hbq] at he
    subst he
    obtain ⟨xa, xc, hxe, hxc, _⟩ := hx5.shape
    rw [hL] at hxe hxc
    subst hxe
    have hL0 : ¬ (L : Int) + 1 = 0 := by omega
    obtain ⟨k, hk⟩ : ∃ k, ct % (L + 1) = k := ⟨_, rfl⟩
    have hkL : k < L + 1 := by rw [← hk]; exact Nat.mod_lt _ (by omega)
    have hrem : (ct : Int).tmod ((L : Int) + 1) = (k : Int) := by rw [show (L : Int) + 1 = ((L + 1 : Nat) : Int) from rfl, ← Int.ofNat_tmod, hk]
    have hrem2 : (ct : Int) % ((L : Int) + 1) = (k : Int) := by rw [← hk, Int.natCast_emod]; rfl
    have hkc : (k : Int) ≤ (xc : Int) := by omega
    have HX5 := Lib.hid hx5
    have HB5 := Lib.hid (HB.out.keep t5 (Nat.le_refl _))
    clear b5 t5 hx5 hk hL hbq HB
    go_wp2_with fail
    refine (dk_new (K := K0 w5) 1048576 w5 (fun k hk => hk)).mono ?_
    rintro e w6 ⟨dg, mg, rfl, d6, t6⟩
    rw [show roomOf 1048576 = 1048576 by rfl] at d6
    obtain ⟨p, hp⟩ : ∃ p, (framed A).take k = p := ⟨_, rfl⟩
    have hpl : p.length ≤ 288 := by rw [← hp, List.length_take]; omega
    have HPL := Lib.hid hpl
    have HP := Lib.hid hp
    have hap := app_left p (by omega)
    have hp1 := dk_append d6 ⟨#[108, 111, 103, 48, 48, 48]⟩ (.slice xa k xc) p (by rw [← hp]; exact (HX5.out.tch0 t6).take k (by rw [HL.out]; omega)) (fun q hq => HX5.out.blt q (by cases xa with
      | none => simp [Value.ownBlock] at hq
      | some ad => simpa [Value.ownBlock] using hq)) (by decide) (by simp) (by omega)
    rw [show (ByteArray.mk #[108, 111, 103, 48, 48, 48]).data.toList = segNm 0 from rfl, hap.1] at hp1
    have HP1 := Lib.hid hp1
    have HAP2 := Lib.hid hap.2
    have T6 := Lib.hid t6
    clear d6 t6 hap hp1 hp hpl
    go_wp2_with fail
    refine HP1.out.mono ?_
    rintro e w7 ⟨rfl, d7, k7⟩
    have D7 := Lib.hid d7
    have K7 := Lib.hid (KT.trans (KT.of0 T6.out) k7)
    clear d7 k7 HP1 T6
    go_upto_if 90 with fail
    go_cut [20] from 91 to 94 (fun s20 wx => s20 = .pointer (some ⟨dg, 0, none⟩) ∧ ∃ M0, Hid (DK wx dg mg 1048576 M0 (K0 w5)) ∧ Hid (KT (K0 w5) w5 wx) ∧ Hid (mDel M0 newK = segM p 0 false) ∧ Hid (M0.length ≤ 990000))
    case first =>
      cases a2 with
      | false =>
        go_wp2_with fail
        go_meet
        exact ⟨rfl, _, D7, K7, segM_del _ _ _, by simp [Hid, segM]⟩
      | true =>
        have hp3 := dk_appendLit D7.out ⟨#[110, 101, 119]⟩ [104, 97, 108, 102] #[.int .u8 104, .int .u8 97, .int .u8 108, .int .u8 102] rfl (by simp) (by decide) (by simp [segM])
        rw [show (ByteArray.mk #[110, 101, 119]).data.toList = newK from rfl, HAP2.out] at hp3
        have HP3 := Lib.hid hp3
        clear hp3
        go_wp2_with fail
        refine HP3.out.mono ?_
        rintro e w8 ⟨rfl, d8, k8⟩
        have D8 := Lib.hid d8
        have K8 := Lib.hid (KT.trans K7.out k8)
        clear d8 k8 HP3
        go_wp2_with fail
        go_meet
        exact ⟨rfl, _, D8, K8, del_left _, by simp [Hid, segM]⟩
    case rest =>
      obtain ⟨rfl, M0, D8, K8, HD8, HM8⟩ := hcut
      clear D7 K7 HAP2
      obtain ⟨w8, hw8⟩ : ∃ x, x = wc := ⟨_, rfl⟩
      subst hw8
      have E8 : Hid (w8.ownsRow 0 3 1 (.slice ae me ce) me (ints (endsM A))) := by
        have h := K8.out.own HB5.out.ends (fun k hk => (HB5.out.ends.lt k hk).2)
        rw [endsM_length, HNA.out] at h
        exact h
      go_upto_block 2 with fail
      go_cut [21] from 95 to 108 (fun s21 wx => wx = w8 ∧ ∃ n : Nat, n ≤ me ∧ s21 = .int .i64 n ∧ Hid ((framed (A.take n)).length ≤ k) ∧ Hid (n < me → k < (framed (A.take (n + 1))).length))
      case first =>
        go_wp2_with fail
        go_loop [21] (fun i => ∃ n : Nat, n ≤ me ∧ i = .int .i64 n ∧ Hid ((framed (A.take n)).length ≤ k)) (fun i => me - (intOf i).toNat)
        case atStart => exact ⟨0, by omega, rfl, by simp [Hid, framed]⟩
        case round =>
          obtain ⟨n, hn, rfl, hF⟩ := hrel
          by_cases hlt : n < me
          · obtain ⟨ge, hge⟩ : ∃ g, ae = some ⟨g, 0, none⟩ := by
              rcases E8.out.2 with ⟨_, h0⟩ | ⟨g, c', cur, e, _⟩
              · omega
              · injection e with e1 _ _; exact ⟨g, e1⟩
            subst hge
            have hcell := E8.out.cellAt n (by omega)
            obtain ⟨y, hy⟩ : ∃ y, (framed (A.take (n + 1))).length = y := ⟨_, rfl⟩
            rw [ints, List.getElem?_map, endsM_get A n (by rw [HNA.out]; exact hlt), hy] at hcell
            have hcell2 : w8.cell? ⟨ge, n, none⟩ = some (.int .i64 (y : Nat)) := hcell
            have HY := Lib.hid hy
            clear hcell hy
            by_cases hyk : y ≤ k
            · go_wp2_with fail
              exact ⟨⟨n + 1, by omega, by go_num, by rw [HY.out]; exact hyk⟩, by simp [intOf]; omega⟩
            · go_wp2_with fail
              go_meet
              exact ⟨rfl, n, hn, rfl, hF, fun _ => by rw [HY.out]; omega⟩
          · go_wp2_with fail
            go_meet
            exact ⟨rfl, n, hn, rfl, hF, fun h => absurd h hlt⟩
      case rest =>
        obtain ⟨rfl, n, hn, rfl, hF, hE⟩ := hcut
        obtain ⟨t, f1, f2, f3⟩ := front_cut A (fun b hb => (HB5.out.fit b hb).1) k n (by rw [HNA.out]; exact hn) hF.out (by
          rcases Nat.lt_or_ge n me with q | q
          · exact .inr ⟨by rw [HNA.out]; exact q, hE.out q⟩
          · left
            have : n = me := by omega
            refine ⟨by rw [HNA.out]; exact this, ?_⟩
            have h1 := hF.out
            rw [this, ← HNA.out, List.take_length] at h1
            have := HL.out; omega)
        rw [HP.out] at f1 f2 f3
        obtain ⟨su, nm, hop⟩ := openM_one M0 p (framed (A.take n)) (A.take n) t HD8.out (by have := HPL.out; omega) f1 f2 f3
        have hopen := Lib.hid (open_ok D8.out 0 (by omega) HM8.out hop rfl)
        clear f1 f2 f3 hop E8
        go_wp2_with fail
        refine hopen.out.mono ?_
        rintro e w9 ⟨lg, rfl, l9, k9⟩
        have L9 : Hid (LSt w9 lg dg mg 1048576 (segM (framed (A.take n)) su nm) 0 (A.take n) (K0 w5)) := l9
        have K9 := Lib.hid (KT.trans K8.out k9)
        clear l9 k9 hopen D8
        have hA8 : (A.take n).length ≤ 8 := by rw [List.length_take, HNA.out]; omega
        have hB2 : (framed (A.take n)).length < 2000 := by have h1 := hF.out; omega
        have hadd0 := Lib.hid (add_segM (A.take n) su nm [122] ⟨by simp, by simp⟩ hB2)
        have RW : Hid (IsRows w9 (.slice av me cv) R) := HB5.out.rows.tch K9.out (fun q hq hn => hn (RowsF.lt HB5.out.rows q hq))
        have HRL : Hid (R.length = me) := by have h1 := congrArg List.length HB5.out.is; rw [List.length_map, HNA.out] at h1; exact h1
        have HRT : Hid ((R.take n).map (·.b) = A.take n) := by rw [Hid, List.map_take, HB5.out.is]
        have hAA := Lib.hid hA8
        clear hA8 hB2
        have hnc : (n : Int) ≤ (cv : Int) := by
          obtain ⟨a', c', e, h1, _⟩ := own_shape RW.out.row
          have := HRL.out
          injection e with e1 e2 e3; omega
        go_upto_region 28 with fail
        go_cut [136] from 114 to 135 (fun s136 wx => s136 = .bool false ∧ Hid (LSt wx lg dg mg 1048576 (segM (framed (A.take n ++ [[122]])) (framed (A.take n ++ [[122]])).length true) 0 (A.take n ++ [[122]]) (K0 w5)) ∧ Hid (KT (K0 w5) w9 wx))
        case first =>
          rename_i hJ hM
          refine frame_gen 158 rfl (fun fr hfr hsz => ?_)
          have h10 : fr.eval (.tmp 10) = .int .i64 0 := by rw [hfr.out]; rfl
          have h11 : fr.eval (.tmp 11) = .slice av me cv := by rw [hfr.out]; rfl
          have h21 : fr.eval (.tmp 21) = .int .i64 (n : Nat) := by rw [hfr.out]; rfl
          have h22 : fr.eval (.tmp 22) = .pointer (some ⟨lg, 0, none⟩) := by rw [hfr.out]; rfl
          refine wp_region_any (by kernel_rfl) ?_
          change wpAny _ _ _ _ 23 _ _ (World.drew _)
          refine any_take 0 114 (.int .i64 0) (oi := ⟨some 114, _, _, _, _, none⟩) rfl rfl (by kernel_rfl) (by kernel_rfl) (by kernel_rfl) (fun _ _ _ h => h) (wanted_no rfl) (fun W => x_move (.tmp 10) rfl (by simp [ev_eq, ev_ne, size_put, hsz, h10, h11, h21, h22]) W) ?_
          refine any_take 1 115 (.bool false) (oi := ⟨some 115, _, _, _, _, none⟩) rfl rfl (by kernel_rfl) (by kernel_rfl) (by kernel_rfl) (fun _ _ _ h => h) (wanted_no rfl) (fun W => x_neqE (.tmp 114) (.const (.int .i64 0)) (a := 0) (b := 0) rfl (by simp [ev_eq, ev_ne, size_put, hsz, h10, h11, h21, h22]) rfl rfl W) ?_
          refine any_take 2 116 (.bool false) (oi := ⟨some 116, _, _, _, _, none⟩) rfl rfl (by kernel_rfl) (by kernel_rfl) (by kernel_rfl) (fun _ _ _ h => h) (wanted_no rfl) (fun W => x_move (.tmp 115) rfl (by simp [ev_eq, ev_ne, size_put, hsz, h10, h11, h21, h22]) W) ?_
          refine any_take 3 117 (.pointer (some ⟨lg, 0, none⟩)) (oi := ⟨some 117, _, _, _, _, some (2, false)⟩) rfl rfl (by kernel_rfl) (by kernel_rfl) (by kernel_rfl) (fun _ _ _ h => h) (wanted_by (oj := ⟨some 116, _, _, _, _, _⟩) (j := 2) (d := 116) (want := false) rfl rfl rfl (by simp [ev_eq, ev_ne, size_put, hsz, h10, h11, h21, h22])) (fun W => x_move (.tmp 22) rfl (by simp [ev_eq, ev_ne, size_put, hsz, h10, h11, h21, h22]) W) ?_
          refine any_take 5 119 (.slice av me cv) (oi := ⟨some 119, _, _, _, _, some (2, false)⟩) rfl rfl (by kernel_rfl) (by kernel_rfl) (by kernel_rfl) (fun _ _ _ h => h) (wanted_by (oj := ⟨some 116, _, _, _, _, _⟩) (j := 2) (d := 116) (want := false) rfl rfl rfl (by simp [ev_eq, ev_ne, size_put, hsz, h10, h11, h21, h22])) (fun W => x_move (.tmp 11) rfl (by simp [ev_eq, ev_ne, size_put, hsz, h10, h11, h21, h22]) W) ?_
          refine any_take 6 120 (.int .i64 (n : Nat)) (oi := ⟨some 120, _, _, _, _, some (2, false)⟩) rfl rfl (by kernel_rfl) (by kernel_rfl) (by kernel_rfl) (fun _ _ _ h => h) (wanted_by (oj := ⟨some 116, _, _, _, _, _⟩) (j := 2) (d := 116) (want := false) rfl rfl rfl (by simp [ev_eq, ev_ne, size_put, hsz, h10, h11, h21, h22])) (fun W => x_move (.tmp 21) rfl (by simp [ev_eq, ev_ne, size_put, hsz, h10, h11, h21, h22]) W) ?_
          refine any_take 7 121 (.slice av n cv) (oi := ⟨some 121, _, _, _, _, some (2, false)⟩) rfl rfl (by kernel_rfl) (by kernel_rfl) (by kernel_rfl) (fun _ _ _ h => h) (wanted_by (oj := ⟨some 116, _, _, _, _, _⟩) (j := 2) (d := 116) (want := false) rfl rfl rfl (by simp [ev_eq, ev_ne, size_put, hsz, h10, h11, h21, h22])) (fun W => x_front (.tmp 119) (.tmp 120) (a := av) (m := me) (c := cv) (n := n) rfl (by simp [ev_eq, ev_ne, size_put, hsz, h10, h11, h21, h22]) (by simp [ev_eq, ev_ne, size_put, hsz, h10, h11, h21, h22]) (by omega) W) ?_
          refine any_one 4 118 (o := ⟨some 118, _, _, _, _, some (2, false)⟩) (by kernel_rfl) rfl rfl (wanted_by (oj := ⟨some 116, _, _, _, _, _⟩) (j := 2) (d := 116) (want := false) rfl rfl rfl (by simp [ev_eq, ev_ne, size_put, hsz, h10, h11, h21, h22])) (fun K hK => ?_)
          refine wp_all (.tmp 117) rfl (.pointer (some ⟨lg, 0, none⟩)) (by simp [ev_eq, ev_ne, size_put, hsz, h10, h11, h21, h22]) (lst_all (L9.out.keep (Tch.drew _)) (by have := hAA.out; omega)) ?_
          rintro e wA ⟨vA, RA, rfl, rA, iA, _, tA⟩
          refine ⟨_, rfl, hK _ _ ?_⟩
          clear hK K
          have RAll := Lib.hid rA; have IAll := Lib.hid iA; have TA := Lib.hid ((Tch.drew w9).trans0 tA); clear rA iA tA
          refine any_one 8 122 (o := ⟨some 122, _, _, _, _, some (2, false)⟩) (by kernel_rfl) rfl rfl (wanted_by (oj := ⟨some 116, _, _, _, _, _⟩) (j := 2) (d := 116) (want := false) rfl rfl rfl (by simp [ev_eq, ev_ne, size_put, hsz, h10, h11, h21, h22])) (fun K hK => ?_)
          refine wp_eq (.tmp 118) (.tmp 121) rfl vA (.slice av n cv) (by simp [ev_eq, ev_ne, size_put, hsz, h10, h11, h21, h22]) (by simp [ev_eq, ev_ne, size_put, hsz, h10, h11, h21, h22]) (eq_any RAll.out ((RW.out.tch0 TA.out).take n (by rw [HRL.out]; exact hn)) (IAll.out.trans HRT.out.symm) (by have h1 := congrArg List.length IAll.out; rw [List.length_map] at h1; have := hAA.out; omega)) ?_
          rintro e wE ⟨rfl, tE⟩
          refine ⟨_, rfl, hK _ _ ?_⟩
          clear hK K
          have TE := Lib.hid (TA.out.trans0 tE); clear tE
          refine any_take 9 123 (.bool false) (oi := ⟨some 123, _, _, _, _, some (2, false)⟩) rfl rfl (by kernel_rfl) (by kernel_rfl) (by kernel_rfl) (fun _ _ _ h => h) (wanted_by (oj := ⟨some 116, _, _, _, _, _⟩) (j := 2) (d := 116) (want := false) rfl rfl rfl (by simp [ev_eq, ev_ne, size_put, hsz, h10, h11, h21, h22])) (fun W => x_not (.tmp 122) (b := true) rfl (by simp [ev_eq, ev_ne, size_put, hsz, h10, h11, h21, h22]) rfl W) ?_
          refine any_take 10 124 (.bool false) (oi := ⟨some 124, _, _, _, _, none⟩) rfl rfl (by kernel_rfl) (by kernel_rfl) (by kernel_rfl) (fun _ _ _ h => h) (wanted_no rfl) (fun W => x_pick (.tmp 116) (.const (.bool true)) (.tmp 123) (b := false) rfl (by simp [ev_eq, ev_ne, size_put, hsz, h10, h11, h21, h22]) (by simp [ev_eq, ev_ne, size_put, hsz, h10, h11, h21, h22]) W) ?_
          refine any_take 11 125 (.bool false) (oi := ⟨some 125, _, _, _, _, none⟩) rfl rfl (by kernel_rfl) (by kernel_rfl) (by kernel_rfl) (fun _ _ _ h => h) (wanted_no rfl) (fun W => x_move (.tmp 124) rfl (by simp [ev_eq, ev_ne, size_put, hsz, h10, h11, h21, h22]) W) ?_
          refine any_take 12 126 (.pointer (some ⟨lg, 0, none⟩)) (oi := ⟨some 126, _, _, _, _, some (11, false)⟩) rfl rfl (by kernel_rfl) (by kernel_rfl) (by kernel_rfl) (fun _ _ _ h => h) (wanted_by (oj := ⟨some 125, _, _, _, _, _⟩) (j := 11) (d := 125) (want := false) rfl rfl rfl (by simp [ev_eq, ev_ne, size_put, hsz, h10, h11, h21, h22])) (fun W => x_move (.tmp 22) rfl (by simp [ev_eq, ev_ne, size_put, hsz, h10, h11, h21, h22]) W) ?_
          refine any_one 13 127 (o := ⟨some 127, _, _, _, _, some (11, false)⟩) (by kernel_rfl) rfl rfl (wanted_by (oj := ⟨some 125, _, _, _, _, _⟩) (j := 11) (d := 125) (want := false) rfl rfl rfl (by simp [ev_eq, ev_ne, size_put, hsz, h10, h11, h21, h22])) (fun K hK => ?_)
          with_reducible refine wp_run (.slice (some ⟨wE.heap.size, 0, none⟩) 1 1) (wE.alloc (.cells #[.int .u8 122] 5)) ?_ (hK _ _ ?_)
          · exact x_build8 (.const (.int .u8 122)) rfl rfl wE
          clear hK K
          refine any_one 14 128 (o := ⟨some 128, _, _, _, _, some (11, false)⟩) (by kernel_rfl) rfl rfl (wanted_by (oj := ⟨some 125, _, _, _, _, _⟩) (j := 11) (d := 125) (want := false) rfl rfl rfl (by simp [ev_eq, ev_ne, size_put, hsz, h10, h11, h21, h22])) (fun K hK => ?_)
          with_reducible refine wp_run (.slice (some ⟨wE.heap.size, 0, none⟩) 1 1) (wE.alloc (.cells #[.int .u8 122] 5 (1, 2))) ?_ (hK _ _ ?_)
          · exact x_convTop (W := wE) (u := .int .u8 122) (n := 1) (c := 1) (.tmp 127) rfl (by simp [ev_eq, ev_ne, size_put, hsz, h10, h11, h21, h22])
          clear hK K
          refine any_one 15 129 (o := ⟨some 129, _, _, _, _, some (11, false)⟩) (by kernel_rfl) rfl rfl (wanted_by (oj := ⟨some 125, _, _, _, _, _⟩) (j := 11) (d := 125) (want := false) rfl rfl rfl (by simp [ev_eq, ev_ne, size_put, hsz, h10, h11, h21, h22])) (fun K hK => ?_)
          refine wp_ladd (.tmp 126) (.tmp 128) rfl (.pointer (some ⟨lg, 0, none⟩)) (.slice (some ⟨wE.heap.size, 0, none⟩) 1 1) (by simp [ev_eq, ev_ne, size_put, hsz, h10, h11, h21, h22]) (by simp [ev_eq, ev_ne, size_put, hsz, h10, h11, h21, h22]) (lst_addLit (L9.out.keep TE.out) (by omega) [122] #[.int .u8 122] rfl (by decide) (by simp [segM]) (by have := hAA.out; omega)) ?_
          rintro e wF ⟨he, lF, kF⟩
          rw [hadd0.out] at he lF
          have he' : e = .returned (.int .i64 0) := he
          clear he
          subst he'
          refine ⟨_, rfl, hK _ _ ?_⟩
          clear hK K
          have LF : Hid (LSt wF lg dg mg 1048576 (segM (framed (A.take n ++ [[122]])) su nm) 0 (A.take n ++ [[122]]) (K0 w5)) := lF
          have KF := Lib.hid (KT.trans (KT.of0 TE.out) kF); clear lF kF
          refine any_take 16 130 (.bool false) (oi := ⟨some 130, _, _, _, _, some (11, false)⟩) rfl rfl (by kernel_rfl) (by kernel_rfl) (by kernel_rfl) (fun _ _ _ h => h) (wanted_by (oj := ⟨some 125, _, _, _, _, _⟩) (j := 11) (d := 125) (want := false) rfl rfl rfl (by simp [ev_eq, ev_ne, size_put, hsz, h10, h11, h21, h22])) (fun W => x_neqE (.tmp 129) (.const (.int .i64 0)) (a := 0) (b := 0) rfl (by simp [ev_eq, ev_ne, size_put, hsz, h10, h11, h21, h22]) rfl rfl W) ?_
          refine any_take 17 131 (.bool false) (oi := ⟨some 131, _, _, _, _, none⟩) rfl rfl (by kernel_rfl) (by kernel_rfl) (by kernel_rfl) (fun _ _ _ h => h) (wanted_no rfl) (fun W => x_pick (.tmp 125) (.const (.bool true)) (.tmp 130) (b := false) rfl (by simp [ev_eq, ev_ne, size_put, hsz, h10, h11, h21, h22]) (by simp [ev_eq, ev_ne, size_put, hsz, h10, h11, h21, h22]) W) ?_
          refine any_take 18 132 (.bool false) (oi := ⟨some 132, _, _, _, _, none⟩) rfl rfl (by kernel_rfl) (by kernel_rfl) (by kernel_rfl) (fun _ _ _ h => h) (wanted_no rfl) (fun W => x_move (.tmp 131) rfl (by simp [ev_eq, ev_ne, size_put, hsz, h10, h11, h21, h22]) W) ?_
          refine any_take 19 133 (.pointer (some ⟨lg, 0, none⟩)) (oi := ⟨some 133, _, _, _, _, some (18, false)⟩) rfl rfl (by kernel_rfl) (by kernel_rfl) (by kernel_rfl) (fun _ _ _ h => h) (wanted_by (oj := ⟨some 132, _, _, _, _, _⟩) (j := 18) (d := 132) (want := false) rfl rfl rfl (by simp [ev_eq, ev_ne, size_put, hsz, h10, h11, h21, h22])) (fun W => x_move (.tmp 22) rfl (by simp [ev_eq, ev_ne, size_put, hsz, h10, h11, h21, h22]) W) ?_
          refine any_one 20 134 (o := ⟨some 134, _, _, _, _, some (18, false)⟩) (by kernel_rfl) rfl rfl (wanted_by (oj := ⟨some 132, _, _, _, _, _⟩) (j := 18) (d := 132) (want := false) rfl rfl rfl (by simp [ev_eq, ev_ne, size_put, hsz, h10, h11, h21, h22])) (fun K hK => ?_)
          refine wp_lforce (.tmp 133) rfl (.pointer (some ⟨lg, 0, none⟩)) (by simp [ev_eq, ev_ne, size_put, hsz, h10, h11, h21, h22]) (lst_force LF.out (by omega)) ?_
          rintro e wG ⟨rfl, lG, kG⟩
          refine ⟨_, rfl, hK _ _ ?_⟩
          clear hK K
          rw [sync_segM] at lG
          have LG := Lib.hid lG; have KL := Lib.hid (KT.trans KF.out kG); clear lG kG
          refine any_take 21 135 (.bool false) (oi := ⟨some 135, _, _, _, _, some (18, false)⟩) rfl rfl (by kernel_rfl) (by kernel_rfl) (by kernel_rfl) (fun _ _ _ h => h) (wanted_by (oj := ⟨some 132, _, _, _, _, _⟩) (j := 18) (d := 132) (want := false) rfl rfl rfl (by simp [ev_eq, ev_ne, size_put, hsz, h10, h11, h21, h22])) (fun W => x_neqE (.tmp 134) (.const (.int .i64 0)) (a := 0) (b := 0) rfl (by simp [ev_eq, ev_ne, size_put, hsz, h10, h11, h21, h22]) rfl rfl W) ?_
          refine any_take 22 136 (.bool false) (oi := ⟨some 136, _, _, _, _, none⟩) rfl rfl (by kernel_rfl) (by kernel_rfl) (by kernel_rfl) (fun _ _ _ h => h) (wanted_no rfl) (fun W => x_pick (.tmp 132) (.const (.bool true)) (.tmp 135) (b := false) rfl (by simp [ev_eq, ev_ne, size_put, hsz, h10, h11, h21, h22]) (by simp [ev_eq, ev_ne, size_put, hsz, h10, h11, h21, h22]) W) ?_
          refine wpAny_done (by kernel_rfl) ?_ _
          simp only [Exit.then]
          refine hM _ _ (Met.intro (hJ _ _ ⟨.int .i64 0, .bool false, .bool false, .pointer (some ⟨lg, 0, none⟩), vA, .slice av me cv, .int .i64 (n : Nat), .slice av n cv, .bool true, .bool false, .bool false, .bool false, .pointer (some ⟨lg, 0, none⟩), .slice (some ⟨wE.heap.size, 0, none⟩) 1 1, .slice (some ⟨wE.heap.size, 0, none⟩) 1 1, .int .i64 0, .bool false, .bool false, .bool false, .pointer (some ⟨lg, 0, none⟩), .int .i64 0, .bool false, .bool false, ⟨rfl, LG, KL⟩, ?_⟩))
          have hfr2 := hfr.out
          subst hfr2
          show _ = _
          kernel_rfl
        case rest =>
          obtain ⟨rfl, LG, KG⟩ := hcut
          obtain ⟨wG, hwG⟩ : ∃ x, x = wc := ⟨_, rfl⟩
          subst hwG
          go_wp2_with fail
          refine (dk_fall LG.out.dk 0 (by omega) (by omega) (by simp [segM])).mono ?_
          rintro e w10 ⟨dh, mh, rfl, d10, t10⟩
          rw [fall_segM] at d10
          have hopen := Lib.hid (open_ok d10 0 (by omega) (by simp [segM]) (open_segM (A.take n ++ [[122]]) (fun b hb => by
            rcases List.mem_append.1 hb with hb | hb
            · exact (HB5.out.fit b (List.mem_of_mem_take hb)).1
            · simp at hb; subst hb; exact ⟨by simp, by simp⟩) _ _) rfl)
          have T10 := Lib.hid t10
          clear d10 t10
          go_wp2_with fail
          refine hopen.out.mono ?_
          rintro e w11 ⟨lo, rfl, l11, k11⟩
          have LO : Hid (LSt w11.drew lo dh mh 1048576 (segM (framed (A.take n ++ [[122]])) (framed (A.take n ++ [[122]])).length true) 0 (A.take n ++ [[122]]) (fun k => k < wG.heap.size)) := LSt.keep l11 (Tch.drew _)
          have K11 : Hid (Tch No wG w11.drew) := (T10.out.fresh k11 (fun k hk => Nat.not_lt.1 hk)).trans0 (Tch.drew _)
          have KZ := Lib.hid (KT.trans K9.out (KT.trans KG.out (KT.of0 K11.out)))
          clear RW
          have RW : Hid (IsRows w11.drew (.slice av me cv) R) := HB5.out.rows.tch KZ.out (fun q hq hn => hn (RowsF.lt HB5.out.rows q hq))
          have hold : Hid (∀ x ∈ R.take n, ∀ k, x.v.ownBlock = some k → k < w11.drew.heap.size) := fun x hx k hk => RowsF.lt RW.out k (.inr ⟨x, List.mem_of_mem_take hx, hk⟩)
          clear l11 k11 hopen LG
          go_upto_region 31 with fail
          go_cut [6] from 143 to 157 (fun s6 wx => s6 = .bool true ∧ Hid (Tch No w11.drew wx))
          case first =>
            rename_i hJ hM
            refine frame_gen 158 rfl (fun fr hfr hsz => ?_)
            have h10 : fr.eval (.tmp 10) = .int .i64 0 := by rw [hfr.out]; rfl
            have h11 : fr.eval (.tmp 11) = .slice av me cv := by rw [hfr.out]; rfl
            have h21 : fr.eval (.tmp 21) = .int .i64 (n : Nat) := by rw [hfr.out]; rfl
            have h23 : fr.eval (.tmp 23) = .pointer (some ⟨lo, 0, none⟩) := by rw [hfr.out]; rfl
            refine wp_region_any (by kernel_rfl) ?_
            change wpAny _ _ _ _ 16 _ _ (World.drew _)
            refine any_take 0 143 (.int .i64 0) (oi := ⟨some 143, _, _, _, _, none⟩) rfl rfl (by kernel_rfl) (by kernel_rfl) (by kernel_rfl) (fun _ _ _ h => h) (wanted_no rfl) (fun W => x_move (.tmp 10) rfl (by simp [ev_eq, ev_ne, size_put, hsz, h10, h11, h21, h23]) W) ?_
            refine any_take 1 144 (.bool true) (oi := ⟨some 144, _, _, _, _, none⟩) rfl rfl (by kernel_rfl) (by kernel_rfl) (by kernel_rfl) (fun _ _ _ h => h) (wanted_no rfl) (fun W => x_eqlE (.tmp 143) (.const (.int .i64 0)) (a := 0) (b := 0) rfl (by simp [ev_eq, ev_ne, size_put, hsz, h10, h11, h21, h23]) rfl rfl W) ?_
            refine any_take 2 145 (.bool true) (oi := ⟨some 145, _, _, _, _, none⟩) rfl rfl (by kernel_rfl) (by kernel_rfl) (by kernel_rfl) (fun _ _ _ h => h) (wanted_no rfl) (fun W => x_move (.tmp 144) rfl (by simp [ev_eq, ev_ne, size_put, hsz, h10, h11, h21, h23]) W) ?_
            refine any_take 3 146 (.pointer (some ⟨lo, 0, none⟩)) (oi := ⟨some 146, _, _, _, _, some (2, true)⟩) rfl rfl (by kernel_rfl) (by kernel_rfl) (by kernel_rfl) (fun _ _ _ h => h) (wanted_by (oj := ⟨some 145, _, _, _, _, _⟩) (j := 2) (d := 145) (want := true) rfl rfl rfl (by simp [ev_eq, ev_ne, size_put, hsz, h10, h11, h21, h23])) (fun W => x_move (.tmp 23) rfl (by simp [ev_eq, ev_ne, size_put, hsz, h10, h11, h21, h23]) W) ?_
            refine any_take 5 148 (.slice av me cv) (oi := ⟨some 148, _, _, _, _, some (2, true)⟩) rfl rfl (by kernel_rfl) (by kernel_rfl) (by kernel_rfl) (fun _ _ _ h => h) (wanted_by (oj := ⟨some 145, _, _, _, _, _⟩) (j := 2) (d := 145) (want := true) rfl rfl rfl (by simp [ev_eq, ev_ne, size_put, hsz, h10, h11, h21, h23])) (fun W => x_move (.tmp 11) rfl (by simp [ev_eq, ev_ne, size_put, hsz, h10, h11, h21, h23]) W) ?_
            refine any_take 6 149 (.int .i64 (n : Nat)) (oi := ⟨some 149, _, _, _, _, some (2, true)⟩) rfl rfl (by kernel_rfl) (by kernel_rfl) (by kernel_rfl) (fun _ _ _ h => h) (wanted_by (oj := ⟨some 145, _, _, _, _, _⟩) (j := 2) (d := 145) (want := true) rfl rfl rfl (by simp [ev_eq, ev_ne, size_put, hsz, h10, h11, h21, h23])) (fun W => x_move (.tmp 21) rfl (by simp [ev_eq, ev_ne, size_put, hsz, h10, h11, h21, h23]) W) ?_
            refine any_take 7 150 (.slice av n cv) (oi := ⟨some 150, _, _, _, _, some (2, true)⟩) rfl rfl (by kernel_rfl) (by kernel_rfl) (by kernel_rfl) (fun _ _ _ h => h) (wanted_by (oj := ⟨some 145, _, _, _, _, _⟩) (j := 2) (d := 145) (want := true) rfl rfl rfl (by simp [ev_eq, ev_ne, size_put, hsz, h10, h11, h21, h23])) (fun W => x_front (.tmp 148) (.tmp 149) (a := av) (m := me) (c := cv) (n := n) rfl (by simp [ev_eq, ev_ne, size_put, hsz, h10, h11, h21, h23]) (by simp [ev_eq, ev_ne, size_put, hsz, h10, h11, h21, h23]) (by omega) W) ?_
            refine any_gen 158 (by simp [size_put, hsz]) (fun ft hft hst => ?_)
            have e145 : ft.eval (.tmp 145) = .bool true := by rw [hft.out]; simp [ev_eq, ev_ne, size_put, hsz]
            have e146 : ft.eval (.tmp 146) = .pointer (some ⟨lo, 0, none⟩) := by rw [hft.out]; simp [ev_eq, ev_ne, size_put, hsz]
            have e150 : ft.eval (.tmp 150) = .slice av n cv := by rw [hft.out]; simp [ev_eq, ev_ne, size_put, hsz]
            clear h10 h11 h21 h23
            have hstart : ft = chain5 ft 147 151 152 153 154 (ft.eval (.tmp 147)) (ft.eval (.tmp 151)) (ft.eval (.tmp 152)) (ft.eval (.tmp 153)) (ft.eval (.tmp 154)) := by
              simp only [chain5]
              rw [put_self (by omega)]
              rw [put_self (by omega)]
              rw [put_self (by omega)]
              rw [put_self (by omega)]
              rw [put_self (by omega)]
            have hwant : ∀ v4 v8 v9 v10 v11, (chain5 ft 147 151 152 153 154 v4 v8 v9 v10 v11).eval (.tmp 145) = .bool true := fun v4 v8 v9 v10 v11 => by simp [chain5, ev_ne, e145]
            refine two_chains (S := fun i j a W => ∃ v4 v8 v9 v10 v11 RA g c, a = chain5 ft 147 151 152 153 154 v4 v8 v9 v10 v11 ∧ Hid (StZ w11.drew W (A.take n ++ [[122]]) (R.take n) i j v4 v8 v9 v10 v11 RA g c)) 2 3 4 (fun i => if i = 0 then 4 else 8) (fun j => 9 + j) (fun i j => #[true, true, true, true, decide (1 ≤ i), true, true, true, decide (2 ≤ i), decide (1 ≤ j), decide (2 ≤ j), decide (3 ≤ j), false, false, false, false]) (by kernel_rfl) (by kernel_rfl) ?_ ?_ ?_ 5 0 0 (by omega) (by omega) (by omega) ft w11.drew ⟨_, _, _, _, _, [], 0, 0, hstart, StZ.start hold.out (Tch.refl _ _)⟩
            · intro i j a W hi hj hS
              obtain ⟨v4, v8, v9, v10, v11, RA, g, c, rfl, hZ⟩ := hS
              match i, hi with
              | 0, _ =>
                refine op_by (o := ⟨some 147, _, _, _, _, some (2, true)⟩) rfl 147 rfl (wanted_by (oj := ⟨some 145, _, _, _, _, _⟩) (j := 2) (d := 145) (want := true) rfl rfl rfl (hwant _ _ _ _ _)) (fun K hK => ?_)
                refine wp_all (.tmp 146) rfl (.pointer (some ⟨lo, 0, none⟩)) (by simp [chain5, ev_eq, ev_ne, size_put, hst, e146, e150]) (lst_all (LO.out.keep hZ.out.tch) (by have := hAA.out; rw [List.length_append]; simp; omega)) ?_
                rintro e W2 ⟨v, R2, rfl, q1, q2, q3, q4⟩
                exact ⟨v, rfl, hK _ _ ⟨_, _, _, _, _, R2, g, c, (by simp only [chain5]; rw [put_swap (d := 154) (e := 147) (by decide)]; rw [put_swap (d := 153) (e := 147) (by decide)]; rw [put_swap (d := 152) (e := 147) (by decide)]; rw [put_swap (d := 151) (e := 147) (by decide)]; rw [put_put]), hZ.out.all q1 q2 q3 q4⟩⟩
              | 1, _ =>
                refine op_by (o := ⟨some 151, _, _, _, _, some (2, true)⟩) rfl 151 rfl (wanted_by (oj := ⟨some 145, _, _, _, _, _⟩) (j := 2) (d := 145) (want := true) rfl rfl rfl (hwant _ _ _ _ _)) (fun K hK => ?_)
                refine wp_appRs (.const (.slice none 0 0)) (.tmp 150) rfl (.slice none 0 0) 0 [] rfl (World.ownsRow_nil _ _ _ _) (.slice av n cv) (R.take n).length ((R.take n).map (·.v)) (by simp [chain5, ev_eq, ev_ne, size_put, hst, e146, e150]) (((RW.out.tch0 hZ.out.tch).take n (by rw [HRL.out]; exact hn)).src) (by rw [List.length_take]; omega) ?_
                intro a' n' cap' W2 hA
                rw [List.nil_append, Nat.zero_add] at hA
                exact hK _ _ ⟨_, _, _, _, _, RA, g, c, (by simp only [chain5]; rw [put_swap (d := 154) (e := 151) (by decide)]; rw [put_swap (d := 153) (e := 151) (by decide)]; rw [put_swap (d := 152) (e := 151) (by decide)]; rw [put_put]), hZ.out.copy ((RW.out.tch0 hZ.out.tch).take n (by rw [HRL.out]; exact hn)) hA⟩
            · intro i j a W hi hj hS
              obtain ⟨v4, v8, v9, v10, v11, RA, g, c, rfl, hZ⟩ := hS
              match j, hj with
              | 0, _ =>
                refine op_by (o := ⟨some 152, _, _, _, _, some (2, true)⟩) rfl 152 rfl (wanted_by (oj := ⟨some 145, _, _, _, _, _⟩) (j := 2) (d := 145) (want := true) rfl rfl rfl (hwant _ _ _ _ _)) (fun K hK => ?_)
                with_reducible refine wp_run (.slice (some ⟨W.heap.size, 0, none⟩) 1 1) (W.alloc (.cells #[.int .u8 122] 5)) ?_ (hK _ _ ?_)
                · exact x_build8 (.const (.int .u8 122)) rfl rfl W
                exact ⟨_, _, _, _, _, RA, _, c, (by simp only [chain5]; rw [put_swap (d := 154) (e := 152) (by decide)]; rw [put_swap (d := 153) (e := 152) (by decide)]; rw [put_put]), hZ.out.lit hi⟩
              | 1, _ =>
                obtain ⟨z1, _, fz, z3⟩ := hZ.out.b1 (by omega)
                refine op_by (o := ⟨some 153, _, _, _, _, some (2, true)⟩) rfl 153 rfl (wanted_by (oj := ⟨some 145, _, _, _, _, _⟩) (j := 2) (d := 145) (want := true) rfl rfl rfl (hwant _ _ _ _ _)) (fun K hK => ?_)
                with_reducible refine wp_run v9 (markW W g) ?_ (hK _ _ ?_)
                · exact (by rw [z1]; exact x_conv (.tmp 152) rfl (by rw [← z1]; simp [chain5, ev_eq, ev_ne, size_put, hst]) z3)
                exact ⟨_, _, _, _, _, RA, g, c, (by simp only [chain5]; rw [put_swap (d := 154) (e := 153) (by decide)]; rw [put_put]), hZ.out.mark⟩
              | 2, _ =>
                have z1 := (hZ.out.b1 (by omega)).1
                have z2 := hZ.out.b3 (by omega)
                refine op_by (o := ⟨some 154, _, _, _, _, some (2, true)⟩) rfl 154 rfl (wanted_by (oj := ⟨some 145, _, _, _, _, _⟩) (j := 2) (d := 145) (want := true) rfl rfl rfl (hwant _ _ _ _ _)) (fun K hK => ?_)
                with_reducible refine wp_run (.slice (some ⟨W.heap.size, 0, none⟩) 1 1) (W.alloc (.cells #[.slice (some ⟨g, 0, none⟩) 1 1] 22)) ?_ (hK _ _ ?_)
                · exact x_buildR (.tmp 153) (a := some ⟨g, 0, none⟩) (n := 1) (c := 1) rfl (by rw [← z1, ← z2]; simp [chain5, ev_eq, ev_ne, size_put, hst]) W
                exact ⟨_, _, _, _, _, RA, g, _, (by simp only [chain5]; rw [put_put]), hZ.out.row⟩
            · intro a W hS
              obtain ⟨v4, v8, v9, v10, v11, RA, g, c, rfl, hZ⟩ := hS
              refine any_one 12 155 (o := ⟨some 155, _, _, _, _, some (2, true)⟩) (by kernel_rfl) rfl rfl (wanted_by (oj := ⟨some 145, _, _, _, _, _⟩) (j := 2) (d := 145) (want := true) rfl rfl rfl (hwant _ _ _ _ _)) (fun K hK => ?_)
              obtain ⟨y1, y2, y3⟩ := hZ.out.src
              refine wp_appRs (.tmp 151) (.tmp 154) rfl v8 (R.take n).length ((R.take n).map (·.v)) (by simp [chain5, ev_eq, ev_ne, size_put, hst, e146, e150]) (hZ.out.p1 (by omega)).row v11 1 [.slice (some ⟨g, 0, none⟩) 1 1] (by simp [chain5, ev_eq, ev_ne, size_put, hst, e146, e150]) hZ.out.src (by rw [List.length_take]; omega) ?_
              intro a' n' cap' W2 hA
              refine hK _ _ ?_
              clear hK K y1 y2 y3
              obtain ⟨f1, f2, f3, f4⟩ := hZ.out.fin hA
              refine any_one 13 156 (o := ⟨some 156, _, _, _, _, some (2, true)⟩) (by kernel_rfl) rfl rfl (wanted_by (oj := ⟨some 145, _, _, _, _, _⟩) (j := 2) (d := 145) (want := true) rfl rfl rfl (by rw [ev_ne (by decide)]; exact hwant _ _ _ _ _)) (fun K hK => ?_)
              refine wp_eq (.tmp 147) (.tmp 155) rfl v4 (.slice a' n' cap') (by simp [chain5, ev_eq, ev_ne, size_put, hst]) (by simp [chain5, ev_eq, ev_ne, size_put, hst]) (eq_any f2 f4 (by rw [f3, List.map_append, HRT.out]; rfl) (by have h1 := congrArg List.length f3; rw [List.length_map, List.length_append] at h1; have := hAA.out; simp at h1; omega)) ?_
              rintro e W3 ⟨rfl, t3⟩
              refine ⟨_, rfl, hK _ _ ?_⟩
              clear hK K
              have TZ := Lib.hid (f1.trans0 t3)
              clear f1 f2 f3 f4 t3 hA
              refine any_take 14 157 (.bool true) (oi := ⟨some 157, _, _, _, _, none⟩) rfl rfl (by kernel_rfl) (by kernel_rfl) (by kernel_rfl) (fun _ _ _ h => h) (wanted_no rfl) (fun W => x_pick (.tmp 145) (.tmp 156) (.const (.bool false)) (b := true) rfl (by rw [ev_ne (by decide), ev_ne (by decide)]; exact hwant _ _ _ _ _) (by simp [chain5, ev_eq, ev_ne, size_put, hst]) W) ?_
              refine any_take 15 6 (.bool true) (oi := ⟨some 6, _, _, _, _, none⟩) rfl rfl (by kernel_rfl) (by kernel_rfl) (by kernel_rfl) (fun _ _ _ h => h) (wanted_no rfl) (fun W => x_assign (.tmp 157) rfl (by simp [chain5, ev_eq, ev_ne, size_put, hst]) W) ?_
              refine wpAny_done (by kernel_rfl) ?_ _
              simp only [Exit.then]
              refine hM _ _ (Met.intro (hJ _ _ ⟨.bool true, .int .i64 0, .bool true, .bool true, .pointer (some ⟨lo, 0, none⟩), v4, .slice av me cv, .int .i64 (n : Nat), .slice av n cv, v8, v9, v10, v11, .slice a' n' cap', .bool true, .bool true, ⟨rfl, TZ⟩, ?_⟩))
              have hft2 := hft.out
              subst hft2
              have hfr2 := hfr.out
              subst hfr2
              show _ = _
              kernel_rfl
          case rest =>
            obtain ⟨rfl, TZ⟩ := hcut
            have TW : Hid (Tch No w5 wc) := (KZ.out.no (fun k hk => hk)).trans0 TZ.out
            have TX := Lib.hid ((T1.out.trans0 HB5.out.tch).trans0 TW.out)
            clear TW TZ KZ RW LO K11 KG K9 HB5
            go_wp2_with fail
            go_ret
            exact ⟨rfl, TX.out.below0⟩

/-! ### THE ROW's STEP: WRITTEN OUT: LEAVE IT -/
set_option maxRecDepth 100000 in
theorem lifted (os : Os) (started : os.Started) (H : Type) (enc : TypeId × Value → H) :
    ReturnsInHanded {} Try.checked os 8 .any (Rows.segTornSpec.pre6 enc Try.prog Try.f8 Rows.segTornRow.domain false) (Rows.segTornSpec.post enc Try.prog Try.f8 false true false false) := by
  refine returnsInHanded_of_change (C := Try.checked) own started (by kernel_rfl) Try.func8
    (ChangeSpec.witness6 (enc := enc) (C := Try.checked) false ⟨#[], #[.slice none 0 0, .int .i64 0, .bool false], []⟩ 8 (by kernel_rfl) (by kernel_rfl) (by kernel_rfl) (by kernel_rfl)) ?_
  intro W base args ds gs before hval0 hW hcnd _
  have hval : ∀ (j : Nat) t v, Try.f8.params[j]? = some t → args[j]? = some v → Value.okWide Try.prog W .any base t v := hval0
  have hW' := hW
  obtain ⟨p, q, hA0, hV, rfl, hfz, hnd⟩ := hW
  have hA : DataW.TrodAll enc Try.prog W 0 (fun _ => true) true Try.f8.params.toList args.toList ds p := hA0
  rw [Try.params8] at hA hval
  obtain ⟨v0, vs0, d0, ds0, p0, q0, hargs, rfl, rfl, h0, r0⟩ := trodAll_cons hA
  obtain ⟨v1, vs1, d1, ds1, p1, q1, rfl, rfl, rfl, h1, r1⟩ := trodAll_cons r0
  obtain ⟨v2, vs2, d2, ds2, p2, q2, rfl, rfl, rfl, h2, r2⟩ := trodAll_cons r1
  obtain ⟨rfl, rfl, rfl⟩ := trodAll_nil r2
  obtain rfl : args = #[v0, v1, v2] := by cases args; simp_all
  obtain ⟨rfl, rfl⟩ := trodVars_none hV
  obtain ⟨a0, len0, cap0, rfl⟩ := okWide_slice Try.underlying46 (hval 0 46 v0 rfl rfl)
  have k0 := h0
  have lt0 : ∀ x ∈ p0, x.block < W.heap.size := by obtain ⟨m, hm⟩ := k0; exact DataW.trod_lt m _ _ _ hm
  have w0 : IsBss W a0 len0 cap0 := by
    obtain ⟨fuel, hf⟩ := h0
    obtain ⟨_, _, _, hcs, hw⟩ := open_bss hf
    simp [Value.cells] at hcs
    obtain ⟨rfl, rfl, rfl⟩ := hcs
    exact hw
  obtain ⟨a1, rfl, rfl, rfl, w1⟩ := open_int Try.underlying3 (hval 1 3 v1 rfl rfl) h1
  obtain ⟨a2, rfl, rfl, rfl⟩ := open_bool Try.underlying4 (hval 2 4 v2 rfl rfl) h2
  clear hA0 hval0
  refine (walk a0 len0 cap0 a1 a2 W w0 w1).mono fun e W' ⟨he, bel⟩ => ?_
  subst he
  exact ⟨_, rfl, _, _, _, [], _, [], hW', trodAll_mk1 (shut_bool Try.underlying4 _), (trodAll_cons_mk (Below.trod laidOut (by kernel_rfl) (of_decide_eq_true (by kernel_rfl)) k0 bel lt0) (trodAll_cons_mk (shut_int Try.underlying3 w1) (trodAll_cons_mk (shut_bool Try.underlying4 _) trodAll_mk0))), rfl, bel.frame _, fun h => by cases h⟩

theorem over : Rows.segTornRow.holds Try.pinned (OpenSpec.ofChange Rows.segTornSpec) :=
  OpenClaim.holds_of_wide 8 Try.f8 rfl rfl rfl rfl rfl rfl rfl ⟨rfl, rfl, rfl, rfl, rfl⟩ rfl rfl rfl rfl rfl (by kernel_rfl) Try.func8 (by kernel_rfl)
    (of_decide_eq_true (by kernel_rfl)) (by unfold Func.isWrapper; first | (rw [if_pos (by decide +kernel)]; kernel_rfl) | (rw [if_neg (by decide +kernel)]; exact ⟨rfl, rfl⟩))
    (fun os started H enc _ => lifted os started H enc)

/--  THE STATEMENT  -/
theorem proved : Rows.SegTornSaid := over
#print axioms proved
end Go.Proofs.Ytcjlgdldhcbcjaa.segTorn
