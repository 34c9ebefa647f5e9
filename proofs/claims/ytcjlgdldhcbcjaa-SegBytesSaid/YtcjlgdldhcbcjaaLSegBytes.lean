/- SegBytes: the law SegBytes returns true for every input, and each argument reads behind the call as it read before. No condition. The frame is the kit's proof-skeleton. -/
import Derived.Test.YtcjlgdldhcbcjaaRows
import Derived.WalkKit
import Derived.ProofKit
import Derived.OpenShut
import Derived.ShutString
import Derived.ChangeOld
import Derived.Below
import Derived.Test.YtcjlgdldhcbcjaaBeg3
import Derived.Test.YtcjlgdldhcbcjaaRFrame
import Derived.Test.YtcjlgdldhcbcjaaBss
namespace Go.Proofs.Ytcjlgdldhcbcjaa.segBytes
open Go.ChangeShapes Go.WideShapes Go.ChangeAt Go.RowKit Go.Maps
open Go.ChangeMaps (open_string shut_string)
set_option linter.unusedVariables false
set_option linter.unusedSimpArgs false

theorem own : ownKnob Try.prog.godebug = none := by kernel_rfl
theorem laidOut : laidOutB Try.prog = true := by kernel_rfl

theorem bytes_le60 (zb : List Int) (lb : Nat) : (bytesOf (zb.take (min lb 60))).length ≤ 60 := by
  simp [bytesOf]; omega
/-- A log of one segment, and the bytes that it should have. -/
structure Row (w1 w : World) (lb db mb : Nat) (A : List (List UInt8)) (v : Value) (j : Nat) : Prop where
  log : LSt w lb db mb 1048576 (oneM A) 0 A (fun k => K0 w1 k ∨ v.ownBlock = some k)
  own : w.ownsRow 0 5 1 v (framed A).length (u8s (framed A))
  fresh : ∀ k, v.ownBlock = some k → w1.heap.size ≤ k
  tch : Tch No w1 w
  cnt : A.length ≤ j ∧ (framed A).length ≤ 66 * j
theorem Row.app {w1 w : World} {lb db mb : Nat} {A A' : List (List UInt8)} {v v' : Value} {j : Nat} {bb : List UInt8} (h : Row w1 w lb db mb A v j) {w5 w6 wA w8 : World} {vb : Value} (t5 : Tch No w w5)
    (l6 : LSt w6 lb db mb 1048576 (oneM A') 0 A' (fun k => (K0 w1 k ∨ v.ownBlock = some k) ∨ vb.ownBlock = some k)) (k6 : KT (fun k => (K0 w1 k ∨ v.ownBlock = some k) ∨ vb.ownBlock = some k) w5 w6)
    (tA : Tch No w6 wA) (hA : AppPost 5 wA v (framed A') v' w8) (hc : A'.length ≤ j + 1 ∧ (framed A').length ≤ 66 * (j + 1)) : Row w1 w8 lb db mb A' v' (j + 1) := by
  have t8 : Tch (fun k => v.ownBlock = some k) wA w8 := Tch.grown hA.grow (fun k hk _ => hk)
  have t16 : Tch No w1 w6 := (h.tch.trans0 t5).fresh (F := fun k => ¬ ((K0 w1 k ∨ v.ownBlock = some k) ∨ vb.ownBlock = some k)) k6 (fun k hk => by
    rcases Nat.lt_or_ge k w1.heap.size with q | q
    · exact absurd (.inl (.inl q)) hk
    · exact q)
  have hs := (t16.trans0 tA).size
  refine ⟨(l6.keep tA).gen t8 (fun k hk => .inl (.inr hk)) (fun k hk => ?_), hA.own, fun k hk => ?_, (t16.trans0 tA).fresh t8 h.fresh, hc⟩
  · rcases hk with hk | hk
    · exact .inl (.inl (.inl hk))
    · rcases hA.loc with e | e
      · exact .inl (.inl (.inr (by rw [← e]; exact hk)))
      · have := (hA.own.lt k hk).2
        rw [e] at hk; simp at hk
        exact .inr ⟨by omega, this⟩
  · rcases hA.loc with e | e
    · exact h.fresh k (by rw [← e]; exact hk)
    · rw [e] at hk; simp at hk; omega
set_option maxRecDepth 100000 in
set_option maxHeartbeats 4000000 in
theorem walk (a0 : Option Addr) (len0 cap0 : Nat) (w : World) (w0 : IsBss w a0 len0 cap0) :
    Calls Try.prog 9 #[.slice a0 len0 cap0] w fun e w' => e = .returned (.bool true) ∧ Below w.heap.size w w' := by
  obtain ⟨i0, hi0, hz0, hz1, hz2⟩ := info_parts infoB
  have W0 := Lib.hid w0
  clear w0
  go_enter Try.func9, Try.ntmps9
  go_wp2_with fail
  refine (begun4_any w).mono ?_
  rintro e w1 ⟨rfl, t1⟩
  have T1 := Lib.hid t1; clear t1
  go_wp2_with fail
  refine (dk_new (K := K0 w1) 1048576 w1 (fun k hk => hk)).mono ?_
  rintro e w2 ⟨db, mb, rfl, d2, t2⟩
  rw [show roomOf 1048576 = 1048576 by rfl] at d2
  have D2 := Lib.hid d2; have T2 := Lib.hid t2; clear d2 t2
  go_wp2_with fail
  refine (open_ok D2.out 0 (by omega) (by simp) e0 rfl).mono ?_
  rintro e w3 ⟨lb, rfl, l3, k3⟩
  have B3 : Hid (Row w1 w3 lb db mb [] (.slice none 0 0) 0) := by
    refine ⟨LSt.less (K := K0 w1) l3 (fun k hk => ?_), World.ownsRow_nil _ _ _ _, fun k hk => by simp [Value.ownBlock] at hk, k3.noK (w := w1) T2.out, by simp [framed]⟩
    rcases hk with hk | hk
    · exact hk
    · simp [Value.ownBlock] at hk
  clear l3 k3 D2 T2
  go_wp2_with fail
  go_loopw [7, 8] (fun s i wr => ∃ (j : Nat) (A : List (List UInt8)) (v : Value), j ≤ len0 ∧ j ≤ 10 ∧ i = .int .i64 j ∧ s = v ∧ Hid (Row w1 wr lb db mb A v j)) (fun _ i _ => 10 - (intOf i).toNat)
  case atStart => exact ⟨0, _, _, by omega, by omega, rfl, rfl, B3⟩
  case round =>
    clear B3
    obtain ⟨j, A, v, hj1, hj2, rfl, rfl, HB⟩ := hrel
    obtain ⟨av, mv, cv, rfl, hmv⟩ := own_shape' HB.out.own
    have HMV : Hid (mv = (framed A).length) := hmv.out
    by_cases gg : j < len0 ∧ j < 10
    · obtain ⟨g1, g2⟩ := gg
      obtain ⟨ob, oo, x, l, c, zs, ha, hcx, hrow⟩ := W0.out.2.2 j g1
      subst ha
      have hc' := (T1.out.trans0 HB.out.tch).cell hcx (fun h => h)
      have HR := Lib.hid (hrow.tch0 (T1.out.trans0 HB.out.tch))
      obtain ⟨bb, hbb⟩ : ∃ bb, bytesOf (zs.take (min l 60)) = bb := ⟨_, rfl⟩
      have hb60 : bb.length ≤ 60 := by rw [← hbb]; exact bytes_le60 zs l
      have HBB := Lib.hid hbb
      clear hcx hrow hbb
      go_wp2_with fail
      refine (short_own x l c zs 60 wr HR.out (by omega)).mono ?_
      rintro e w5 ⟨vb, rfl, sb, fb, tb, _⟩
      rw [HBB.out] at sb
      obtain ⟨xa, xm, xc, rfl, hxm⟩ := sb.shape'
      have SB := Lib.hid sb; have FB := Lib.hid fb; have TB := Lib.hid tb
      have L5 : Hid (LSt w5 lb db mb 1048576 (oneM A) 0 A (fun k => (K0 w1 k ∨ (Value.slice av mv cv).ownBlock = some k) ∨ (Value.slice xa xm xc).ownBlock = some k)) := HB.out.log.more tb (fun k hk => by
        rcases hk with hk | hk
        · exact .inl hk
        · exact .inr ⟨fb k hk, sb.blt k hk⟩)
      have hadd := Lib.hid (lst_add L5.out (by omega) (.slice xa xm xc) bb sb (fun k hk => .inr hk) (Nat.le_trans (oneM_len A) (by omega)) (by have := HB.out.cnt; omega))
      have hxl : xm = bb.length := hxm.out
      have HXL := Lib.hid hxl
      clear sb fb tb hxm HBB hmv
      by_cases hfit : fits bb
      · have hx1 : 0 < xm := by unfold fits at hfit; omega
        have hao := addM_one 1048576 A bb hfit (by have := HB.out.cnt; omega)
        rw [if_neg (by have := HB.out.cnt; omega)] at hao
        rw [hao] at hadd
        have HFIT := Lib.hid hfit
        clear hao hfit hxl
        go_wp2_with fail
        refine hadd.out.mono ?_
        rintro e w6 ⟨rfl, l6, k6⟩
        have L6 := Lib.hid l6
        have K6 := Lib.hid k6
        have S6 := Lib.hid (k6.slb SB.out (fun k hk => .inr hk))
        have O6 := Lib.hid (k6.own (own_tch HB.out.own TB.out (fun _ _ h => h)) (fun k hk => .inl (.inr hk)))
        clear hadd l6 k6
        go_wp2_with fail
        refine (rframe_any _ bb w6 S6.out HFIT.out).mono ?_
        rintro e w7 ⟨vF, rfl, bF, _, _, tF⟩
        have BF := Lib.hid bF; have TF := Lib.hid tF
        obtain ⟨fa, fm, fc, rfl, _⟩ := bF.shape'
        have hcn : Hid ((A ++ [bb]).length ≤ j + 1 ∧ (framed (A ++ [bb])).length ≤ 66 * (j + 1)) := by
          have := HB.out.cnt
          rw [framed_snoc_len, List.length_append]; exact ⟨by simp; omega, by omega⟩
        clear bF tF
        go_wp2_with (at_builtin; go_must (refine wpList_app _ rfl _ _ 22 rfl 5 i0 Try.underlying22 hi0 hz0 hz1 hz2 (.slice av mv cv) (framed A) rfl (own_tch O6.out TF.out (fun _ _ h => h)) (.slice fa fm fc) (frameM bb) rfl BF.out (by have := HB.out.cnt; have := hcn.out; rw [frameM_length]; unfold lim; omega) (framed (A ++ [bb])) (by rw [Hid, framed_snoc]) ?_); intro aN nN cN w8 hA hnN; have H8 := Lib.hid (HB.out.app (bb := bb) TB.out L6.out K6.out TF.out hA hcn.out); clear hA hnN)
        exact ⟨⟨j + 1, _, _, by omega, by omega, by go_num, rfl, H8⟩, by simp [intOf]; omega⟩
      · have hx0 : xm = 0 := by unfold fits at hfit; omega
        have hbn : bb = [] := List.eq_nil_of_length_eq_zero (by omega)
        rw [addM_no 1048576 (oneM A) 0 A bb hfit] at hadd
        have HFIT := Lib.hid hfit
        subst hx0
        clear hfit hxl
        go_wp2_with fail
        refine hadd.out.mono ?_
        rintro e w6 ⟨rfl, l6, k6⟩
        have L6 : Hid (LSt w6 lb db mb 1048576 (oneM A) 0 A (fun k => (K0 w1 k ∨ (Value.slice av mv cv).ownBlock = some k) ∨ (Value.slice xa 0 xc).ownBlock = some k)) := l6
        have K6 := Lib.hid k6
        have S6 := Lib.hid (k6.slb SB.out (fun k hk => .inr hk))
        have O6 := Lib.hid (k6.own (own_tch HB.out.own TB.out (fun _ _ h => h)) (fun k hk => .inl (.inr hk)))
        have hcn : Hid (A.length ≤ j + 1 ∧ (framed A).length ≤ 66 * (j + 1)) := by have := HB.out.cnt; exact ⟨by omega, by omega⟩
        clear hadd l6 k6
        go_wp2_with fail
        refine (rframe_no _ bb w6 S6.out HFIT.out).mono ?_
        rintro e w7 ⟨rfl, rfl⟩
        go_wp2_with (at_builtin; go_must (refine wpList_app _ rfl _ _ 22 rfl 5 i0 Try.underlying22 hi0 hz0 hz1 hz2 (.slice av mv cv) (framed A) rfl O6.out (.slice none 0 0) [] rfl (SlB.nil _) (by have := HB.out.cnt; unfold lim; simp; omega) (framed A) (by simp [Hid]) ?_); intro aN nN cN w8 hA hnN; have H8 := Lib.hid (HB.out.app (bb := bb) TB.out L6.out K6.out (Tch.refl _ _) hA hcn.out); clear hA hnN)
        exact ⟨⟨j + 1, _, _, by omega, by omega, by go_num, rfl, H8⟩, by simp [intOf]; omega⟩
    · by_cases g1 : j < len0
      · have g2 : ¬ j < 10 := fun h => gg ⟨g1, h⟩
        clear gg
        go_wp2_with fail
        refine (dk_read HB.out.log.dk ⟨#[108, 111, 103, 48, 48, 48]⟩ (by decide)).mono ?_
        rintro e w5 ⟨x, he, b5, _, t5, _⟩
        rw [show (ByteArray.mk #[108, 111, 103, 48, 48, 48]).data.toList = segNm 0 from rfl] at he b5
        rw [get_one] at he b5
        have hx5 : SlB w5 x (framed A) := by
          by_cases hA : A = []
          · subst hA; exact b5
          · rw [if_neg hA] at b5; exact b5
        obtain ⟨S, hS⟩ : ∃ S : ByteArray, (⟨(framed A).toArray⟩ : ByteArray) = S := ⟨_, rfl⟩
        obtain ⟨xa, xm, xc, rfl, _⟩ := hx5.shape'
        have y1 : (convert 22 9 (.slice xa xm xc)).run Try.prog w5 = .ok (.string S) w5 := by rw [← hS]; exact str_of hx5
        have y2 : (convert 22 9 (.slice av mv cv)).run Try.prog w5 = .ok (.string S) w5 := by
          rw [← hS]
          exact str_of ((SlB.ofRow HB.out.own (by have := HB.out.cnt; unfold lim; omega)).tch0 t5)
        have T5 := Lib.hid (T1.out.trans0 (HB.out.tch.trans0 t5))
        have hmlen := HMV.out
        clear b5 t5 hx5 hS
        by_cases hA : A = []
        · subst hA
          have hm0 : mv = 0 := by rw [hmlen]; rfl
          subst hm0
          rw [if_pos rfl] at he
          simp only [Option.isSome_none] at he
          subst he
          clear HB HMV hmlen
          go_wp2_with fail
          go_ret
          exact ⟨rfl, T5.out.below0⟩
        · have hm1 : 0 < mv := by
            cases A with
            | nil => exact absurd rfl hA
            | cons b r => rw [framed_cons, List.length_append, frameM_length] at hmlen; omega
          rw [if_neg hA] at he
          simp only [Option.isSome_some] at he
          subst he
          clear HB HMV hmlen
          go_wp2_with fail
          go_ret
          exact ⟨rfl, T5.out.below0⟩
      · clear gg
        go_wp2_with fail
        refine (dk_read HB.out.log.dk ⟨#[108, 111, 103, 48, 48, 48]⟩ (by decide)).mono ?_
        rintro e w5 ⟨x, he, b5, _, t5, _⟩
        rw [show (ByteArray.mk #[108, 111, 103, 48, 48, 48]).data.toList = segNm 0 from rfl] at he b5
        rw [get_one] at he b5
        have hx5 : SlB w5 x (framed A) := by
          by_cases hA : A = []
          · subst hA; exact b5
          · rw [if_neg hA] at b5; exact b5
        obtain ⟨S, hS⟩ : ∃ S : ByteArray, (⟨(framed A).toArray⟩ : ByteArray) = S := ⟨_, rfl⟩
        obtain ⟨xa, xm, xc, rfl, _⟩ := hx5.shape'
        have y1 : (convert 22 9 (.slice xa xm xc)).run Try.prog w5 = .ok (.string S) w5 := by rw [← hS]; exact str_of hx5
        have y2 : (convert 22 9 (.slice av mv cv)).run Try.prog w5 = .ok (.string S) w5 := by
          rw [← hS]
          exact str_of ((SlB.ofRow HB.out.own (by have := HB.out.cnt; unfold lim; omega)).tch0 t5)
        have T5 := Lib.hid (T1.out.trans0 (HB.out.tch.trans0 t5))
        have hmlen := HMV.out
        clear b5 t5 hx5 hS
        by_cases hA : A = []
        · subst hA
          have hm0 : mv = 0 := by rw [hmlen]; rfl
          subst hm0
          rw [if_pos rfl] at he
          simp only [Option.isSome_none] at he
          subst he
          clear HB HMV hmlen
          go_wp2_with fail
          go_ret
          exact ⟨rfl, T5.out.below0⟩
        · have hm1 : 0 < mv := by
            cases A with
            | nil => exact absurd rfl hA
            | cons b r => rw [framed_cons, List.length_append, frameM_length] at hmlen; omega
          rw [if_neg hA] at he
          simp only [Option.isSome_some] at he
          subst he
          clear HB HMV hmlen
          go_wp2_with fail
          go_ret
          exact ⟨rfl, T5.out.below0⟩

/-! ### THE ROW's STEP: WRITTEN OUT: LEAVE IT -/
set_option maxRecDepth 100000 in
theorem lifted (os : Os) (started : os.Started) (H : Type) (enc : TypeId × Value → H) :
    ReturnsInHanded {} Try.checked os 9 .any (Rows.segBytesSpec.pre6 enc Try.prog Try.f9 Rows.segBytesRow.domain false) (Rows.segBytesSpec.post enc Try.prog Try.f9 false true false false) := by
  refine returnsInHanded_of_change (C := Try.checked) own started (by kernel_rfl) Try.func9
    (ChangeSpec.witness6 (enc := enc) (C := Try.checked) false ⟨#[], #[.slice none 0 0], []⟩ 8 (by kernel_rfl) (by kernel_rfl) (by kernel_rfl) (by kernel_rfl)) ?_
  intro W base args ds gs before hval0 hW hcnd _
  have hval : ∀ (j : Nat) t v, Try.f9.params[j]? = some t → args[j]? = some v → Value.okWide Try.prog W .any base t v := hval0
  have hW' := hW
  obtain ⟨p, q, hA0, hV, rfl, hfz, hnd⟩ := hW
  have hA : DataW.TrodAll enc Try.prog W 0 (fun _ => true) true Try.f9.params.toList args.toList ds p := hA0
  rw [Try.params9] at hA hval
  obtain ⟨v0, vs0, d0, ds0, p0, q0, hargs, rfl, rfl, h0, r0⟩ := trodAll_cons hA
  obtain ⟨rfl, rfl, rfl⟩ := trodAll_nil r0
  obtain rfl : args = #[v0] := by cases args; simp_all
  obtain ⟨rfl, rfl⟩ := trodVars_none hV
  obtain ⟨a0, len0, cap0, rfl⟩ := okWide_slice Try.underlying46 (hval 0 46 v0 rfl rfl)
  have k0 := h0
  have lt0 : ∀ x ∈ p0, x.block < W.heap.size := by obtain ⟨m, hm⟩ := k0; exact DataW.trod_lt m _ _ _ hm
  have w0 : IsBss W a0 len0 cap0 := by
    obtain ⟨fuel, hf⟩ := h0
    obtain ⟨_, _, _, hcs, hw⟩ := open_bss hf
    simp [Value.cells] at hcs
    obtain ⟨rfl, rfl, rfl⟩ := hcs
    exact hw
  clear hA0 hval0
  refine (walk a0 len0 cap0 W w0).mono fun e W' ⟨he, bel⟩ => ?_
  subst he
  exact ⟨_, rfl, _, _, _, [], _, [], hW', trodAll_mk1 (shut_bool Try.underlying4 _), (trodAll_cons_mk (Below.trod laidOut (by kernel_rfl) (of_decide_eq_true (by kernel_rfl)) k0 bel lt0) trodAll_mk0), rfl, bel.frame _, fun h => by cases h⟩

theorem over : Rows.segBytesRow.holds Try.pinned (OpenSpec.ofChange Rows.segBytesSpec) :=
  OpenClaim.holds_of_wide 9 Try.f9 rfl rfl rfl rfl rfl rfl rfl ⟨rfl, rfl, rfl, rfl, rfl⟩ rfl rfl rfl rfl rfl (by kernel_rfl) Try.func9 (by kernel_rfl)
    (of_decide_eq_true (by kernel_rfl)) (by unfold Func.isWrapper; first | (rw [if_pos (by decide +kernel)]; kernel_rfl) | (rw [if_neg (by decide +kernel)]; exact ⟨rfl, rfl⟩))
    (fun os started H enc _ => lifted os started H enc)

/--  THE STATEMENT  -/
theorem proved : Rows.SegBytesSaid := over
#print axioms proved
end Go.Proofs.Ytcjlgdldhcbcjaa.segBytes
