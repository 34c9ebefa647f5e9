/- FileDelete: the law FileDelete returns true for every input, and each argument reads behind the call as it read before. No condition. The frame is the kit's proof-skeleton. -/
import Derived.Test.YtbhemlddncmmfaaRows
import Derived.WalkKit
import Derived.ProofKit
import Derived.OpenShut
import Derived.ShutString
import Derived.ChangeOld
import Derived.Below
import Derived.Test.YtbhemlddncmmfaaBeg3
namespace Go.Proofs.Ytbhemlddncmmfaa.fileDelete
open Go.ChangeShapes Go.WideShapes Go.ChangeAt Go.RowKit Go.Maps
open Go.ChangeMaps (open_string shut_string)
set_option linter.unusedVariables false

theorem own : ownKnob Try.prog.godebug = none := by kernel_rfl
theorem laidOut : laidOutB Try.prog = true := by kernel_rfl

theorem fd1 {A : List UInt8} (hA : A.length ≤ 40) : mAppend [] (roomOf 1000) [102] A = (0, [⟨[102], A, 0, false⟩]) := by
  have : roomOf 1000 = 1000 := rfl
  have h2 : goodB [102] = true := rfl
  simp [mAppend, mAppL, mGet, mUsed, h2, this]; omega
theorem fd2 (A : List UInt8) : mSync [⟨[102], A, 0, false⟩] [102] = [⟨[102], A, A.length, true⟩] := by simp [mSync]
set_option maxRecDepth 100000 in
set_option maxHeartbeats 4000000 in
theorem walk (a0 : Option Addr) (len0 cap0 : Nat) (z0 : List Int) (a1 : Option Addr) (len1 cap1 : Nat) (z1 : List Int) (a2 : Int) (w : World) (w0 : IsRow .u8 w a0 len0 cap0 z0) (w1 : IsRow .u8 w a1 len1 cap1 z1) (w2 : (Lit.int .i64 a2).wf = true) :
    Calls Try.prog 11 #[.slice a0 len0 cap0, .slice a1 len1 cap1, .int .i64 a2] w fun e w' => e = .returned (.bool true) ∧ Below w.heap.size w w' := by
  obtain ⟨l0, hl0⟩ : ∃ l0, bytesOf (z0.take (min len0 40)) = l0 := ⟨_, rfl⟩
  obtain ⟨l1, hl1⟩ : ∃ l1, bytesOf (z1.take (min len1 40)) = l1 := ⟨_, rfl⟩
  have b0 : l0.length ≤ 40 := by rw [← hl0]; simp [bytesOf]; omega
  have b1 : l1.length ≤ 40 := by rw [← hl1]; simp [bytesOf]; omega
  have hn : -9223372036854775808 ≤ a2 ∧ a2 ≤ 9223372036854775807 := by
    simp only [Lit.wf, IntKind.min, IntKind.max, IntKind.signed, IntKind.bits] at w2
    simp at w2; omega
  have HN := Lib.hid hn
  have F1 := Lib.hid (fd1 b0)
  have F2 := Lib.hid (fd1 b1)
  have W0 := Lib.hid w0
  have W1 := Lib.hid w1
  have HL0 := Lib.hid hl0
  have HL1 := Lib.hid hl1
  clear w0 w1 w2 hn hl0 hl1
  go_enter Try.func11, Try.ntmps11
  go_wp2_with fail
  refine (begun3_any w).mono ?_
  rintro e w1 ⟨rfl, t1⟩
  go_wp2_with fail
  refine (short_row a0 len0 cap0 z0 40 w1 (W0.out.tch0 t1) (by omega)).mono ?_
  rintro e w2 ⟨v0, rfl, s2, _, t2⟩
  go_wp2_with fail
  refine (short_row a1 len1 cap1 z1 40 w2 (W1.out.tch0 (t1.trans0 t2)) (by omega)).mono ?_
  rintro e w3 ⟨v1, rfl, s3, _, t3⟩
  rw [HL0.out] at s2
  rw [HL1.out] at s3
  have T3 := Lib.hid ((t1.trans0 t2).trans0 t3)
  have S0 := Lib.hid (s2.tch0 t3)
  have S1 := Lib.hid s3
  clear t1 t2 t3 s2 s3 W0 W1 HL0 HL1
  obtain ⟨c0, m0, d0, rfl, hm0⟩ := S0.out.shape'
  obtain ⟨c1, m1, d1, rfl, hm1⟩ := S1.out.shape'
  obtain rfl : m0 = l0.length := hm0
  obtain rfl : m1 = l1.length := hm1
  go_wp2_with fail
  refine (dst_newH 1000 w3 [(.slice c0 l0.length d0, l0), (.slice c1 l1.length d1, l1)] (by simp only [List.mem_cons, List.mem_nil_iff, or_false]; rintro p (rfl | rfl); exact S0.out; exact S1.out)).mono ?_
  rintro e w4 ⟨db, mb, rfl, h4⟩
  have H4 := Lib.hid h4; clear h4 S0 S1
  go_wp2_with fail
  refine (dst_appendH H4.out ⟨#[102]⟩ (.slice c0 l0.length d0) l0 (by simp) (by decide) (by simp) (by omega)).mono ?_
  rintro e w5 ⟨rfl, h5⟩
  have e5 : mAppend [] (roomOf 1000) (ByteArray.mk #[102]).data.toList l0 = _ := F1.out
  try dsimp only at e5 h5 ⊢
  rw [e5] at h5 ⊢
  have H5 := Lib.hid h5; clear h5 e5 H4
  go_wp2_with fail
  refine (dst_sync H5.out ⟨#[102]⟩ (by decide)).mono ?_
  rintro e w6 ⟨rfl, h6⟩
  have e6 : mSync [⟨[102], l0, 0, false⟩] (ByteArray.mk #[102]).data.toList = _ := fd2 l0
  have e6' : (mGet [⟨[102], l0, 0, false⟩] (ByteArray.mk #[102]).data.toList).isSome = true := rfl
  try dsimp only at h6
  rw [e6] at h6
  rw [e6']
  have H6 := Lib.hid h6; clear h6 e6 e6' H5
  go_wp2_with fail
  refine (dst_delete H6.out ⟨#[102]⟩ (by decide)).mono ?_
  rintro e w7 ⟨rfl, h7⟩
  have e7 : mDel [⟨[102], l0, l0.length, true⟩] (ByteArray.mk #[102]).data.toList = [] := rfl
  have e7' : (mGet [⟨[102], l0, l0.length, true⟩] (ByteArray.mk #[102]).data.toList).isSome = true := rfl
  try dsimp only at h7
  rw [e7] at h7
  rw [e7']
  have H7 := Lib.hid h7; clear h7 e7 e7' H6
  go_wp2_with fail
  refine (dst_delete H7.out ⟨#[102]⟩ (by decide)).mono ?_
  rintro e w8 ⟨rfl, h8⟩
  have e8 : mDel [] (ByteArray.mk #[102]).data.toList = [] := rfl
  have e8' : (mGet [] (ByteArray.mk #[102]).data.toList).isSome = false := rfl
  try dsimp only at h8
  rw [e8] at h8
  rw [e8']
  have H8 := Lib.hid h8; clear h8 e8 e8' H7
  go_wp2_with fail
  refine (dst_fall H8.out a2 HN.out.1 HN.out.2 (by simp)).mono ?_
  rintro e w9 ⟨db9, mb9, rfl, h9, g9⟩
  have H9 := Lib.hid h9; have G9 := Lib.hid g9; clear h9 g9
  go_wp2_with fail
  refine (dst_read2 H9.out G9.out ⟨#[102]⟩ (by decide)).mono ?_
  rintro e w10 ⟨x, rfl, h10, _⟩
  have e10 : mGet (mFall a2 []) (ByteArray.mk #[102]).data.toList = none := rfl
  rw [e10] at h10 ⊢
  have H10 := Lib.hid h10; clear h10 e10 H9 G9 H8
  go_wp2_with fail
  refine (dst_appendH H10.out ⟨#[102]⟩ (.slice c1 l1.length d1) l1 (by simp) (by decide) (by simp) (by omega)).mono ?_
  rintro e w11 ⟨rfl, h11⟩
  have e11 : mAppend [] (roomOf 1000) (ByteArray.mk #[102]).data.toList l1 = _ := F2.out
  try dsimp only at e11 h11 ⊢
  rw [e11] at h11 ⊢
  have H11 := Lib.hid h11; clear h11 e11 H10
  go_wp2_with fail
  refine (dst_read H11.out ⟨#[102]⟩ (by decide)).mono ?_
  rintro e w12 ⟨y, rfl, h12⟩
  have e12 : mGet [⟨[102], l1, 0, false⟩] (ByteArray.mk #[102]).data.toList = some ⟨[102], l1, 0, false⟩ := rfl
  try dsimp only at h12
  rw [e12] at h12 ⊢
  have H12 := Lib.hid h12; clear h12 e12 H11
  have hx := (H12.out.held (v := y) (bs := l1) (by simp)).str (P := Try.prog) Try.underlying30 Try.underlying5 Try.underlying9
  have hy := (H12.out.held (v := .slice c1 l1.length d1) (bs := l1) (by simp)).str (P := Try.prog) Try.underlying30 Try.underlying5 Try.underlying9
  obtain ⟨sy, hsy⟩ : ∃ sy : ByteArray, ⟨l1.toArray⟩ = sy := ⟨_, rfl⟩
  rw [hsy] at hx hy
  clear hsy
  go_wp2_with fail
  clear hx hy
  refine (dst_sure H12.out ⟨#[102]⟩ (by decide)).mono ?_
  rintro e w13 ⟨rfl, rfl⟩
  have e13 : mSure [⟨[102], l1, 0, false⟩] (ByteArray.mk #[102]).data.toList = 0 := rfl
  rw [e13]
  have HF := Lib.hid (T3.out.trans0 H12.out.base)
  clear e13 H12 T3
  go_wp2
  go_ret
  exact ⟨rfl, HF.out.below0⟩

/-! ### THE ROW's STEP: WRITTEN OUT: LEAVE IT -/
set_option maxRecDepth 100000 in
theorem lifted (os : Os) (started : os.Started) (H : Type) (enc : TypeId × Value → H) :
    ReturnsInHanded {} Try.checked os 11 .any (Rows.fileDeleteSpec.pre6 enc Try.prog Try.f11 Rows.fileDeleteRow.domain false) (Rows.fileDeleteSpec.post enc Try.prog Try.f11 false true false false) := by
  refine returnsInHanded_of_change (C := Try.checked) own started (by kernel_rfl) Try.func11
    (ChangeSpec.witness6 (enc := enc) (C := Try.checked) false ⟨#[], #[.slice none 0 0, .slice none 0 0, .int .i64 0], []⟩ 8 (by kernel_rfl) (by kernel_rfl) (by kernel_rfl) (by kernel_rfl)) ?_
  intro W base args ds gs before hval0 hW hcnd _
  have hval : ∀ (j : Nat) t v, Try.f11.params[j]? = some t → args[j]? = some v → Value.okWide Try.prog W .any base t v := hval0
  have hW' := hW
  obtain ⟨p, q, hA0, hV, rfl, hfz, hnd⟩ := hW
  have hA : DataW.TrodAll enc Try.prog W 0 (fun _ => true) true Try.f11.params.toList args.toList ds p := hA0
  rw [Try.params11] at hA hval
  obtain ⟨v0, vs0, d0, ds0, p0, q0, hargs, rfl, rfl, h0, r0⟩ := trodAll_cons hA
  obtain ⟨v1, vs1, d1, ds1, p1, q1, rfl, rfl, rfl, h1, r1⟩ := trodAll_cons r0
  obtain ⟨v2, vs2, d2, ds2, p2, q2, rfl, rfl, rfl, h2, r2⟩ := trodAll_cons r1
  obtain ⟨rfl, rfl, rfl⟩ := trodAll_nil r2
  obtain rfl : args = #[v0, v1, v2] := by cases args; simp_all
  obtain ⟨rfl, rfl⟩ := trodVars_none hV
  obtain ⟨a0, len0, cap0, rfl⟩ := okWide_slice Try.underlying30 (hval 0 30 v0 rfl rfl)
  have k0 := h0
  have lt0 : ∀ x ∈ p0, x.block < W.heap.size := by obtain ⟨m, hm⟩ := k0; exact DataW.trod_lt m _ _ _ hm
  obtain ⟨z0, w0⟩ : ∃ zs, IsRow .u8 W a0 len0 cap0 zs := by
    obtain ⟨fuel, hf⟩ := h0
    rcases open_ints Try.underlying30 Try.underlying5 (by kernel_rfl) hf with ⟨hcs, _⟩ | ⟨x, l, c, zs, hcs, _, hl, hm, hz, _, hcell, hwz⟩
    · simp [Value.cells] at hcs
      obtain ⟨rfl, rfl, rfl⟩ := hcs
      exact ⟨[], .inl ⟨rfl, rfl, rfl, rfl⟩⟩
    · simp [Value.cells] at hcs
      obtain ⟨rfl, rfl, rfl⟩ := hcs
      exact ⟨zs, .inr ⟨_, rfl, hl, hm, by simpa using hz, hcell, hwz⟩⟩
  obtain ⟨a1, len1, cap1, rfl⟩ := okWide_slice Try.underlying30 (hval 1 30 v1 rfl rfl)
  have k1 := h1
  have lt1 : ∀ x ∈ p1, x.block < W.heap.size := by obtain ⟨m, hm⟩ := k1; exact DataW.trod_lt m _ _ _ hm
  obtain ⟨z1, w1⟩ : ∃ zs, IsRow .u8 W a1 len1 cap1 zs := by
    obtain ⟨fuel, hf⟩ := h1
    rcases open_ints Try.underlying30 Try.underlying5 (by kernel_rfl) hf with ⟨hcs, _⟩ | ⟨x, l, c, zs, hcs, _, hl, hm, hz, _, hcell, hwz⟩
    · simp [Value.cells] at hcs
      obtain ⟨rfl, rfl, rfl⟩ := hcs
      exact ⟨[], .inl ⟨rfl, rfl, rfl, rfl⟩⟩
    · simp [Value.cells] at hcs
      obtain ⟨rfl, rfl, rfl⟩ := hcs
      exact ⟨zs, .inr ⟨_, rfl, hl, hm, by simpa using hz, hcell, hwz⟩⟩
  obtain ⟨a2, rfl, rfl, rfl, w2⟩ := open_int Try.underlying3 (hval 2 3 v2 rfl rfl) h2
  clear hA0 hval0
  refine (walk a0 len0 cap0 z0 a1 len1 cap1 z1 a2 W w0 w1 w2).mono fun e W' ⟨he, bel⟩ => ?_
  subst he
  exact ⟨_, rfl, _, _, _, [], _, [], hW', trodAll_mk1 (shut_bool Try.underlying4 _), (trodAll_cons_mk (Below.trod laidOut (by kernel_rfl) (of_decide_eq_true (by kernel_rfl)) k0 bel lt0) (trodAll_cons_mk (Below.trod laidOut (by kernel_rfl) (of_decide_eq_true (by kernel_rfl)) k1 bel lt1) (trodAll_cons_mk (shut_int Try.underlying3 w2) trodAll_mk0))), rfl, bel.frame _, fun h => by cases h⟩

theorem over : Rows.fileDeleteRow.holds Try.pinned (OpenSpec.ofChange Rows.fileDeleteSpec) :=
  OpenClaim.holds_of_wide 11 Try.f11 rfl rfl rfl rfl rfl rfl rfl ⟨rfl, rfl, rfl, rfl, rfl⟩ rfl rfl rfl rfl rfl (by kernel_rfl) Try.func11 (by kernel_rfl)
    (of_decide_eq_true (by kernel_rfl)) (by unfold Func.isWrapper; first | (rw [if_pos (by decide +kernel)]; kernel_rfl) | (rw [if_neg (by decide +kernel)]; exact ⟨rfl, rfl⟩))
    (fun os started H enc _ => lifted os started H enc)

/--  THE STATEMENT  -/
theorem proved : Rows.FileDeleteSaid := over
#print axioms proved
end Go.Proofs.Ytbhemlddncmmfaa.fileDelete
