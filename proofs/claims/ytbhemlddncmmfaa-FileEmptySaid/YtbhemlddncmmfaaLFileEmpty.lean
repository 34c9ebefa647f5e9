/- FileEmpty: the law FileEmpty returns true for every input, and each argument reads behind the call as it read before. No condition. The frame is the kit's proof-skeleton. -/
import Derived.Test.YtbhemlddncmmfaaRows
import Derived.WalkKit
import Derived.ProofKit
import Derived.OpenShut
import Derived.ShutString
import Derived.Test.YtbhemlddncmmfaaBeg3
namespace Go.Proofs.Ytbhemlddncmmfaa.fileEmpty
open Go.ChangeShapes Go.WideShapes Go.ChangeAt Go.RowKit Go.Maps
open Go.ChangeMaps (open_string shut_string)
set_option linter.unusedVariables false      -- a walk need not use every 'w<i>' (that an integer argument fits its kind)

theorem own : ownKnob Try.prog.godebug = none := by kernel_rfl

theorem fe1 : mAppend [] (roomOf 10) [102] [] = (0, [⟨[102], [], 0, false⟩]) := rfl
theorem fe2 (n : Int) : stays n ⟨[102], [], 0, true⟩ = 0 ∧ stays n ⟨[103], [], 0, true⟩ = 0 ∧ stays n ⟨[102], [], 0, false⟩ = 0 := by
  simp [stays]
theorem fe3 (n : Int) : mGet (mFall n [⟨[102], [], 0, true⟩]) [102] = some ⟨[102], [], 0, true⟩ := by simp [mFall, fallE, mGet, (fe2 n).1]
theorem fe4 (n : Int) : mGet (mFall n [⟨[103], [], 0, true⟩]) [103] = some ⟨[103], [], 0, true⟩ := by simp [mFall, fallE, mGet, (fe2 n).2.1]
theorem fe5 (n : Int) : mGet (mFall n [⟨[102], [], 0, false⟩]) [102] = none := by simp [mFall, fallE, mGet, (fe2 n).2.2]
set_option maxRecDepth 100000 in
set_option maxHeartbeats 4000000 in
theorem walk (a0 : Int) (a1 : Int) (w0 : (Lit.int .i64 a0).wf = true) (w1 : (Lit.int .i64 a1).wf = true) (w : World) :
    Calls Try.prog 12 #[.int .i64 a0, .int .i64 a1] w fun e w' => e = .returned (.bool true) ∧ Below w.heap.size w w' := by
  have hn : -9223372036854775808 ≤ a1 ∧ a1 ≤ 9223372036854775807 := by
    simp only [Lit.wf, IntKind.min, IntKind.max, IntKind.signed, IntKind.bits] at w1
    simp at w1; omega
  have HN := Lib.hid hn
  clear w0 w1 hn
  obtain ⟨q, hq⟩ : ∃ q, bits .and .i64 a0 3 = q := ⟨_, rfl⟩
  have hnew : Hid _ := dst_newH 10
  go_enter Try.func12, Try.ntmps12
  go_wp2_with fail
  refine (begun3_any w).mono ?_
  rintro e w1 ⟨rfl, t1⟩
  have T1 := Lib.hid t1; clear t1
  go_wp2_with fail
  refine (hnew.out w1 [] (by simp)).mono ?_
  rintro e w4 ⟨db, mb, rfl, h4⟩
  have H4 := Lib.hid h4; clear h4
  go_wp2_with fail
  refine (dst_append H4.out ⟨#[102]⟩ (.slice none 0 0) [] (SlB.nil _) (fun k hk => by simp [Value.ownBlock] at hk) (by decide) (by simp) (by simp)).mono ?_
  rintro e w5 ⟨rfl, h5⟩
  have e5 : mAppend [] (roomOf 10) (ByteArray.mk #[102]).data.toList [] = _ := fe1
  rw [e5] at h5 ⊢
  have H5 := Lib.hid h5; clear h5 e5 H4
  rcases Decidable.em (q = 1) with h1 | h1
  · subst h1
    go_wp2_with fail
    refine (dst_sync H5.out ⟨#[102]⟩ (by decide)).mono ?_
    rintro e w6 ⟨rfl, h6⟩
    have e6 : mSync [⟨[102], [], 0, false⟩] (ByteArray.mk #[102]).data.toList = [⟨[102], [], 0, true⟩] := rfl
    have e6' : (mGet [⟨[102], [], 0, false⟩] (ByteArray.mk #[102]).data.toList).isSome = true := rfl
    try dsimp only at h6
    rw [e6] at h6
    rw [e6']
    have H6 := Lib.hid h6; clear h6 e6 e6' H5
    go_wp2_with fail
    refine (dst_read H6.out ⟨#[102]⟩ (by decide)).mono ?_
    rintro e w7 ⟨x, rfl, h7⟩
    have e7 : mGet [⟨[102], [], 0, true⟩] (ByteArray.mk #[102]).data.toList = some ⟨[102], [], 0, true⟩ := rfl
    try dsimp only at h7
    rw [e7] at h7 ⊢
    have H7 := Lib.hid h7; clear h7 e7 H6
    go_wp2_with fail
    refine (dst_fall H7.out a1 HN.out.1 HN.out.2 (by simp)).mono ?_
    rintro e w8 ⟨dbf, mbf, rfl, h8, g8⟩
    have H8 := Lib.hid h8; have G8 := Lib.hid g8; clear h8 g8 H7
    go_wp2_with fail
    refine (dst_read2 H8.out G8.out ⟨#[102]⟩ (by decide)).mono ?_
    rintro e w9 ⟨y, rfl, h9, _⟩
    have e9 : mGet (mFall a1 [⟨[102], [], 0, true⟩]) (ByteArray.mk #[102]).data.toList = _ := fe3 a1
    rw [e9] at h9 ⊢
    have HF := Lib.hid (T1.out.trans0 h9.base)
    clear h9 e9 H8 G8 T1
    go_wp2
    go_ret
    exact ⟨rfl, HF.out.below0⟩
  · rcases Decidable.em (q = 2) with h2 | h2
    · subst h2
      go_wp2_with fail
      refine (dst_rename H5.out ⟨#[102]⟩ ⟨#[103]⟩ (by decide) (by decide) (by simp)).mono ?_
      rintro e w6 ⟨rfl, h6⟩
      have e6 : mRename [⟨[102], [], 0, false⟩] (ByteArray.mk #[102]).data.toList (ByteArray.mk #[103]).data.toList = (0, [⟨[103], [], 0, true⟩]) := rfl
      try dsimp only at h6 ⊢
      rw [e6] at h6
      have H6 := Lib.hid h6; clear h6 e6 H5
      go_wp2_with fail
      refine (dst_read H6.out ⟨#[103]⟩ (by decide)).mono ?_
      rintro e w7 ⟨x, rfl, h7⟩
      have e7 : mGet [⟨[103], [], 0, true⟩] (ByteArray.mk #[103]).data.toList = some ⟨[103], [], 0, true⟩ := rfl
      try dsimp only at h7
      rw [e7] at h7 ⊢
      have H7 := Lib.hid h7; clear h7 e7 H6
      go_wp2_with fail
      refine (dst_fall H7.out a1 HN.out.1 HN.out.2 (by simp)).mono ?_
      rintro e w8 ⟨dbf, mbf, rfl, h8, g8⟩
      have H8 := Lib.hid h8; have G8 := Lib.hid g8; clear h8 g8 H7
      go_wp2_with fail
      refine (dst_read2 H8.out G8.out ⟨#[103]⟩ (by decide)).mono ?_
      rintro e w9 ⟨y, rfl, h9, _⟩
      have e9 : mGet (mFall a1 [⟨[103], [], 0, true⟩]) (ByteArray.mk #[103]).data.toList = _ := fe4 a1
      rw [e9] at h9 ⊢
      have HF := Lib.hid (T1.out.trans0 h9.base)
      clear h9 e9 H8 G8 T1
      go_wp2
      go_ret
      exact ⟨rfl, HF.out.below0⟩
    · have h1' := h1; have h2' := h2
      go_wp2_with fail
      refine (dst_read H5.out ⟨#[102]⟩ (by decide)).mono ?_
      rintro e w6 ⟨x, rfl, h6⟩
      have e6 : mGet [⟨[102], [], 0, false⟩] (ByteArray.mk #[102]).data.toList = some ⟨[102], [], 0, false⟩ := rfl
      try dsimp only at h6
      rw [e6] at h6 ⊢
      have H6 := Lib.hid h6; clear h6 e6 H5
      go_wp2_with fail
      refine (dst_fall H6.out a1 HN.out.1 HN.out.2 (by simp)).mono ?_
      rintro e w7 ⟨dbf, mbf, rfl, h7, g7⟩
      have H7 := Lib.hid h7; have G7 := Lib.hid g7; clear h7 g7 H6
      go_wp2_with fail
      refine (dst_read2 H7.out G7.out ⟨#[102]⟩ (by decide)).mono ?_
      rintro e w8 ⟨y, rfl, h8, _⟩
      have e8 : mGet (mFall a1 [⟨[102], [], 0, false⟩]) (ByteArray.mk #[102]).data.toList = _ := fe5 a1
      rw [e8] at h8 ⊢
      have HF := Lib.hid (T1.out.trans0 h8.base)
      clear h8 e8 H7 G7 T1
      go_wp2
      go_ret
      exact ⟨rfl, HF.out.below0⟩

/-! ### THE ROW's STEP: WRITTEN OUT: LEAVE IT -/
set_option maxRecDepth 100000 in
theorem lifted (os : Os) (started : os.Started) (H : Type) (enc : TypeId × Value → H) :
    ReturnsInHanded {} Try.checked os 12 .any (Rows.fileEmptySpec.pre6 enc Try.prog Try.f12 Rows.fileEmptyRow.domain false) (Rows.fileEmptySpec.post enc Try.prog Try.f12 false true false false) := by
  refine returnsInHanded_of_change (C := Try.checked) own started (by kernel_rfl) Try.func12
    (ChangeSpec.witness6 (enc := enc) (C := Try.checked) false ⟨#[], #[.int .i64 0, .int .i64 0], []⟩ 8 (by kernel_rfl) (by kernel_rfl) (by kernel_rfl) (by kernel_rfl)) ?_
  intro W base args ds gs before hval0 hW hcnd _
  have hval : ∀ (j : Nat) t v, Try.f12.params[j]? = some t → args[j]? = some v → Value.okWide Try.prog W .any base t v := hval0
  have hW' := hW
  obtain ⟨p, q, hA0, hV, rfl, hfz, hnd⟩ := hW
  have hA : DataW.TrodAll enc Try.prog W 0 (fun _ => true) true Try.f12.params.toList args.toList ds p := hA0
  rw [Try.params12] at hA hval
  obtain ⟨v0, vs0, d0, ds0, p0, q0, hargs, rfl, rfl, h0, r0⟩ := trodAll_cons hA
  obtain ⟨v1, vs1, d1, ds1, p1, q1, rfl, rfl, rfl, h1, r1⟩ := trodAll_cons r0
  obtain ⟨rfl, rfl, rfl⟩ := trodAll_nil r1
  obtain rfl : args = #[v0, v1] := by cases args; simp_all
  obtain ⟨rfl, rfl⟩ := trodVars_none hV
  obtain ⟨a0, rfl, rfl, rfl, w0⟩ := open_int Try.underlying3 (hval 0 3 v0 rfl rfl) h0
  obtain ⟨a1, rfl, rfl, rfl, w1⟩ := open_int Try.underlying3 (hval 1 3 v1 rfl rfl) h1
  clear hA0 hval0
  simp only [List.append_nil] at hW'
  refine (walk a0 a1 w0 w1 W).mono fun e W' ⟨he, hg⟩ => ?_
  subst he
  exact ⟨_, rfl, _, _, _, [], _, [], hW', trodAll_mk1 (shut_bool Try.underlying4 _), (trodAll_cons_mk (shut_int Try.underlying3 w0) (trodAll_cons_mk (shut_int Try.underlying3 w1) trodAll_mk0)), rfl, hg.frame _, fun h => by cases h⟩

theorem over : Rows.fileEmptyRow.holds Try.pinned (OpenSpec.ofChange Rows.fileEmptySpec) :=
  OpenClaim.holds_of_wide 12 Try.f12 rfl rfl rfl rfl rfl rfl rfl ⟨rfl, rfl, rfl, rfl, rfl⟩ rfl rfl rfl rfl rfl (by kernel_rfl) Try.func12 (by kernel_rfl)
    (of_decide_eq_true (by kernel_rfl)) (by unfold Func.isWrapper; first | (rw [if_pos (by decide +kernel)]; kernel_rfl) | (rw [if_neg (by decide +kernel)]; exact ⟨rfl, rfl⟩))
    (fun os started H enc _ => lifted os started H enc)

/--  THE STATEMENT  -/
theorem proved : Rows.FileEmptySaid :=
  over
#print axioms proved
end Go.Proofs.Ytbhemlddncmmfaa.fileEmpty
