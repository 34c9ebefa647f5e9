/- FileNames: the law FileNames returns true for every input, and each argument reads behind the call as it read before. No condition. The frame is the kit's proof-skeleton. -/
import Derived.Test.YtbhemlddncmmfaaRows
import Derived.WalkKit
import Derived.ProofKit
import Derived.OpenShut
import Derived.ShutString
import Derived.Test.YtbhemlddncmmfaaBeg3
import Derived.Test.YtbhemlddncmmfaaTwo
namespace Go.Proofs.Ytbhemlddncmmfaa.fileNames
open Go.ChangeShapes Go.WideShapes Go.ChangeAt Go.RowKit Go.Maps
open Go.ChangeMaps (open_string shut_string)
set_option linter.unusedVariables false      -- a walk need not use every 'w<i>' (that an integer argument fits its kind)

theorem own : ownKnob Try.prog.godebug = none := by kernel_rfl

theorem one_strc (W : World) (c : UInt8) : (convert 30 9 (.slice (some ⟨W.heap.size, 0, none⟩) 1 1)).run Try.prog (W.alloc (.cells #[.int .u8 (c.toNat : Int)] 5)) = .ok (.string ⟨#[c]⟩) (W.alloc (.cells #[.int .u8 (c.toNat : Int)] 5)) :=
  (SlB.one W c 5).str (P := Try.prog) Try.underlying30 Try.underlying5 Try.underlying9
def nmT (s : ByteArray) (c : UInt8) : ByteArray := cutB s 15 ++ ⟨#[c]⟩
theorem cutB_sz (s : ByteArray) (n : Nat) : (cutB s n).size ≤ n := by
  unfold cutB
  simp [ByteArray.size_extract]; omega
theorem add_t {P : Program} (W : World) (s : ByteArray) (c : UInt8) : (Op.stringOp .add (cutB s 15) ⟨#[c]⟩).run P W = .ok (.string (nmT s c)) W := by
  have := cutB_sz s 15
  rw [run_string_add (P := P) (w := W) (cutB s 15) ⟨#[c]⟩ (by omega) (by have h1 : (⟨#[c]⟩ : ByteArray).size = 1 := rfl; omega)]
  rfl
theorem nmT_size (s : ByteArray) (c : UInt8) : (nmT s c).size ≤ 16 := by
  have := cutB_sz s 15
  unfold nmT
  rw [ByteArray.size_append]
  have h1 : (⟨#[c]⟩ : ByteArray).size = 1 := rfl
  omega
theorem sz_len (s : ByteArray) : s.data.toList.length = s.size := Array.length_toList (xs := s.data)
set_option maxRecDepth 100000 in
set_option maxHeartbeats 4000000 in
theorem walk (a0 : ByteArray) (a1 : Int) (w0 : a0.size ≤ maxLen) (w1 : (Lit.int .u8 a1).wf = true) (w : World) :
    Calls Try.prog 6 #[.string a0, .int .u8 a1] w fun e w' => e = .returned (.bool true) ∧ Below w.heap.size w w' := by
  obtain ⟨c, hc⟩ : ∃ c : UInt8, (c.toNat : Int) = a1 := ⟨_, bytesOf_at w1⟩
  subst hc
  have W0 := Lib.hid w0
  have hcut := Lib.hid (fun W => cut_any a0 15 W (by omega) W0.out)
  have hone := fun W => one_strc W c
  have hadd := fun W : World => add_t (P := Try.prog) W a0 c
  have hs1 := cutB_sz a0 15
  have hs2 := nmT_size a0 c
  obtain ⟨s1, hs1'⟩ : ∃ s1, cutB a0 15 = s1 := ⟨_, rfl⟩
  obtain ⟨s2, hs2'⟩ : ∃ s2, nmT a0 c = s2 := ⟨_, rfl⟩
  rw [hs1'] at hs1 hcut
  rw [hs2'] at hs2
  simp only [hs1', hs2'] at hadd
  have S1 : Hid (s1.data.toList.length ≤ lim) := by rw [Hid, sz_len]; unfold lim; omega
  have S2 : Hid (s2.data.toList.length ≤ lim) := by rw [Hid, sz_len]; unfold lim; omega
  have S3 : Hid (s1.size ≤ maxLen) := by rw [Hid]; unfold maxLen; omega
  clear w0 w1 hs1' hs2' hs1 hs2
  go_enter Try.func6, Try.ntmps6
  go_wp2_with fail
  refine (begun3_any w).mono ?_
  rintro e w1 ⟨rfl, t1⟩
  have T1 := Lib.hid t1; clear t1
  have hnew := Lib.hid (dst_new (10) w1)
  rw [show roomOf 10 = 10 by rfl] at hnew
  go_wp2_with fail
  refine (hcut.out _).mono ?_
  rintro e w' ⟨rfl, rfl⟩
  go_wp2_with fail
  refine hnew.out.mono ?_
  rintro e w4 ⟨db, mb, rfl, h4⟩
  have H4 := Lib.hid h4; clear h4
  go_wp2_with fail
  refine (two_new (H4.out.keep (Tch.alloc _ _)) 10 (by rfl)).mono ?_
  rintro e w5 ⟨rb, rfl, h5⟩
  have H5 := Lib.hid (two_nil h5); clear h5 H4 hone hadd hnew hcut
  go_wp2_with fail
  refine (two_fappend H5.out s1 (.slice none 0 0) [] (by simp) S1.out (by simp) (by simp)).mono ?_
  rintro e w6 ⟨rfl, h6⟩
  have H6 := Lib.hid h6; clear h6 H5
  go_wp2_with fail
  refine (two_rappend H6.out s1 (.slice none 0 0) [] (by simp) S1.out (by simp) (by simp)).mono ?_
  rintro e w7 ⟨rfl, h7⟩
  have L7 := lenA [] 10 s1.data.toList []
  obtain ⟨M1, hM1⟩ : ∃ M1, mAppend [] 10 s1.data.toList [] = M1 := ⟨_, rfl⟩
  rw [hM1] at h7 L7 ⊢
  have H7 := Lib.hid h7; clear h7 H6 hM1
  simp only [List.length_nil] at L7
  go_wp2_with fail
  refine (two_fappend H7.out s2 (.slice none 0 0) [] (by simp) S2.out (by omega) (by simp)).mono ?_
  rintro e w8 ⟨rfl, h8⟩
  have H8 := Lib.hid h8; clear h8 H7
  go_wp2_with fail
  refine (two_rappend H8.out s2 (.slice none 0 0) [] (by simp) S2.out (by omega) (by simp)).mono ?_
  rintro e w9 ⟨rfl, h9⟩
  have L9 := lenA M1.2 10 s2.data.toList []
  obtain ⟨M2, hM2⟩ : ∃ M2, mAppend M1.2 10 s2.data.toList [] = M2 := ⟨_, rfl⟩
  rw [hM2] at h9 L9 ⊢
  have H9 := Lib.hid h9; clear h9 H8 hM2
  go_wp2_with fail
  refine (two_frename H9.out s1 s2 S3.out S2.out (by omega)).mono ?_
  rintro e w10 ⟨rfl, h10⟩
  have H10 := Lib.hid h10; clear h10 H9
  go_wp2_with fail
  refine (two_rrename H10.out s1 s2 S2.out (by omega)).mono ?_
  rintro e w11 ⟨rfl, h11⟩
  have L11 := lenR M2.2 s1.data.toList s2.data.toList
  obtain ⟨M3, hM3⟩ : ∃ M3, mRename M2.2 s1.data.toList s2.data.toList = M3 := ⟨_, rfl⟩
  rw [hM3] at h11 L11 ⊢
  have H11 := Lib.hid h11; clear h11 H10 hM3
  go_wp2_with fail
  refine (two_same H11.out (by omega)).mono ?_
  rintro e w12 ⟨rfl, h12⟩
  have HF := Lib.hid (T1.out.trans0 h12.base)
  clear h12 H11
  go_wp2
  go_ret
  exact ⟨rfl, HF.out.below0⟩

/-! ### THE ROW's STEP: WRITTEN OUT: LEAVE IT -/
set_option maxRecDepth 100000 in
theorem lifted (os : Os) (started : os.Started) (H : Type) (enc : TypeId × Value → H) :
    ReturnsInHanded {} Try.checked os 6 .any (Rows.fileNamesSpec.pre6 enc Try.prog Try.f6 Rows.fileNamesRow.domain false) (Rows.fileNamesSpec.post enc Try.prog Try.f6 false true false false) := by
  refine returnsInHanded_of_change (C := Try.checked) own started (by kernel_rfl) Try.func6
    (ChangeSpec.witness6 (enc := enc) (C := Try.checked) false ⟨#[], #[.string ByteArray.empty, .int .u8 0], []⟩ 8 (by kernel_rfl) (by kernel_rfl) (by kernel_rfl) (by kernel_rfl)) ?_
  intro W base args ds gs before hval0 hW hcnd _
  have hval : ∀ (j : Nat) t v, Try.f6.params[j]? = some t → args[j]? = some v → Value.okWide Try.prog W .any base t v := hval0
  have hW' := hW
  obtain ⟨p, q, hA0, hV, rfl, hfz, hnd⟩ := hW
  have hA : DataW.TrodAll enc Try.prog W 0 (fun _ => true) true Try.f6.params.toList args.toList ds p := hA0
  rw [Try.params6] at hA hval
  obtain ⟨v0, vs0, d0, ds0, p0, q0, hargs, rfl, rfl, h0, r0⟩ := trodAll_cons hA
  obtain ⟨v1, vs1, d1, ds1, p1, q1, rfl, rfl, rfl, h1, r1⟩ := trodAll_cons r0
  obtain ⟨rfl, rfl, rfl⟩ := trodAll_nil r1
  obtain rfl : args = #[v0, v1] := by cases args; simp_all
  obtain ⟨rfl, rfl⟩ := trodVars_none hV
  obtain ⟨a0, rfl, rfl, rfl, w0⟩ := open_string Try.underlying9 (hval 0 9 v0 rfl rfl) h0
  obtain ⟨a1, rfl, rfl, rfl, w1⟩ := open_int Try.underlying5 (hval 1 5 v1 rfl rfl) h1
  clear hA0 hval0
  simp only [List.append_nil] at hW'
  refine (walk a0 a1 w0 w1 W).mono fun e W' ⟨he, hg⟩ => ?_
  subst he
  exact ⟨_, rfl, _, _, _, [], _, [], hW', trodAll_mk1 (shut_bool Try.underlying4 _), (trodAll_cons_mk (shut_string Try.underlying9 w0) (trodAll_cons_mk (shut_int Try.underlying5 w1) trodAll_mk0)), rfl, hg.frame _, fun h => by cases h⟩

theorem over : Rows.fileNamesRow.holds Try.pinned (OpenSpec.ofChange Rows.fileNamesSpec) :=
  OpenClaim.holds_of_wide 6 Try.f6 rfl rfl rfl rfl rfl rfl rfl ⟨rfl, rfl, rfl, rfl, rfl⟩ rfl rfl rfl rfl rfl (by kernel_rfl) Try.func6 (by kernel_rfl)
    (of_decide_eq_true (by kernel_rfl)) (by unfold Func.isWrapper; first | (rw [if_pos (by decide +kernel)]; kernel_rfl) | (rw [if_neg (by decide +kernel)]; exact ⟨rfl, rfl⟩))
    (fun os started H enc _ => lifted os started H enc)

/--  THE STATEMENT  -/
theorem proved : Rows.FileNamesSaid :=
  over
#print axioms proved
end Go.Proofs.Ytbhemlddncmmfaa.fileNames
