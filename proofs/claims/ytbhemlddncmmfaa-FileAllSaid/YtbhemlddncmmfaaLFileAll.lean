/- FileAll: the law FileAll returns true for every input, and each argument reads behind the call as it read before. No condition. The frame is the kit's proof-skeleton. -/
import Derived.Test.YtbhemlddncmmfaaRows
import Derived.WalkKit
import Derived.ProofKit
import Derived.OpenShut
import Derived.ShutString
import Derived.ChangeOld
import Derived.Below
import Derived.Test.YtbhemlddncmmfaaBeg3
import Derived.Test.YtbhemlddncmmfaaDo
namespace Go.Proofs.Ytbhemlddncmmfaa.fileAll
open Go.ChangeShapes Go.WideShapes Go.ChangeAt Go.RowKit Go.Maps
open Go.ChangeMaps (open_string shut_string)
set_option linter.unusedVariables false
set_option linter.unusedSimpArgs false

theorem own : ownKnob Try.prog.godebug = none := by kernel_rfl
theorem laidOut : laidOutB Try.prog = true := by kernel_rfl

theorem wf_bounds {n : Int} (h : (Lit.int .i64 n).wf = true) : -9223372036854775808 ≤ n ∧ n ≤ 9223372036854775807 := by
  simp only [Lit.wf, IntKind.min, IntKind.max, IntKind.signed, IntKind.bits] at h
  simp at h; omega
set_option maxRecDepth 100000 in
set_option maxHeartbeats 4000000 in
theorem walk (a0 : Int) (a1 : Option Addr) (len1 cap1 : Nat) (w : World) (w0 : (Lit.int .i64 a0).wf = true) (w1 : IsOps w a1 len1 cap1) :
    Calls Try.prog 3 #[.int .i64 a0, .slice a1 len1 cap1] w fun e w' => e = .returned (.bool true) ∧ Below w.heap.size w w' := by
  have W1 := Lib.hid w1
  clear w0 w1
  go_enter Try.func3, Try.ntmps3
  go_wp2_with fail
  refine (begun3_any w).mono ?_
  rintro e w1 ⟨rfl, t1⟩
  have T1 := Lib.hid t1; clear t1
  go_wp2_with fail
  refine (dst_new a0 w1).mono ?_
  rintro e w4 ⟨db, mb, rfl, h4⟩
  have H4 := Lib.hid h4; clear h4
  go_wp2_with fail
  refine (two_new H4.out a0 rfl).mono ?_
  rintro e w5 ⟨rb, rfl, h5⟩
  obtain ⟨room, hroom⟩ : ∃ room, roomOf a0 = room := ⟨_, rfl⟩
  rw [hroom] at h5
  have H5 := Lib.hid h5; clear h5 hroom H4
  go_wp2_with fail
  go_loopg [6, 7, 8, 9] 40 (fun g s6 s7 s8 s9 wr => ∃ (j db mb rb : Nat) (M : List FE), j ≤ len1 ∧ j ≤ 40 ∧ g = 40 - j ∧ s9 = .int .i64 j ∧ s8 = .bool true ∧ s6 = .pointer (some ⟨db, 0, none⟩) ∧ s7 = .pointer (some ⟨rb, 0, none⟩) ∧ M.length ≤ j ∧ Hid (Two w1 wr db mb room rb M M []))
  case atStart => exact ⟨0, db, mb, rb, [], by omega, by omega, by omega, rfl, rfl, rfl, rfl, by simp, H5⟩
  case round =>
    clear H5
    obtain ⟨j, db, mb, rb, M, hj1, hj2, hg, rfl, rfl, rfl, rfl, hML, HD⟩ := hrel
    by_cases g1 : j < len1
    · by_cases g2 : j < 40
      · obtain ⟨ob, oo, k, n, s, t, bb, lb, cb, zb, ha, hop⟩ := W1.out.2.2 j g1
        subst ha
        have HOP := Lib.hid (hop.tch0 (T1.out.trans0 HD.out.base))
        clear hop
        obtain ⟨q0, q1, q2, q3, q4, _⟩ := HOP.out
        simp only [addr_add, Nat.add_zero] at q0 q1 q2 q3 q4
        go_wp2_with fail
        have hn := wf_bounds HOP.out.2.2.2.2.2.1
        refine (do_any HD.out k n s t bb lb cb zb HOP.out.2.2.2.2.2.2.2.2 hn.1 hn.2 HOP.out.2.2.2.2.2.2.1 HOP.out.2.2.2.2.2.2.2.1 (by omega)).mono ?_
        rintro e w6 ⟨db', mb', rb', M', rfl, h6, hl6⟩
        have H6 := Lib.hid h6; clear h6 HOP q0 q1 q2 q3 q4 hn
        go_wp2_with fail
        refine (two_same H6.out (by omega)).mono ?_
        rintro e w7 ⟨rfl, h7⟩
        have H7 := Lib.hid h7; clear h7 H6
        go_wp2_with fail
        go_roundg (40 - (j + 1))
        case measure => omega
        case rel => exact ⟨j + 1, db', mb', rb', M', by omega, by omega, rfl, by go_num, rfl, rfl, rfl, by omega, H7⟩
      · go_wp2_with fail
        refine (two_same HD.out (by omega)).mono ?_
        rintro e w7 ⟨rfl, h7⟩
        have H7 := Lib.hid h7; clear h7 HD
        go_wp2_with fail
        go_ret
        exact ⟨rfl, (T1.out.trans0 H7.out.base).below0⟩
    · go_wp2_with fail
      refine (two_same HD.out (by omega)).mono ?_
      rintro e w7 ⟨rfl, h7⟩
      have H7 := Lib.hid h7; clear h7 HD
      go_wp2_with fail
      go_ret
      exact ⟨rfl, (T1.out.trans0 H7.out.base).below0⟩

/-! ### THE ROW's STEP: WRITTEN OUT: LEAVE IT -/
set_option maxRecDepth 100000 in
theorem lifted (os : Os) (started : os.Started) (H : Type) (enc : TypeId × Value → H) :
    ReturnsInHanded {} Try.checked os 3 .any (Rows.fileAllSpec.pre6 enc Try.prog Try.f3 Rows.fileAllRow.domain false) (Rows.fileAllSpec.post enc Try.prog Try.f3 false true false false) := by
  refine returnsInHanded_of_change (C := Try.checked) own started (by kernel_rfl) Try.func3
    (ChangeSpec.witness6 (enc := enc) (C := Try.checked) false ⟨#[], #[.int .i64 0, .slice none 0 0], []⟩ 8 (by kernel_rfl) (by kernel_rfl) (by kernel_rfl) (by kernel_rfl)) ?_
  intro W base args ds gs before hval0 hW hcnd _
  have hval : ∀ (j : Nat) t v, Try.f3.params[j]? = some t → args[j]? = some v → Value.okWide Try.prog W .any base t v := hval0
  have hW' := hW
  obtain ⟨p, q, hA0, hV, rfl, hfz, hnd⟩ := hW
  have hA : DataW.TrodAll enc Try.prog W 0 (fun _ => true) true Try.f3.params.toList args.toList ds p := hA0
  rw [Try.params3] at hA hval
  obtain ⟨v0, vs0, d0, ds0, p0, q0, hargs, rfl, rfl, h0, r0⟩ := trodAll_cons hA
  obtain ⟨v1, vs1, d1, ds1, p1, q1, rfl, rfl, rfl, h1, r1⟩ := trodAll_cons r0
  obtain ⟨rfl, rfl, rfl⟩ := trodAll_nil r1
  obtain rfl : args = #[v0, v1] := by cases args; simp_all
  obtain ⟨rfl, rfl⟩ := trodVars_none hV
  obtain ⟨a0, rfl, rfl, rfl, w0⟩ := open_int Try.underlying3 (hval 0 3 v0 rfl rfl) h0
  obtain ⟨a1, len1, cap1, rfl⟩ := okWide_slice Try.underlying22 (hval 1 22 v1 rfl rfl)
  have k1 := h1
  have lt1 : ∀ x ∈ p1, x.block < W.heap.size := by obtain ⟨m, hm⟩ := k1; exact DataW.trod_lt m _ _ _ hm
  have w1 : IsOps W a1 len1 cap1 := by
    obtain ⟨fuel, hf⟩ := h1
    obtain ⟨_, _, _, hcs, hw⟩ := open_ops hf
    simp [Value.cells] at hcs
    obtain ⟨rfl, rfl, rfl⟩ := hcs
    exact hw
  clear hA0 hval0
  refine (walk a0 a1 len1 cap1 W w0 w1).mono fun e W' ⟨he, bel⟩ => ?_
  subst he
  exact ⟨_, rfl, _, _, _, [], _, [], hW', trodAll_mk1 (shut_bool Try.underlying4 _), (trodAll_cons_mk (shut_int Try.underlying3 w0) (trodAll_cons_mk (Below.trod laidOut (by kernel_rfl) (of_decide_eq_true (by kernel_rfl)) k1 bel lt1) trodAll_mk0)), rfl, bel.frame _, fun h => by cases h⟩

theorem over : Rows.fileAllRow.holds Try.pinned (OpenSpec.ofChange Rows.fileAllSpec) :=
  OpenClaim.holds_of_wide 3 Try.f3 rfl rfl rfl rfl rfl rfl rfl ⟨rfl, rfl, rfl, rfl, rfl⟩ rfl rfl rfl rfl rfl (by kernel_rfl) Try.func3 (by kernel_rfl)
    (of_decide_eq_true (by kernel_rfl)) (by unfold Func.isWrapper; first | (rw [if_pos (by decide +kernel)]; kernel_rfl) | (rw [if_neg (by decide +kernel)]; exact ⟨rfl, rfl⟩))
    (fun os started H enc _ => lifted os started H enc)

/--  THE STATEMENT  -/
theorem proved : Rows.FileAllSaid := over
#print axioms proved
end Go.Proofs.Ytbhemlddncmmfaa.fileAll
