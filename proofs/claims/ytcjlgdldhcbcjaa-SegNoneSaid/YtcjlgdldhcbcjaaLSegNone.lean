/- SegNone: the law SegNone returns true for every input, and each argument reads behind the call as it read before. No condition. The frame is the kit's proof-skeleton. -/
import Derived.Test.YtcjlgdldhcbcjaaRows
import Derived.WalkKit
import Derived.ProofKit
import Derived.OpenShut
import Derived.ShutString
import Derived.Test.YtcjlgdldhcbcjaaBeg3
import Derived.Test.YtcjlgdldhcbcjaaBeg4
namespace Go.Proofs.Ytcjlgdldhcbcjaa.segNone
open Go.ChangeShapes Go.WideShapes Go.ChangeAt Go.RowKit Go.Maps
open Go.ChangeMaps (open_string shut_string)
set_option linter.unusedVariables false      -- a walk need not use every 'w<i>' (that an integer argument fits its kind)

theorem own : ownKnob Try.prog.godebug = none := by kernel_rfl

theorem all_nil (w : World) : Calls Try.prog 30 #[.pointer none] w fun e w' => e = .returned (.slice none 0 0) ∧ w = w' := by
  go_enter Try.func30, Try.ntmps30
  go_wp2
  go_ret
  exact ⟨rfl, rfl⟩
theorem add_nil (v : Value) (w : World) : Calls Try.prog 25 #[.pointer none, v] w fun e w' => e = .returned (.int .i64 7) ∧ w = w' := by
  go_enter Try.func25, Try.ntmps25
  go_wp2
  go_ret
  exact ⟨rfl, rfl⟩
theorem force_nil (w : World) : Calls Try.prog 32 #[.pointer none] w fun e w' => e = .returned (.int .i64 7) ∧ w = w' := by
  go_enter Try.func32, Try.ntmps32
  go_wp2
  go_ret
  exact ⟨rfl, rfl⟩
theorem at_nil (w : World) : Calls Try.prog 28 #[.pointer none] w fun e w' => e = .returned (.int .i64 0) ∧ w = w' := by
  go_enter Try.func28, Try.ntmps28
  go_wp2
  go_ret
  exact ⟨rfl, rfl⟩
theorem next_nil (w : World) : Calls Try.prog 34 #[.pointer none] w fun e w' => e = .returned (.int .i64 7) ∧ w = w' := by
  go_enter Try.func34, Try.ntmps34
  go_wp2_with fail
  refine (force_nil w).mono ?_
  rintro e w1 ⟨rfl, rfl⟩
  go_wp2
  go_ret
  exact ⟨rfl, rfl⟩
theorem forget_nil (n : Int) (w : World) : Calls Try.prog 36 #[.pointer none, .int .i64 n] w fun e w' => e = .returned (.int .i64 7) ∧ w = w' := by
  go_enter Try.func36, Try.ntmps36
  go_wp2
  go_ret
  exact ⟨rfl, rfl⟩
theorem new_range (n : Nat) (f : Int) (hf : f < 0 ∨ 999 < f) {w : World} {db mb : Nat} (h : DK w db mb n [] (K0 w)) : Calls Try.prog 24 #[.pointer (some ⟨db, 0, none⟩), .int .i64 f] w fun e w' => e = .returned (.tuple #[.pointer none, .int .i64 4]) ∧ w = w' := open_range h f hf
set_option maxRecDepth 100000 in
set_option maxHeartbeats 4000000 in
theorem walk  (w : World) :
    Calls Try.prog 15 #[] w fun e w' => e = .returned (.bool true) ∧ Below w.heap.size w w' := by
  have kc := fun (w : World) (C : Array Value) (n c : Nat) => Lib.run_convert_bytes_const (P := Try.prog) w 22 5 C n c Try.underlying22 Try.underlying5
  have hnew := Lib.hid (dk_new (K := K0 w) 10 w (fun k hk => hk))
  go_enter Try.func15, Try.ntmps15
  go_wp2_with fail
  refine hnew.out.mono ?_
  rintro e w1 ⟨db, mb, rfl, d1, t1⟩
  have D1 := Lib.hid d1; have T1 := Lib.hid t1; clear d1 t1 hnew
  go_wp2_with fail
  refine (open_range D1.out 1000 (by omega)).mono ?_
  rintro e w2 ⟨rfl, rfl⟩
  have hnew := Lib.hid (dk_new (K := K0 w1) 10 w1 (fun k hk => hk))
  go_wp2_with fail
  refine hnew.out.mono ?_
  rintro e w3 ⟨db3, mb3, rfl, d3, t3⟩
  have D3 := Lib.hid d3; have T3 := Lib.hid (T1.out.trans0 t3); clear d3 t3 hnew
  go_wp2_with fail
  refine (open_range D3.out (-1) (by omega)).mono ?_
  rintro e w4 ⟨rfl, rfl⟩
  clear D1 D3 T1
  go_wp2_with fail
  refine (begun4_any _).mono ?_
  rintro e w5 ⟨rfl, t5⟩
  have T5 := Lib.hid (T3.out.trans0 t5); clear t5 T3
  have hno := frame_no (.slice none 0 0) []
  have heq := fun (w : World) (a : Option Addr) (n c : Nat) => Lib.run_eql_slice_nil (P := Try.prog) w 22 5 a n c 0 0 Try.underlying22
  go_wp2_with (first
    | (go_at_call 30; go_must (refine (all_nil _).mono ?_); rintro e wq ⟨rfl, rfl⟩)
    | (go_at_call 25; go_must (refine (add_nil _ _).mono ?_); rintro e wq ⟨rfl, rfl⟩)
    | (go_at_call 32; go_must (refine (force_nil _).mono ?_); rintro e wq ⟨rfl, rfl⟩)
    | (go_at_call 28; go_must (refine (at_nil _).mono ?_); rintro e wq ⟨rfl, rfl⟩)
    | (go_at_call 34; go_must (refine (next_nil _).mono ?_); rintro e wq ⟨rfl, rfl⟩)
    | (go_at_call 36; go_must (refine (forget_nil _ _).mono ?_); rintro e wq ⟨rfl, rfl⟩)
    | (go_at_call 18; go_must (refine (frame_no (.slice none 0 0) [] _ (SlB.nil _) (by unfold fits; simp)).mono ?_); rintro e wq ⟨rfl, rfl⟩))
  go_ret
  exact ⟨rfl, (T5.out.trans0 (Tch.alloc _ _)).below0⟩

/-! ### THE ROW's STEP: WRITTEN OUT: LEAVE IT -/
set_option maxRecDepth 100000 in
theorem lifted (os : Os) (started : os.Started) (H : Type) (enc : TypeId × Value → H) :
    ReturnsInHanded {} Try.checked os 15 .any (Rows.segNoneSpec.pre6 enc Try.prog Try.f15 Rows.segNoneRow.domain false) (Rows.segNoneSpec.post enc Try.prog Try.f15 false true false false) := by
  refine returnsInHanded_of_change (C := Try.checked) own started (by kernel_rfl) Try.func15
    (ChangeSpec.witness6 (enc := enc) (C := Try.checked) false ⟨#[], #[], []⟩ 8 (by kernel_rfl) (by kernel_rfl) (by kernel_rfl) (by kernel_rfl)) ?_
  intro W base args ds gs before hval0 hW hcnd _
  have hval : ∀ (j : Nat) t v, Try.f15.params[j]? = some t → args[j]? = some v → Value.okWide Try.prog W .any base t v := hval0
  have hW' := hW
  obtain ⟨p, q, hA0, hV, rfl, hfz, hnd⟩ := hW
  have hA : DataW.TrodAll enc Try.prog W 0 (fun _ => true) true Try.f15.params.toList args.toList ds p := hA0
  rw [Try.params15] at hA hval
  obtain ⟨rfl, rfl, rfl⟩ := trodAll_none hA
  obtain ⟨rfl, rfl⟩ := trodVars_none hV
  clear hA0 hval0
  simp only [List.append_nil] at hW'
  refine (walk  W).mono fun e W' ⟨he, hg⟩ => ?_
  subst he
  exact ⟨_, rfl, _, _, _, [], _, [], hW', trodAll_mk1 (shut_bool Try.underlying4 _), trodAll_mk0, rfl, hg.frame _, fun h => by cases h⟩

theorem over : Rows.segNoneRow.holds Try.pinned (OpenSpec.ofChange Rows.segNoneSpec) :=
  OpenClaim.holds_of_wide 15 Try.f15 rfl rfl rfl rfl rfl rfl rfl ⟨rfl, rfl, rfl, rfl, rfl⟩ rfl rfl rfl rfl rfl (by kernel_rfl) Try.func15 (by kernel_rfl)
    (of_decide_eq_true (by kernel_rfl)) (by unfold Func.isWrapper; first | (rw [if_pos (by decide +kernel)]; kernel_rfl) | (rw [if_neg (by decide +kernel)]; exact ⟨rfl, rfl⟩))
    (fun os started H enc _ => lifted os started H enc)

/--  THE STATEMENT  -/
theorem proved : Rows.SegNoneSaid :=
  over
#print axioms proved
end Go.Proofs.Ytcjlgdldhcbcjaa.segNone
