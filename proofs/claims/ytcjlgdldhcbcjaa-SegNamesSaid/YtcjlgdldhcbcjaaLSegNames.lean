/- SegNames: the law SegNames returns true for every input, and each argument reads behind the call as it read before. No condition. The frame is the kit's proof-skeleton. -/
import Derived.Test.YtcjlgdldhcbcjaaRows
import Derived.WalkKit
import Derived.ProofKit
import Derived.OpenShut
import Derived.ShutString
import Derived.Test.YtcjlgdldhcbcjaaBeg3
import Derived.Test.YtcjlgdldhcbcjaaBeg4
namespace Go.Proofs.Ytcjlgdldhcbcjaa.segNames
open Go.ChangeShapes Go.WideShapes Go.ChangeAt Go.RowKit Go.Maps
open Go.ChangeMaps (open_string shut_string)
set_option linter.unusedVariables false      -- a walk need not use every 'w<i>' (that an integer argument fits its kind)

theorem own : ownKnob Try.prog.godebug = none := by kernel_rfl

theorem wf_bounds {n : Int} (h : (Lit.int .i64 n).wf = true) : -9223372036854775808 ≤ n ∧ n ≤ 9223372036854775807 := by
  simp only [Lit.wf, IntKind.min, IntKind.max, IntKind.signed, IntKind.bits] at h
  simp at h; omega
theorem conv_keep (n : Nat) (hn : n ≤ 999) (w W w2 : World) (t : Tch No W w2) (h0 : Tch No (w.alloc (.cells #[.int .u8 (48 + (n : Int) / 100), .int .u8 (48 + (n : Int) / 10 % 10), .int .u8 (48 + (n : Int) % 10)] 5)) W) : (convert 22 9 (.slice (some ⟨w.heap.size, 0, none⟩) 3 3)).run Try.prog w2 = .ok (.string ⟨(dig3 n).toArray⟩) w2 := by
  have h1 : ((UInt8.ofNat (48 + n / 100)).toNat : Int) = 48 + (n : Int) / 100 := by simp; omega
  have h2 : ((UInt8.ofNat (48 + n / 10 % 10)).toNat : Int) = 48 + (n : Int) / 10 % 10 := by simp; omega
  have h3 : ((UInt8.ofNat (48 + n % 10)).toNat : Int) = 48 + (n : Int) % 10 := by simp; omega
  have hC : (#[.int .u8 (48 + (n : Int) / 100), .int .u8 (48 + (n : Int) / 10 % 10), .int .u8 (48 + (n : Int) % 10)] : Array Value) = (u8s (dig3 n)).toArray := by
    simp only [dig3, u8s, List.map_cons, List.map_nil, h1, h2, h3]
  exact str_of (((SlB.lit w _ (dig3 n) 3 5 (0, 0) rfl hC (by simp [lim])).tch0 h0).tch0 t)
set_option maxRecDepth 100000 in
set_option maxHeartbeats 4000000 in
theorem walk (a0 : Int) (w0 : (Lit.int .i64 a0).wf = true) (w : World) :
    Calls Try.prog 5 #[.int .i64 a0] w fun e w' => e = .returned (.bool true) ∧ Below w.heap.size w w' := by
  have hb := wf_bounds w0
  clear w0
  by_cases hout : a0 < 0 ∨ 999 < a0
  · have hn := Lib.hid (fun W => name_out a0 hout W)
    have hd : (decide (a0 < 0) || decide (999 < a0)) = true := by simpa using hout
    rcases hout with p | p
    · go_enter Try.func5, Try.ntmps5
      go_wp2_with fail
      refine (begun4_any w).mono ?_
      rintro e w1 ⟨rfl, t1⟩
      have T1 := Lib.hid t1; clear t1
      go_wp2_with fail
      refine (hn.out w1).mono ?_
      rintro e w2 ⟨rfl, rfl⟩
      go_wp2_with fail
      go_ret
      exact ⟨rfl, T1.out.below0⟩
    · have p0 : ¬ a0 < 0 := by omega
      go_enter Try.func5, Try.ntmps5
      go_wp2_with fail
      refine (begun4_any w).mono ?_
      rintro e w1 ⟨rfl, t1⟩
      have T1 := Lib.hid t1; clear t1
      go_wp2_with fail
      refine (hn.out w1).mono ?_
      rintro e w2 ⟨rfl, rfl⟩
      go_wp2_with fail
      go_ret
      exact ⟨rfl, T1.out.below0⟩
  · obtain ⟨n, rfl⟩ : ∃ n : Nat, a0 = (n : Int) := ⟨a0.toNat, by omega⟩
    have p1 : ¬ (n : Int) < 0 := by omega
    have p2 : ¬ 999 < (n : Int) := by omega
    have p3 : (0 : Int) ≤ (n : Int) := by omega
    have p4 : (n : Int) ≤ 999 := by omega
    have hn9 : n ≤ 999 := by omega
    have hcv := fun W => conv_name n hn9 W
    have hcv2 := fun W : World => conv_keep n hn9 W (W.alloc (.cells #[.int .u8 (48 + (n : Int) / 100), .int .u8 (48 + (n : Int) / 10 % 10), .int .u8 (48 + (n : Int) % 10)] 5)) (W.alloc (.cells #[.int .u8 (48 + (n : Int) / 100), .int .u8 (48 + (n : Int) / 10 % 10), .int .u8 (48 + (n : Int) % 10)] 5)).drew (Tch.drew _) (Tch.refl _ _)
    have had := fun W => add_name (P := Try.prog) n W
    have i64 := fun (x : Int) (h : 0 ≤ x ∧ x ≤ 1047) => (IntWalk.i64_in x ⟨by omega, by omega⟩ : IntKind.i64.wrap x = x)
    have E1 : IntKind.i64.wrap ((n : Int) / 100) = (n : Int) / 100 := i64 _ (by omega)
    have E2 : IntKind.i64.wrap (48 + (n : Int) / 100) = 48 + (n : Int) / 100 := i64 _ (by omega)
    have E3 : IntKind.u8.wrap (48 + (n : Int) / 100) = 48 + (n : Int) / 100 := IntWalk.u8_in _ ⟨by omega, by omega⟩
    have E4 : IntKind.i64.wrap ((n : Int) / 10) = (n : Int) / 10 := i64 _ (by omega)
    have E5 : IntKind.i64.wrap ((n : Int) / 10 % 10) = (n : Int) / 10 % 10 := i64 _ (by omega)
    have E6 : IntKind.i64.wrap (48 + (n : Int) / 10 % 10) = 48 + (n : Int) / 10 % 10 := i64 _ (by omega)
    have E7 : IntKind.u8.wrap (48 + (n : Int) / 10 % 10) = 48 + (n : Int) / 10 % 10 := IntWalk.u8_in _ ⟨by omega, by omega⟩
    have E8 : IntKind.i64.wrap ((n : Int) % 10) = (n : Int) % 10 := i64 _ (by omega)
    have E9 : IntKind.i64.wrap (48 + (n : Int) % 10) = 48 + (n : Int) % 10 := i64 _ (by omega)
    have E10 : IntKind.u8.wrap (48 + (n : Int) % 10) = 48 + (n : Int) % 10 := IntWalk.u8_in _ ⟨by omega, by omega⟩
    have M1 : ((n : Int) / 10).tmod 10 = (n : Int) / 10 % 10 := Int.tmod_eq_emod_of_nonneg (by omega)
    have M2 : (n : Int).tmod 10 = (n : Int) % 10 := Int.tmod_eq_emod_of_nonneg (by omega)
    clear hout hb i64
    go_enter Try.func5, Try.ntmps5
    go_wp2_with fail
    refine (begun4_any w).mono ?_
    rintro e w1 ⟨rfl, t1⟩
    have T1 := Lib.hid t1; clear t1
    go_wp2_with fail
    go_region_with (go_at_call 22; go_loud (refine (name_any n hn9 _).mono ?_; rintro e w2 ⟨rfl, t2⟩; first | (have y2 := conv_keep n hn9 w1 _ w2 t2 ⟨rfl, rfl, rfl, Nat.le_refl _, fun _ _ _ => rfl⟩) | skip))
    all_goals
      go_wp2_with fail
      go_ret
      first | exact ⟨rfl, (T1.out.trans0 (((Tch.drew w1).trans0 t2).trans0 (Tch.alloc _ _))).below0⟩ | exact ⟨rfl, (T1.out.trans0 (((Tch.alloc w1 _).trans0 (Tch.drew _)).trans0 t2)).below0⟩

/-! ### THE ROW's STEP: WRITTEN OUT: LEAVE IT -/
set_option maxRecDepth 100000 in
theorem lifted (os : Os) (started : os.Started) (H : Type) (enc : TypeId × Value → H) :
    ReturnsInHanded {} Try.checked os 5 .any (Rows.segNamesSpec.pre6 enc Try.prog Try.f5 Rows.segNamesRow.domain false) (Rows.segNamesSpec.post enc Try.prog Try.f5 false true false false) := by
  refine returnsInHanded_of_change (C := Try.checked) own started (by kernel_rfl) Try.func5
    (ChangeSpec.witness6 (enc := enc) (C := Try.checked) false ⟨#[], #[.int .i64 0], []⟩ 8 (by kernel_rfl) (by kernel_rfl) (by kernel_rfl) (by kernel_rfl)) ?_
  intro W base args ds gs before hval0 hW hcnd _
  have hval : ∀ (j : Nat) t v, Try.f5.params[j]? = some t → args[j]? = some v → Value.okWide Try.prog W .any base t v := hval0
  have hW' := hW
  obtain ⟨p, q, hA0, hV, rfl, hfz, hnd⟩ := hW
  have hA : DataW.TrodAll enc Try.prog W 0 (fun _ => true) true Try.f5.params.toList args.toList ds p := hA0
  rw [Try.params5] at hA hval
  obtain ⟨v0, vs0, d0, ds0, p0, q0, hargs, rfl, rfl, h0, r0⟩ := trodAll_cons hA
  obtain ⟨rfl, rfl, rfl⟩ := trodAll_nil r0
  obtain rfl : args = #[v0] := by cases args; simp_all
  obtain ⟨rfl, rfl⟩ := trodVars_none hV
  obtain ⟨a0, rfl, rfl, rfl, w0⟩ := open_int Try.underlying3 (hval 0 3 v0 rfl rfl) h0
  clear hA0 hval0
  simp only [List.append_nil] at hW'
  refine (walk a0 w0 W).mono fun e W' ⟨he, hg⟩ => ?_
  subst he
  exact ⟨_, rfl, _, _, _, [], _, [], hW', trodAll_mk1 (shut_bool Try.underlying4 _), (trodAll_cons_mk (shut_int Try.underlying3 w0) trodAll_mk0), rfl, hg.frame _, fun h => by cases h⟩

theorem over : Rows.segNamesRow.holds Try.pinned (OpenSpec.ofChange Rows.segNamesSpec) :=
  OpenClaim.holds_of_wide 5 Try.f5 rfl rfl rfl rfl rfl rfl rfl ⟨rfl, rfl, rfl, rfl, rfl⟩ rfl rfl rfl rfl rfl (by kernel_rfl) Try.func5 (by kernel_rfl)
    (of_decide_eq_true (by kernel_rfl)) (by unfold Func.isWrapper; first | (rw [if_pos (by decide +kernel)]; kernel_rfl) | (rw [if_neg (by decide +kernel)]; exact ⟨rfl, rfl⟩))
    (fun os started H enc _ => lifted os started H enc)

/--  THE STATEMENT  -/
theorem proved : Rows.SegNamesSaid :=
  over
#print axioms proved
end Go.Proofs.Ytcjlgdldhcbcjaa.segNames
