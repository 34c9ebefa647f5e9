/- WhereLong: the law WhereLong returns true for every input, and each argument reads behind the call as it read before. No condition. -/
import Derived.Test.YtafndmnbnmlklaaGreatPWhereLong02
import Derived.Test.YtafndmnbnmlklaaGreatPWhereLong03
import Derived.Test.YtafndmnbnmlklaaGreatPWhereLong04
import Derived.Test.YtafndmnbnmlklaaGreatPWhereLong13
import Derived.Test.YtafndmnbnmlklaaGreatRows
import Derived.WalkKit
import Derived.ProofKit
import Derived.OpenShut
import Derived.ShutString
import Derived.ChangeOld
import Derived.Below
import Derived.SizedLaws
namespace Go.Proofs.YtafndmnbnmlklaaGreat.whereLong
open Go.ChangeShapes Go.WideShapes Go.ChangeAt Go.RowKit Go.Maps
open Go.ChangeMaps (open_string shut_string)
set_option linter.unusedVariables false
set_option linter.unusedSimpArgs false

theorem own : ownKnob Tryz.prog.godebug = none := by kernel_rfl
theorem laidOut : laidOutB Tryz.prog = true := by kernel_rfl

theorem alen (s : StM) : (allM s).length = if 10000 < s.nid then 0 else (s.nid - 1).toNat := by
  unfold allM
  split
  · rfl
  · exact allPl_len _ _ _
set_option maxRecDepth 100000 in
set_option maxHeartbeats 8000000 in
theorem walk (a0 : Int) (w : World) (w0 : (Lit.int .i64 a0).wf = true) :
  Calls Tryz.prog 12 #[.int .i64 a0] w fun e w' => e = .returned (.bool true) /\ Below w.heap.size w w' := by
 have HW := Lib.hid w0
 clear w0
 go_enter Tryz.func12, Tryz.ntmps12
 go_wp2_with fail
 refine (begun26_any w).mono ?_
 rintro e wa ⟨rfl, ta⟩
 have TA := Lib.hid ta
 clear ta
 by_cases h1 : a0 < 1
 ·go_wp2_with fail
  go_ret
  exact ⟨rfl, TA.out.below0⟩
 ·by_cases h2 : 4294967296 < a0
  ·go_wp2_with fail
   go_ret
   exact ⟨rfl, TA.out.below0⟩
  ·obtain ⟨s2, hs2⟩ : ∃ s, newM 2 = s := ⟨_, rfl⟩
   have hbr : s2.broker = 2 := by rw [<- hs2]; rfl
   have HBR := Lib.hid hbr
   have HA0 : Hid (1 <= a0 /\ a0 <= 4294967296) := by rw [Hid]; omega
   go_wp2_with fail
   refine (rnew_any 2 _).mono ?_
   rintro e w2 ⟨v2, rfl, i2, t2⟩
   rw [hs2] at i2
   have T2 := Lib.hid (TA.out.trans0 t2)
   have V2 := Lib.hid (StW.of i2)
   clear i2 t2 hs2 hbr
   go_upto_region 8 with (first | (refine SX.new V2.out (G' := fun q => q = w2.heap.size) (fun k hk e => absurd hk (by omega)) rfl rfl rfl rfl rfl ?_; intro w6 S6 T6) | (refine SX.st1 S6.out a0 rfl rfl ?_; intro w7 S7 T7))
   obtain ⟨b6, hb6⟩ : ∃ x, w2.heap.size = x := ⟨_, rfl⟩
   rw [hb6] at S6 S7 T7 ⊢
   have hz := T2.out.size
   have TT : Hid (Tch No w w7) := (T2.out.trans0 T6.out).fresh T7.out (fun q e => by rw [e, <- hb6]; exact hz)
   obtain ⟨s3, hs3⟩ : ∃ s, { s2 with nid := a0 } = s := ⟨_, rfl⟩
   rw [hs3] at S7
   have HL : Hid ((allM s3).length = if 10000 < a0 then 0 else (a0 - 1).toNat) := by rw [Hid, alen, <- hs3]
   have HAI : Hid (I64 s3.broker /\ I64 s3.nid) := by
    rw [Hid, <- hs3]
    refine ⟨?_, ?_⟩
    ·show I64 s2.broker
     rw [HBR.out]; unfold I64; omega
    ·have := HA0.out
     show I64 a0
     unfold I64; omega
   clear hs3 hz hb6 S6 T6 T7 V2
   go_wp2_with (refine SX.load S7.out rfl ?_; intro A1 HA1)
   refine (wall_any s3 HAI.out.1 HAI.out.2 _ _ (HA1.out.is (Tch.refl _ _))).mono ?_
   rintro e w8 ⟨v8, rfl, c8, t8⟩
   have T8 := Lib.hid (TT.out.trans0 t8)
   obtain ⟨x8, y8, rfl, _, _⟩ := CellsAt.shape c8
   clear c8 t8
   by_cases h3 : 10000 < a0
   ·have hl : (allM s3).length = 0 := by rw [HL.out, if_pos h3]
    rw [hl]
    go_wp2_with fail
    go_ret
    exact ⟨rfl, T8.out.below0⟩
   ·obtain ⟨n, hn⟩ : ∃ n : Nat, (a0 - 1).toNat = n := ⟨_, rfl⟩
    have hl : (allM s3).length = n := by rw [HL.out, if_neg h3, hn]
    rw [hl]
    have ha : (n : Int) = a0 - 1 := by omega
    have hq : ((n : Int) == a0 - 1) = true := by rw [ha]; simp
    have hn9 : n <= 9999 := by omega
    have HA := Lib.hid ha
    clear hl hn ha
    go_wp2_with fail
    go_ret
    exact ⟨by rw [<- HA.out]; simp, T8.out.below0⟩

/-! ### THE ROW's STEP -/
set_option maxRecDepth 100000 in
theorem lifted (os : Os) (started : os.Started) (H : Type) (enc : TypeId × Value → H) :
    ReturnsInHanded {} Tryz.checked os 12 .any (Rows.whereLongSpec.pre6 enc Tryz.prog Tryz.f12 Rows.whereLongRow.domain false) (Rows.whereLongSpec.post enc Tryz.prog Tryz.f12 false true false false) := by
  refine returnsInHanded_of_change_sized (C := Tryz.checked) own started (by kernel_rfl) Tryz.func12
    (ChangeSpec.witness6 (enc := enc) (C := Tryz.checked) false ⟨#[], #[.int .i64 0], []⟩ 8 (by kernel_rfl) (by kernel_rfl) (by kernel_rfl) (by kernel_rfl)) ?_
  intro W base args ds gs before hval0 hW hcnd hsz0 _
  have hval : ∀ (j : Nat) t v, Tryz.f12.params[j]? = some t → args[j]? = some v → Value.okWide Tryz.prog W .any base t v := hval0
  have hW' := hW
  obtain ⟨p, q, hA0, hV, rfl, hfz, hnd⟩ := hW
  have hA : DataW.TrodAll enc Tryz.prog W 0 (fun _ => true) true Tryz.f12.params.toList args.toList ds p := hA0
  have hsz : (DataW.weightsEach Tryz.prog (Tryz.f12.params.toList ++ Rows.whereLongSpec.plain.varTypes Tryz.prog) (ds ++ gs)).all (· ≤ reachBytes) = true := hsz0
  rw [Tryz.params12] at hA hval hsz
  obtain ⟨v0, vs0, d0, ds0, p0, q0, hargs, rfl, rfl, h0, r0⟩ := trodAll_cons hA
  obtain ⟨rfl, rfl, rfl⟩ := trodAll_nil r0
  obtain rfl : args = #[v0] := by cases args; simp_all
  obtain ⟨rfl, rfl⟩ := trodVars_none hV
  obtain ⟨a0, rfl, rfl, rfl, w0⟩ := open_int Tryz.underlying2 (hval 0 2 v0 rfl rfl) h0
  clear hA0 hval0
  refine (walk a0 W w0).mono fun e W' ⟨he, bel⟩ => ?_
  subst he
  exact ⟨_, rfl, _, _, _, [], _, [], hW', trodAll_mk1 (shut_bool Tryz.underlying4 _), (trodAll_cons_mk (shut_int Tryz.underlying2 w0) trodAll_mk0), rfl, bel.frame _, fun h => by cases h⟩

theorem clo0 : Tryz.prog.mayEnter = true := by kernel_rfl
theorem clo1 : (Rows.whereLongRow.lifted == Tryz.prog.liftsFinal) = true := by kernel_rfl
theorem clo2 : (Tryz.prog.make == some Rows.whereLongRow.make) = true := by kernel_rfl
theorem clo3 : (Rows.whereLongRow.inPlace == Tryz.prog.inPlace 12) = true := by kernel_rfl
theorem clo4 : (Rows.whereLongRow.unfollowed == Tryz.prog.unfollowed 12) = true := by kernel_rfl
theorem clo5 : (Rows.whereLongRow.recurses == Tryz.prog.recurses 12) = true := by kernel_rfl
theorem clo6 : (Rows.whereLongRow.named == Tryz.prog.varsNamed 12) = true := by kernel_rfl
theorem clo7 : laidOutB Tryz.prog = true := by kernel_rfl
theorem clo8 : mapsRowed Tryz.prog = true := by kernel_rfl
theorem clo9 : Tryz.prog.stopsHeard = true := by kernel_rfl
theorem clo10 : (Rows.whereLongRow.plainKeys == Tryz.prog.plainKeys) = true := by kernel_rfl
set_option maxRecDepth 100000 in
theorem closed : joinedFacts Tryz.prog 12 Tryz.f12 Rows.whereLongSpec Rows.whereLongRow = true := by
  unfold joinedFacts
  rw [clo0, clo1, clo2, clo3, clo4, clo5, clo6, clo7, clo8, clo9, clo10]
  kernel_rfl
theorem over : Rows.whereLongRow.holds Tryz.pinned (OpenSpec.ofChange Rows.whereLongSpec) :=
  OpenClaim.holds_of_wide 12 Tryz.f12 rfl rfl rfl rfl rfl rfl rfl ⟨rfl, rfl, rfl, rfl, rfl⟩ rfl rfl rfl rfl rfl (by kernel_rfl) Tryz.func12 closed
    (of_decide_eq_true (by kernel_rfl)) (by unfold Func.isWrapper; first | (rw [if_pos (by decide +kernel)]; kernel_rfl) | (rw [if_neg (by decide +kernel)]; exact ⟨rfl, rfl⟩))
    (fun os started H enc _ => lifted os started H enc)

/--  THE STATEMENT  -/
theorem proved : Rows.WhereLongSaid := over
#print axioms proved
end Go.Proofs.YtafndmnbnmlklaaGreat.whereLong
