/- StoreCounts: the law StoreCounts returns true for every input, and each argument reads behind the call as it read before. No condition. The frame is the kit's proof-skeleton. -/
import Derived.Test.YtfedhcnmdmhppaaGreatPStoreCounts19
import Derived.Test.YtfedhcnmdmhppaaGreatPStoreCounts30
import Derived.Test.YtfedhcnmdmhppaaGreatRows
import Derived.WalkKit
import Derived.ProofKit
import Derived.OpenShut
import Derived.ShutString
import Derived.ChangeOld
import Derived.Below
import Derived.StillTailTactics
namespace Go.Proofs.YtfedhcnmdmhppaaGreat.storeCounts
open Go.ChangeShapes Go.WideShapes Go.ChangeAt Go.RowKit Go.Maps
open Go.ChangeMaps (open_string shut_string)
set_option linter.unusedVariables false
set_option linter.unusedSimpArgs false

theorem own : ownKnob Tryz.prog.godebug = none := by kernel_rfl
theorem laidOut : laidOutB Tryz.prog = true := by kernel_rfl

def cR (k t i : Int) (y : Bool) : RecM := ⟨k, t, i, y, [], []⟩
def cT (i : Nat) : Int := 8589934594 + (i : Int)
def cP : RecM := ⟨4, 8589934593, 0, false, [], [⟨[113], [98]⟩]⟩
def cI : StM := applyM (newM 1) cP
def c0 : StM := applyM cI (cR 5 8589934593 0 true)
def cTk (i : Nat) (s : StM) : StM := applyM s (cR 2 (cT i) 4294967297 false)
def cPr (i : Nat) (s : StM) : StM := applyM (cTk i s) (cR 4 (cT i) 0 false)
def cEv (i : Nat) (y : Bool) (s : StM) : StM := applyM (cPr i s) (cR 5 (cT i) 0 y)
def cOd (i : Nat) (s : StM) : StM := applyM (cTk i s) (cR 3 (cT i) 0 false)
def cS : Nat → StM
  | 0 => c0
  | i + 1 => if i % 2 = 0 then cEv i false (cS i) else cOd i (cS i)
def msC (i : Nat) (who : Int) : MsgM := ⟨4294967297, [113], [98], 1, i, who⟩
theorem c_0 : okStB (newM 1) = true ∧ okStB cI = true := by decide +kernel
theorem c_ok : ∀ i : Fin 20, okStB (cS i.val) = true ∧ okStB (cTk i.val (cS i.val)) = true ∧ okStB (cPr i.val (cS i.val)) = true ∧ (cTk i.val (cS i.val)).ms = [msC i.val (cT i.val)] := by decide +kernel
theorem c_ms : ∀ i : Fin 21, (cS i.val).ms = [msC i.val 0] := by decide +kernel
theorem c_no : ∀ i : Fin 20, i.val % 2 = 0 → (cEv i.val true (cS i.val)).ms = [] := by decide +kernel
theorem cr_ok (k t i : Int) (y : Bool) (h1 : I64 k) (h2 : I64 t) (h3 : I64 i) : OkRec (cR k t i y) := ⟨h1, h2, h3, fun x hx => (by cases hx), fun x hx => (by cases hx)⟩
theorem cp_ok : OkRec cP := ⟨by unfold I64 cP; simp, by unfold I64 cP; simp, by unfold I64 cP; simp, fun x hx => (by cases hx), by decide⟩
theorem ct_b (i : Nat) (h : i < 1000) : I64 (cT i) := by unfold I64 cT; omega
theorem cp_w {G : Nat → Prop} {w : World} {pb : Nat} (hG : ¬ G pb) (h : w.heap[pb]? = some (.cells #[.string ⟨#[113]⟩, .string ⟨#[98]⟩] 45 (0, 0))) : RecW (Tch G w) (.agg #[.int .i64 4, .int .i64 8589934593, .int .i64 0, .bool false, .slice none 0 0, .slice (some ⟨pb, 0, none⟩) 1 1]) cP :=
  ⟨_, _, rfl, fun W t => ⟨CellsAt.nil _ _, by
    have hp := blk_tch t h hG
    refine ⟨rfl, .inr ⟨pb, 0, 1, rfl, Nat.le_refl _, by simp [maxLen], blk_lt hp, fun j x hx => ?_⟩⟩
    rw [Nat.zero_add, blk_cell hp j]
    simpa [cP, encPut, strV] using hx⟩⟩
theorem msC1 {G : Nat → Prop} {w0 w : World} {b i : Nat} {s : StM} {x : Int} (h : SB G w0 b s w) (hm : s.ms = [msC i x]) : ∃ mb mo cm, 1 ≤ cm ∧ cm ≤ maxLen ∧ w.cell? ⟨b, 4, none⟩ = some (.slice (some ⟨mb, mo, none⟩) 1 cm) ∧ w.cell? ⟨mb, mo, none⟩ = some (.int .i64 4294967297) ∧ w.cell? ⟨mb, mo + 1, none⟩ = some (.string ⟨#[113]⟩) ∧ w.cell? ⟨mb, mo + 2, none⟩ = some (.string ⟨#[98]⟩) ∧ w.cell? ⟨mb, mo + 3, none⟩ = some (.int .i64 1) ∧ w.cell? ⟨mb, mo + 4, none⟩ = some (.int .i64 (i : Nat)) ∧ w.cell? ⟨mb, mo + 5, none⟩ = some (.int .i64 x) := h.ms1 hm
set_option maxRecDepth 100000 in
set_option maxHeartbeats 16000000 in
theorem walk (a0 : Option Addr) (len0 cap0 : Nat) (w : World) (w0 : IsBls w a0 len0 cap0) :
  Calls Tryz.prog 13 #[.slice a0 len0 cap0] w fun e w' => e = .returned (.bool true) /\ Below w.heap.size w w' := by
 obtain ⟨hl1, hl2, hbl⟩ := w0
 have HBL := Lib.hid hbl
 have HL1 := Lib.hid hl1
 clear hbl hl1
 go_enter Tryz.func13, Tryz.ntmps13
 go_wp2_with fail
 refine (begun10_any w).mono ?_
 rintro e w1 ⟨rfl, t1⟩
 have T1 := Lib.hid t1
 clear t1
 go_wp2_with fail
 refine (snew_any 1 _).mono ?_
 rintro e w2 ⟨v2, rfl, i2, t2⟩
 have HS2 := Lib.hid (StW.of i2)
 have T2 := Lib.hid (T1.out.trans0 t2)
 clear i2 t2 T1
 go_wp2_with (first | (refine SB.new T2.out HS2.out rfl rfl rfl rfl ?_; intro wz0 BZ0; generalize w2.heap.size = bs at BZ0 ⊢) | (refine SB.load BZ0.out rfl ?_; intro A1 HA1))
 have BY := Lib.hid (BZ0.out.keep (Tch.alloc _ (.cells #[.string ⟨#[113]⟩, .string ⟨#[98]⟩] 45 (0, 0))))
 have HY := Lib.hid (stw_fwd HA1.out (Tch.alloc _ (.cells #[.string ⟨#[113]⟩, .string ⟨#[98]⟩] 45 (0, 0))))
 clear HA1
 refine (sApply_any (newM 1) cP (okSt_of c_0.1) cp_ok _ _ _ _ HY.out (cp_w (fun e => by have := BZ0.out.lt bs rfl; omega) (blk_new _ _))).mono ?_
 rintro e w5a ⟨v5, rfl, s5, t5⟩
 have SN5 := Lib.hid s5
 have TN5 := Lib.hid t5
 clear s5 t5 HY
 go_wp2_with (first | (refine SB.store BY.out TN5.out SN5.out rfl rfl ?_; intro wz5 BZ5 TZ5) | (refine SB.load BZ5.out rfl ?_; intro A6 HA6))
 refine (sApply_any cI (cR 5 8589934593 0 true) (okSt_of c_0.2) (cr_ok _ _ _ _ (by decide) (by decide) (by decide)) _ _ _ _ HA6.out (rec_nil (k := 5) (t := 8589934593) (i := 0) (y := true))).mono ?_
 rintro e w6a ⟨v6, rfl, s6, t6⟩
 have SN6 := Lib.hid s6
 have TN6 := Lib.hid t6
 clear s6 t6 HA6
 go_wp2_with (refine SB.store BZ5.out TN6.out SN6.out rfl rfl ?_; intro wz6 BZ6 TZ6)
 have SS0 : Hid (SB (fun q => q = bs) w bs (cS 0) wz6) := BZ6
 go_loopg [5, 6, 7] 21 (fun kx s5 s6 s7 wr => ∃ i : Nat, ∃ g : Bool, ∃ s : StM, s7 = .int .i64 (i : Nat) /\ s6 = .bool g /\ Hid (SB (fun q => q = bs) w bs s wr) /\ i <= 20 /\ 21 - i <= kx /\ ((g = false /\ s5 = .int .i64 (i : Nat) /\ s = cS i) ∨ (g = true /\ (∃ j : Nat, s5 = .int .i64 (j : Nat)) /\ s.ms.length = 0)))
 case atStart => exact ⟨0, false, _, rfl, rfl, SS0, by omega, by omega, .inl ⟨rfl, rfl, rfl⟩⟩
 case round =>
  clear  SS0
  obtain ⟨i, g, s, rfl, rfl, SS, hi20, hkx, ⟨rfl, rfl, rfl⟩ | ⟨rfl, ⟨j, rfl⟩, hms0⟩⟩ := hrel
  ·by_cases hil : (i : Int) < (len0 : Int)
   ·by_cases hi2 : (i : Int) < 20
    ·have hi : i < 20 := by omega
     have HK := Lib.hid (c_ok ⟨i, hi⟩)
     have HT := Lib.hid (ct_b i (by omega))
     go_wp2_with (refine SB.load SS.out rfl ?_; intro A2 HA2)
     refine (sApply_any (cS i) (cR 2 (cT i) 4294967297 false) (okSt_of HK.out.1) (cr_ok _ _ _ _ (by decide) HT.out (by decide)) _ _ _ _ HA2.out (rec_nil (k := 2) (t := cT i) (i := 4294967297) (y := false))).mono ?_
     rintro e w2a ⟨v2, rfl, s2, t2⟩
     have SN2 := Lib.hid s2
     have TN2 := Lib.hid t2
     clear s2 t2 HA2
     rcases Nat.mod_two_eq_zero_or_one i with hp | hp
     ·have hpi : Int.tmod (i : Int) 2 = 0 := by rw [Int.tmod_eq_emod_of_nonneg (Int.natCast_nonneg i)]; omega
      go_wp2_with (first | (refine SB.store SS.out TN2.out SN2.out rfl rfl ?_; intro wz2 BZ2 TZ2; obtain ⟨mb, mo, cm, k1, k2, c4, d0, d1, d2, d3, d4, d5⟩ := msC1 BZ2.out HK.out.2.2.2) | (refine SB.load BZ2.out rfl ?_; intro A3 HA3))
      refine (sApply_any (cTk i (cS i)) (cR 4 (cT i) 0 false) (okSt_of HK.out.2.1) (cr_ok _ _ _ _ (by decide) HT.out (by decide)) _ _ _ _ HA3.out (rec_nil (k := 4) (t := cT i) (i := 0) (y := false))).mono ?_
      rintro e w3a ⟨v3, rfl, s3, t3⟩
      have SN3 := Lib.hid s3
      have TN3 := Lib.hid t3
      clear s3 t3 HA3
      go_upto_region 17 with (refine SB.store BZ2.out TN3.out SN3.out rfl rfl ?_; intro wz3 BZ3 TZ3)
      have BD := Lib.hid (BZ3.out.keep (Tch.drew wz3))
      obtain ⟨pb, po, pe, ha0, hpc⟩ := HBL.out i (by omega)
      subst ha0
      have HPC := Lib.hid hpc
      have hpd : (World.drew wz3).cell? ⟨pb, po + i, none⟩ = some (.bool pe) := BD.out.t.cell hpc (fun h => h)
      clear hpc c4 d0 d1 d2 d3 d4 d5
      refine wp_region_still_tail 7 (by kernel_rfl) (by kernel_rfl) ?_
      simp only [List.take_succ_cons, List.take_zero, List.drop_succ_cons, List.drop_zero]
      change wpStill _ _ (World.drew wz3) (fun _ => wpList _ _ _ _ _ (World.drew wz3)) _ _
      refine SB.loadS BD.out rfl ?_
      intro A4 HA4
      repeat still_step
      refine wpStill_nil ?_
      go_wp2_with fail
      refine (sApply_any (cPr i (cS i)) (cR 5 (cT i) 0 pe) (okSt_of HK.out.2.2.1) (cr_ok _ _ _ _ (by decide) HT.out (by decide)) _ _ _ _ HA4.out (rec_nil (k := 5) (t := cT i) (i := 0) (y := pe))).mono ?_
      rintro e w4a ⟨v4, rfl, s4, t4⟩
      have SN4 := Lib.hid s4
      have TN4 := Lib.hid t4
      clear s4 t4 HA4
      cases pe with
      | false =>
       go_wp2_with (refine SB.store BD.out TN4.out SN4.out rfl rfl ?_; intro wz4 BZ4 TZ4; have hpe : wz4.cell? ⟨pb, po + i, none⟩ = some (.bool false) := BZ4.out.t.cell HPC.out (fun h => h))
       go_roundg (20 - i)
       case measure => omega
       case rel => exact ⟨i + 1, false, _, by go_num, rfl, BZ4, by omega, by omega, .inl ⟨rfl, by go_num, by simp only [cS, hp, if_true]; rfl⟩⟩
      | true =>
       go_wp2_with (refine SB.store BD.out TN4.out SN4.out rfl rfl ?_; intro wz4 BZ4 TZ4; have hpe : wz4.cell? ⟨pb, po + i, none⟩ = some (.bool true) := BZ4.out.t.cell HPC.out (fun h => h))
       go_roundg (20 - i)
       case measure => omega
       case rel => exact ⟨i + 1, true, _, by go_num, rfl, BZ4, by omega, by omega, .inr ⟨rfl, ⟨i, rfl⟩, by have h := c_no ⟨i, hi⟩ hp; show (cEv i true (cS i)).ms.length = 0; rw [h]; rfl⟩⟩
     ·have hpi : ¬ (Int.tmod (i : Int) 2 = 0) := by rw [Int.tmod_eq_emod_of_nonneg (Int.natCast_nonneg i)]; omega
      go_wp2_with (first | (refine SB.store SS.out TN2.out SN2.out rfl rfl ?_; intro wz2 BZ2 TZ2; obtain ⟨mb, mo, cm, k1, k2, c4, d0, d1, d2, d3, d4, d5⟩ := msC1 BZ2.out HK.out.2.2.2) | (refine SB.load BZ2.out rfl ?_; intro A5 HA5))
      refine (sApply_any (cTk i (cS i)) (cR 3 (cT i) 0 false) (okSt_of HK.out.2.1) (cr_ok _ _ _ _ (by decide) HT.out (by decide)) _ _ _ _ HA5.out (rec_nil (k := 3) (t := cT i) (i := 0) (y := false))).mono ?_
      rintro e w5a ⟨v5, rfl, s5, t5⟩
      have SN5 := Lib.hid s5
      have TN5 := Lib.hid t5
      clear s5 t5 HA5
      go_wp2_with (refine SB.store BZ2.out TN5.out SN5.out rfl rfl ?_; intro wz5 BZ5 TZ5)
      go_roundg (20 - i)
      case measure => omega
      case rel => exact ⟨i + 1, false, _, by go_num, rfl, BZ5, by omega, by omega, .inl ⟨rfl, by go_num, by simp only [cS, hp]; rfl⟩⟩
    ·obtain ⟨mb, mo, cm, k1, k2, c4, d0, d1, d2, d3, d4, d5⟩ := msC1 SS.out (c_ms ⟨i, by omega⟩)
     by_cases h3 : (3 : Int) <= (i : Int)
     ·go_wp2_with (go_at_call 35; refine (odead_any _ _ _ _ _ _ _).mono ?_; rintro e wd ⟨rfl, td⟩)
      go_ret
      exact ⟨rfl, (SS.out.t.trans0 td).below0⟩
     ·exfalso; omega
   ·obtain ⟨mb, mo, cm, k1, k2, c4, d0, d1, d2, d3, d4, d5⟩ := msC1 SS.out (c_ms ⟨i, by omega⟩)
    by_cases h3 : (3 : Int) <= (i : Int)
    ·go_wp2_with (go_at_call 35; refine (odead_any _ _ _ _ _ _ _).mono ?_; rintro e wd ⟨rfl, td⟩)
     go_ret
     exact ⟨rfl, (SS.out.t.trans0 td).below0⟩
    ·go_wp2_with (go_at_call 35; refine (odead_any _ _ _ _ _ _ _).mono ?_; rintro e wd ⟨rfl, td⟩)
     go_ret
     exact ⟨rfl, (SS.out.t.trans0 td).below0⟩
  ·by_cases hil : (i : Int) < (len0 : Int)
   ·by_cases hi2 : (i : Int) < 20
    ·obtain ⟨am, cm, c4⟩ := SS.out.ms0 hms0
     go_wp2_with fail
     go_ret
     exact ⟨rfl, SS.out.t.below0⟩
    ·obtain ⟨am, cm, c4⟩ := SS.out.ms0 hms0
     go_wp2_with fail
     go_ret
     exact ⟨rfl, SS.out.t.below0⟩
   ·obtain ⟨am, cm, c4⟩ := SS.out.ms0 hms0
    go_wp2_with fail
    go_ret
    exact ⟨rfl, SS.out.t.below0⟩

/-! ### THE ROW's STEP: WRITTEN OUT: LEAVE IT -/
set_option maxRecDepth 100000 in
theorem lifted (os : Os) (started : os.Started) (H : Type) (enc : TypeId × Value → H) :
    ReturnsInHanded {} Tryz.checked os 13 .any (Rows.storeCountsSpec.pre6 enc Tryz.prog Tryz.f13 Rows.storeCountsRow.domain false) (Rows.storeCountsSpec.post enc Tryz.prog Tryz.f13 false true false false) := by
  refine returnsInHanded_of_change (C := Tryz.checked) own started (by kernel_rfl) Tryz.func13
    (ChangeSpec.witness6 (enc := enc) (C := Tryz.checked) false ⟨#[], #[.slice none 0 0], []⟩ 8 (by kernel_rfl) (by kernel_rfl) (by kernel_rfl) (by kernel_rfl)) ?_
  intro W base args ds gs before hval0 hW hcnd _
  have hval : ∀ (j : Nat) t v, Tryz.f13.params[j]? = some t → args[j]? = some v → Value.okWide Tryz.prog W .any base t v := hval0
  have hW' := hW
  obtain ⟨p, q, hA0, hV, rfl, hfz, hnd⟩ := hW
  have hA : DataW.TrodAll enc Tryz.prog W 0 (fun _ => true) true Tryz.f13.params.toList args.toList ds p := hA0
  rw [Tryz.params13] at hA hval
  obtain ⟨v0, vs0, d0, ds0, p0, q0, hargs, rfl, rfl, h0, r0⟩ := trodAll_cons hA
  obtain ⟨rfl, rfl, rfl⟩ := trodAll_nil r0
  obtain rfl : args = #[v0] := by cases args; simp_all
  obtain ⟨rfl, rfl⟩ := trodVars_none hV
  obtain ⟨a0, len0, cap0, rfl⟩ := okWide_slice Tryz.underlying47 (hval 0 47 v0 rfl rfl)
  have k0 := h0
  have lt0 : ∀ x ∈ p0, x.block < W.heap.size := by obtain ⟨m, hm⟩ := k0; exact DataW.trod_lt m _ _ _ hm
  have w0 : IsBls W a0 len0 cap0 := by
    obtain ⟨fuel, hf⟩ := h0
    obtain ⟨_, _, _, hcs, hw⟩ := open_bls hf
    simp [Value.cells] at hcs
    obtain ⟨rfl, rfl, rfl⟩ := hcs
    exact hw
  clear hA0 hval0
  refine (walk a0 len0 cap0 W w0).mono fun e W' ⟨he, bel⟩ => ?_
  subst he
  exact ⟨_, rfl, _, _, _, [], _, [], hW', trodAll_mk1 (shut_bool Tryz.underlying4 _), (trodAll_cons_mk (Below.trod laidOut (by kernel_rfl) (of_decide_eq_true (by kernel_rfl)) k0 bel lt0) trodAll_mk0), rfl, bel.frame _, fun h => by cases h⟩

theorem clo0 : Tryz.prog.mayEnter = true := by kernel_rfl
theorem clo1 : (Rows.storeCountsRow.lifted == Tryz.prog.liftsFinal) = true := by kernel_rfl
theorem clo2 : (Tryz.prog.make == some Rows.storeCountsRow.make) = true := by kernel_rfl
theorem clo3 : (Rows.storeCountsRow.inPlace == Tryz.prog.inPlace 13) = true := by kernel_rfl
theorem clo4 : (Rows.storeCountsRow.unfollowed == Tryz.prog.unfollowed 13) = true := by kernel_rfl
theorem clo5 : (Rows.storeCountsRow.recurses == Tryz.prog.recurses 13) = true := by kernel_rfl
theorem clo6 : (Rows.storeCountsRow.named == Tryz.prog.varsNamed 13) = true := by kernel_rfl
theorem clo7 : laidOutB Tryz.prog = true := by kernel_rfl
theorem clo8 : mapsRowed Tryz.prog = true := by kernel_rfl
theorem clo9 : Tryz.prog.stopsHeard = true := by kernel_rfl
theorem clo10 : (Rows.storeCountsRow.plainKeys == Tryz.prog.plainKeys) = true := by kernel_rfl
set_option maxRecDepth 100000 in
theorem closed : joinedFacts Tryz.prog 13 Tryz.f13 Rows.storeCountsSpec Rows.storeCountsRow = true := by
  unfold joinedFacts
  rw [clo0, clo1, clo2, clo3, clo4, clo5, clo6, clo7, clo8, clo9, clo10]
  kernel_rfl
theorem over : Rows.storeCountsRow.holds Tryz.pinned (OpenSpec.ofChange Rows.storeCountsSpec) :=
  OpenClaim.holds_of_wide 13 Tryz.f13 rfl rfl rfl rfl rfl rfl rfl ⟨rfl, rfl, rfl, rfl, rfl⟩ rfl rfl rfl rfl rfl (by kernel_rfl) Tryz.func13 closed
    (of_decide_eq_true (by kernel_rfl)) (by unfold Func.isWrapper; first | (rw [if_pos (by decide +kernel)]; kernel_rfl) | (rw [if_neg (by decide +kernel)]; exact ⟨rfl, rfl⟩))
    (fun os started H enc _ => lifted os started H enc)

/--  THE STATEMENT  -/
theorem proved : Rows.StoreCountsSaid := over
#print axioms proved
end Go.Proofs.YtfedhcnmdmhppaaGreat.storeCounts
