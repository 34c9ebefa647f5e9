/- SegLong: the law SegLong returns true for every input, and each argument reads behind the call as it read before. No condition. The frame is the kit's proof-skeleton. -/
import Derived.Test.YtcjlgdldhcbcjaaRows
import Derived.WalkKit
import Derived.ProofKit
import Derived.OpenShut
import Derived.ShutString
import Derived.Test.YtcjlgdldhcbcjaaBeg3
import Derived.Test.YtcjlgdldhcbcjaaRCut
namespace Go.Proofs.Ytcjlgdldhcbcjaa.segLong
open Go.ChangeShapes Go.WideShapes Go.ChangeAt Go.RowKit Go.Maps
open Go.ChangeMaps (open_string shut_string)
set_option linter.unusedVariables false      -- a walk need not use every 'w<i>' (that an integer argument fits its kind)

theorem own : ownKnob Try.prog.godebug = none := by kernel_rfl

theorem wf_bounds {n : Int} (h : (Lit.int .i64 n).wf = true) : -9223372036854775808 ≤ n ∧ n ≤ 9223372036854775807 := by
  simp only [Lit.wf, IntKind.min, IntKind.max, IntKind.signed, IntKind.bits] at h
  simp at h; omega
/-- A row of noughts, of which the first j were written. -/
def fillL (n j : Nat) (c : UInt8) : List UInt8 := List.replicate j c ++ List.replicate (n - j) 0
theorem fillL_length {n j : Nat} (c : UInt8) (h : j ≤ n) : (fillL n j c).length = n := by simp [fillL]; omega
theorem fillL_set {n j : Nat} (c : UInt8) (h : j < n) : (fillL n j c).set j c = fillL n (j + 1) c := by
  unfold fillL
  obtain ⟨m, hm⟩ : ∃ m, n - j = m + 1 := ⟨n - j - 1, by omega⟩
  rw [hm, show n - (j + 1) = m by omega, List.set_append, if_neg (by simp), List.length_replicate, Nat.sub_self, List.replicate_succ, List.set_cons_zero, List.replicate_succ']
  simp
theorem u8s_set (l : List UInt8) (j : Nat) (c : UInt8) : (u8s l).set j (.int .u8 (c.toNat : Int)) = u8s (l.set j c) := by
  unfold u8s; rw [List.map_set]
def Fill (w : World) (g n j : Nat) (c : UInt8) : Prop := w.ownsRow 0 5 1 (.slice (some ⟨g, 0, none⟩) n n) n (u8s (fillL n j c))
theorem Fill.zero (w : World) (n : Nat) (hn : n ≤ 1000000) (c : UInt8) : Fill (w.alloc (zrow n)) w.heap.size n 0 c := by
  have e : (madeCells (Value.int .u8 0).cells (n * 1)).toList = u8s (List.replicate n 0) := by
    have : (Value.int IntKind.u8 0).cells = #[.int .u8 0] := rfl
    rw [this, toList_madeCells_one, Nat.mul_one]
    simp [u8s]
  refine ⟨by simp [fillL, u8s], .inr ⟨w.heap.size, n, _, rfl, Nat.zero_le _, heap_alloc_new w _, Nat.le_refl _, by unfold maxLen; omega, ?_, ?_⟩⟩
  · have := congrArg List.length e
    simp [u8s] at this ⊢
    exact this
  · rw [e, List.take_of_length_le (by simp [u8s])]; simp [fillL]
theorem Fill.step {w : World} {g n j : Nat} {c : UInt8} (h : Fill w g n j c) (hj : j < n) : Fill (w.setCell ⟨g, j, none⟩ (.int .u8 (c.toNat : Int))) g n (j + 1) c := by
  have := (h.stored j (.int .u8 (c.toNat : Int))).1
  rw [u8s_set, fillL_set c hj] at this
  exact this
theorem Fill.cell {w : World} {g n j : Nat} {c : UInt8} (h : Fill w g n j c) (hj : j < n) : ∃ z, w.cell? ⟨g, j, none⟩ = some (.int .u8 z) ∧ w.frozen? ⟨g, j, none⟩ = false := by
  have hc := h.cellAt j (by omega)
  rw [List.getElem?_eq_getElem (by have := h.1; omega)] at hc
  refine ⟨((fillL n j c)[j]'(by rw [fillL_length c (by omega)]; exact hj)).toNat, ?_, h.frozenAt j⟩
  rw [hc]; simp [u8s]
theorem take_long {b : List UInt8} (h : fits b) : (cutM ((frameM b).take (b.length + 5))).2.2 = 2 := cutM_part b h _ (by omega)
set_option maxRecDepth 100000 in
set_option maxHeartbeats 4000000 in
theorem walk (a0 : Int) (a1 : Int) (w0 : (Lit.int .i64 a0).wf = true) (w1 : (Lit.int .u8 a1).wf = true) (w : World) :
    Calls Try.prog 4 #[.int .i64 a0, .int .u8 a1] w fun e w' => e = .returned (.bool true) ∧ Below w.heap.size w w' := by
  have hb := wf_bounds w0
  obtain ⟨c, hc⟩ : ∃ c : UInt8, (c.toNat : Int) = a1 := ⟨_, bytesOf_at w1⟩
  subst hc
  clear w0 w1
  by_cases h0 : a0 < 0
  · clear hb
    go_enter Try.func4, Try.ntmps4
    go_wp2_with fail
    refine (begun4_any w).mono ?_
    rintro e w1 ⟨rfl, t1⟩
    have T1 := Lib.hid t1; clear t1
    go_wp2_with fail
    go_ret
    exact ⟨rfl, T1.out.below0⟩
  by_cases h4 : 4010 < a0
  · clear hb
    go_enter Try.func4, Try.ntmps4
    go_wp2_with fail
    refine (begun4_any w).mono ?_
    rintro e w1 ⟨rfl, t1⟩
    have T1 := Lib.hid t1; clear t1
    go_wp2_with fail
    go_ret
    exact ⟨rfl, T1.out.below0⟩
  obtain ⟨n, rfl⟩ : ∃ r : Nat, a0 = (r : Int) := ⟨a0.toNat, by omega⟩
  have hn4 : n ≤ 4010 := by omega
  have p0 : ¬ (n : Int) < 0 := by omega
  have p4 : ¬ 4010 < (n : Int) := by omega
  clear hb h0 h4
  have hmk1 := fun W => (make_at W n (by omega)).1
  have hz := Lib.hid (fun W : World => Fill.zero W n (by omega) c)
  obtain ⟨Z, hZ⟩ : ∃ Z, zrow n = Z := ⟨_, rfl⟩
  rw [hZ] at hmk1 hz
  clear hZ
  obtain ⟨cn, hcn⟩ : ∃ cn, c.toNat = cn := ⟨_, rfl⟩
  have HCN := Lib.hid hcn
  rw [hcn]
  clear hcn
  go_enter Try.func4, Try.ntmps4
  go_wp2_with fail
  refine (begun4_any w).mono ?_
  rintro e w1 ⟨rfl, t1⟩
  have T1 := Lib.hid t1; clear t1
  have F0 : Hid (Fill (w1.alloc Z) w1.heap.size n 0 c) := hz.out w1
  have T0 := Lib.hid (Tch.alloc w1 Z)
  have hsz : w1.heap.size < (w1.alloc Z).heap.size := by simp
  obtain ⟨g, hg⟩ : ∃ g, w1.heap.size = g := ⟨_, rfl⟩
  go_wp2_with fail
  rw [hg] at F0
  go_loopw [25] (fun i wr => ∃ j : Nat, j ≤ n ∧ i = .int .i64 j ∧ Hid (Fill wr g n j c) ∧ Hid (Tch No w1 wr)) (fun i _ => n - (intOf i).toNat)
  case atStart => exact ⟨0, by omega, rfl, F0, T0⟩
  case round =>
    clear F0 T0 hz
    obtain ⟨j, hj, rfl, hF, hT⟩ := hrel
    by_cases hlt : j < n
    · obtain ⟨z, hc1, hf1⟩ := hF.out.cell hlt
      have hF2 : Hid (Fill (wr.setCell ⟨g, j, none⟩ (.int .u8 (cn : Int))) g n (j + 1) c) := by rw [← HCN.out]; exact hF.out.step hlt
      have hT2 : Hid (Tch No w1 (wr.setCell ⟨g, j, none⟩ (.int .u8 (cn : Int)))) := hT.out.fresh (Tch.setCell (F := fun k => k = g) wr ⟨g, j, none⟩ _ (fun _ => rfl)) (fun k hk => by omega)
      have p1 : (j : Int) < (n : Int) := by omega
      clear hF hT
      go_wp2_with fail
      exact ⟨⟨j + 1, by omega, by go_num, hF2, hT2⟩, by simp [intOf]; omega⟩
    · have hjn : j = n := by omega
      subst hjn
      obtain ⟨b, hbb⟩ : ∃ b, fillL j j c = b := ⟨_, rfl⟩
      have hbl : b.length = j := by rw [← hbb]; exact fillL_length c (Nat.le_refl _)
      have HB : Hid (SlB wr (.slice (some ⟨g, 0, none⟩) j j) b) := by
        have h := hF.out
        unfold Fill at h
        rw [hbb] at h
        exact SlB.ofRow h (by unfold lim; omega)
      have p1 : ¬ (j : Int) < (j : Int) := by omega
      have BL := Lib.hid hbl
      clear hF hbb
      by_cases hfit : fits b
      · have hf1 : ¬ (j : Int) < 1 := by unfold fits at hfit; omega
        have hf2 : ¬ 4000 < (j : Int) := by unfold fits at hfit; omega
        have hfr := Lib.hid (frame_any _ b wr HB.out hfit)
        have hcf := Lib.hid (cutM_frame b [] hfit)
        rw [List.append_nil] at hcf
        have htk := Lib.hid (take_long hfit)
        have hfl := Lib.hid (frameM_length b)
        rw [hbl] at hfr hcf htk hfl
        clear hfit hbl
        go_wp2_with fail
        refine hfr.out.mono ?_
        rintro e w3 ⟨gf, gc, rfl, b3, _, t3, _⟩
        have hgc : 6 + j ≤ gc := by
          obtain ⟨a', c', e, h1, h2⟩ := b3.shape
          injection e with e1 e2 e3; rw [hfl.out] at h1; omega
        have B3 := Lib.hid b3; have T3 := Lib.hid t3
        clear b3 t3 hfr
        go_wp2_with fail
        refine (scut_any _ (frameM b) w3 B3.out).mono ?_
        rintro e w4 ⟨x, rfl, x1, _, t4⟩
        rw [hcf.out] at x1 ⊢
        obtain ⟨ax, mx, cx, rfl, hmx⟩ := x1.shape'
        obtain ⟨S, hS⟩ : ∃ S : ByteArray, (⟨b.toArray⟩ : ByteArray) = S := ⟨_, rfl⟩
        have y1 : (convert 22 9 (.slice ax mx cx)).run Try.prog w4 = .ok (.string S) w4 := by rw [← hS]; exact str_of x1
        have y2 : (convert 22 9 (.slice (some ⟨g, 0, none⟩) j j)).run Try.prog w4 = .ok (.string S) w4 := by rw [← hS]; exact str_of ((HB.out.tch0 T3.out).tch0 t4)
        have B4 : Hid (SlB w4 (.slice (some ⟨gf, 0, none⟩) (j + 5) gc) ((frameM b).take (j + 5))) := (B3.out.tch0 t4).take (j + 5) (by rw [hfl.out]; omega)
        have T4 := Lib.hid (T1.out.trans0 (hT.out.trans0 (T3.out.trans0 t4)))
        have p6 : ((6 + j : Nat) : Int) = (j : Int) + 6 := by omega
        have p7 : (j : Int) + 5 ≤ (gc : Int) := by omega
        have p8 : (0 : Int) ≤ (j : Int) + 5 := by omega
        clear x1 t4 hS hmx B3 T3 hT T1 hcf hfl HB
        go_wp2_with fail
        refine (cuts_more _ _ w4 B4.out htk.out).mono ?_
        rintro e w5 ⟨rfl, t5⟩
        have T5 := Lib.hid (T4.out.trans0 t5); clear t5 B4 y1 y2
        go_wp2_with fail
        go_ret
        exact ⟨rfl, T5.out.below0⟩
      · have hno := Lib.hid (frame_no _ b wr HB.out hfit)
        have heq := fun (w : World) (a : Option Addr) (n c : Nat) => Lib.run_eql_slice_nil (P := Try.prog) w 22 5 a n c 0 0 Try.underlying22
        have hd : (j : Int) < 1 ∨ 4000 < (j : Int) := by unfold fits at hfit; omega
        clear hfit
        rcases hd with hd | hd
        · go_wp2_with fail
          refine hno.out.mono ?_
          rintro e w3 ⟨rfl, rfl⟩
          go_wp2_with fail
          go_ret
          exact ⟨rfl, (T1.out.trans0 hT.out).below0⟩
        · have hd0 : ¬ (j : Int) < 1 := by omega
          go_wp2_with fail
          refine hno.out.mono ?_
          rintro e w3 ⟨rfl, rfl⟩
          go_wp2_with fail
          go_ret
          exact ⟨rfl, (T1.out.trans0 hT.out).below0⟩

/-! ### THE ROW's STEP: WRITTEN OUT: LEAVE IT -/
set_option maxRecDepth 100000 in
theorem lifted (os : Os) (started : os.Started) (H : Type) (enc : TypeId × Value → H) :
    ReturnsInHanded {} Try.checked os 4 .any (Rows.segLongSpec.pre6 enc Try.prog Try.f4 Rows.segLongRow.domain false) (Rows.segLongSpec.post enc Try.prog Try.f4 false true false false) := by
  refine returnsInHanded_of_change (C := Try.checked) own started (by kernel_rfl) Try.func4
    (ChangeSpec.witness6 (enc := enc) (C := Try.checked) false ⟨#[], #[.int .i64 0, .int .u8 0], []⟩ 8 (by kernel_rfl) (by kernel_rfl) (by kernel_rfl) (by kernel_rfl)) ?_
  intro W base args ds gs before hval0 hW hcnd _
  have hval : ∀ (j : Nat) t v, Try.f4.params[j]? = some t → args[j]? = some v → Value.okWide Try.prog W .any base t v := hval0
  have hW' := hW
  obtain ⟨p, q, hA0, hV, rfl, hfz, hnd⟩ := hW
  have hA : DataW.TrodAll enc Try.prog W 0 (fun _ => true) true Try.f4.params.toList args.toList ds p := hA0
  rw [Try.params4] at hA hval
  obtain ⟨v0, vs0, d0, ds0, p0, q0, hargs, rfl, rfl, h0, r0⟩ := trodAll_cons hA
  obtain ⟨v1, vs1, d1, ds1, p1, q1, rfl, rfl, rfl, h1, r1⟩ := trodAll_cons r0
  obtain ⟨rfl, rfl, rfl⟩ := trodAll_nil r1
  obtain rfl : args = #[v0, v1] := by cases args; simp_all
  obtain ⟨rfl, rfl⟩ := trodVars_none hV
  obtain ⟨a0, rfl, rfl, rfl, w0⟩ := open_int Try.underlying3 (hval 0 3 v0 rfl rfl) h0
  obtain ⟨a1, rfl, rfl, rfl, w1⟩ := open_int Try.underlying5 (hval 1 5 v1 rfl rfl) h1
  clear hA0 hval0
  simp only [List.append_nil] at hW'
  refine (walk a0 a1 w0 w1 W).mono fun e W' ⟨he, hg⟩ => ?_
  subst he
  exact ⟨_, rfl, _, _, _, [], _, [], hW', trodAll_mk1 (shut_bool Try.underlying4 _), (trodAll_cons_mk (shut_int Try.underlying3 w0) (trodAll_cons_mk (shut_int Try.underlying5 w1) trodAll_mk0)), rfl, hg.frame _, fun h => by cases h⟩

theorem over : Rows.segLongRow.holds Try.pinned (OpenSpec.ofChange Rows.segLongSpec) :=
  OpenClaim.holds_of_wide 4 Try.f4 rfl rfl rfl rfl rfl rfl rfl ⟨rfl, rfl, rfl, rfl, rfl⟩ rfl rfl rfl rfl rfl (by kernel_rfl) Try.func4 (by kernel_rfl)
    (of_decide_eq_true (by kernel_rfl)) (by unfold Func.isWrapper; first | (rw [if_pos (by decide +kernel)]; kernel_rfl) | (rw [if_neg (by decide +kernel)]; exact ⟨rfl, rfl⟩))
    (fun os started H enc _ => lifted os started H enc)

/--  THE STATEMENT  -/
theorem proved : Rows.SegLongSaid :=
  over
#print axioms proved
end Go.Proofs.Ytcjlgdldhcbcjaa.segLong
