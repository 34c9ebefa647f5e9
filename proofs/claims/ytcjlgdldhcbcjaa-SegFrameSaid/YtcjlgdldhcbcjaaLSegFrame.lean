/- SegFrame: the law SegFrame returns true for every input, and each argument reads behind the call as it read before. No condition. The frame is the kit's proof-skeleton. -/
import Derived.Test.YtcjlgdldhcbcjaaRows
import Derived.WalkKit
import Derived.ProofKit
import Derived.OpenShut
import Derived.ShutString
import Derived.ChangeOld
import Derived.Below
import Derived.Test.YtcjlgdldhcbcjaaBeg3
import Derived.Test.YtcjlgdldhcbcjaaRCut2
import Derived.Test.YtcjlgdldhcbcjaaRFrame
import Derived.Test.YtcjlgdldhcbcjaaOwn4
namespace Go.Proofs.Ytcjlgdldhcbcjaa.segFrame
open Go.ChangeShapes Go.WideShapes Go.ChangeAt Go.RowKit Go.Maps
open Go.ChangeMaps (open_string shut_string)
set_option linter.unusedVariables false
set_option linter.unusedSimpArgs false

theorem own : ownKnob Try.prog.godebug = none := by kernel_rfl
theorem laidOut : laidOutB Try.prog = true := by kernel_rfl

theorem wf_bounds {n : Int} (h : (Lit.int .i64 n).wf = true) : -9223372036854775808 ≤ n ∧ n ≤ 9223372036854775807 := by
  simp only [Lit.wf, IntKind.min, IntKind.max, IntKind.signed, IntKind.bits] at h
  simp at h; omega
theorem u8s_set (l : List UInt8) (j : Nat) (c : UInt8) : (u8s l).set j (.int .u8 (c.toNat : Int)) = u8s (l.set j c) := by
  unfold u8s; rw [List.map_set]
theorem own_some {w : World} {a : Option Addr} {n c : Nat} {bs : List UInt8} (h : w.ownsRow 0 5 1 (.slice a n c) bs.length (u8s bs)) (hb : bs ≠ []) : ∃ g, a = some ⟨g, 0, none⟩ := by
  rcases h.2 with ⟨_, e⟩ | ⟨g, c', cur, e, _⟩
  · exact absurd (List.eq_nil_of_length_eq_zero e) hb
  · injection e with e1 _ _; exact ⟨g, e1⟩
theorem slb_some {w : World} {a : Option Addr} {n c : Nat} {bs : List UInt8} (h : SlB w (.slice a n c) bs) (hb : bs ≠ []) : a.isNone = false := by
  rcases h.2 with ⟨_, e⟩ | ⟨g, o, d, e, _⟩
  · exact absurd e hb
  · injection e with e1 _ _; rw [e1]; rfl
theorem bytes_lt {zb : List Int} {lb N : Nat} : (bytesOf (zb.take (min lb N))).length ≤ N := by
  simp [bytesOf]; omega
theorem xor8 (a b : UInt8) : bits .xor .u8 (a.toNat : Int) (b.toNat : Int) = ((a ^^^ b).toNat : Int) := by
  rw [Go.u8_xor_nat a.toNat b.toNat (UInt8.toNat_lt a) (UInt8.toNat_lt b), UInt8.toNat_xor]
set_option maxRecDepth 100000 in
set_option maxHeartbeats 4000000 in
theorem walk (a0 : Option Addr) (len0 cap0 : Nat) (z0 : List Int) (a1 : Option Addr) (len1 cap1 : Nat) (z1 : List Int) (a2 : Int) (a3 : Int) (w : World) (w0 : IsRow .u8 w a0 len0 cap0 z0) (w1 : IsRow .u8 w a1 len1 cap1 z1) (w2 : (Lit.int .i64 a2).wf = true) (w3 : (Lit.int .u8 a3).wf = true) :
    Calls Try.prog 3 #[.slice a0 len0 cap0, .slice a1 len1 cap1, .int .i64 a2, .int .u8 a3] w fun e w' => e = .returned (.bool true) ∧ Below w.heap.size w w' := by
  obtain ⟨i0, hi0, hz0, hz1, hz2⟩ := info_parts infoB
  have hb := wf_bounds w2
  obtain ⟨xc, hxc⟩ : ∃ c : UInt8, (c.toNat : Int) = a3 := ⟨_, bytesOf_at w3⟩
  subst hxc
  have W0 := Lib.hid w0
  have W1 := Lib.hid w1
  obtain ⟨b, hbb⟩ : ∃ b, bytesOf (z0.take (min len0 100)) = b := ⟨_, rfl⟩
  obtain ⟨m, hmm⟩ : ∃ m, bytesOf (z1.take (min len1 40)) = m := ⟨_, rfl⟩
  have lb : b.length ≤ 100 := by rw [← hbb]; exact bytes_lt
  have lm : m.length ≤ 40 := by rw [← hmm]; exact bytes_lt
  have HB := Lib.hid hbb; have HM := Lib.hid hmm
  obtain ⟨n, hn⟩ : ∃ n, b.length = n := ⟨_, rfl⟩
  have N := Lib.hid hn
  rw [hn] at lb
  have LM := Lib.hid lm
  have heq := fun (w : World) (a : Option Addr) (n c : Nat) => Lib.run_eql_slice_nil (P := Try.prog) w 22 5 a n c 0 0 Try.underlying22
  clear w0 w1 w2 w3 hbb hmm hn lm
  go_enter Try.func3, Try.ntmps3
  go_wp2_with fail
  refine (begun4_any w).mono ?_
  rintro e w1 ⟨rfl, t1⟩
  have T1 := Lib.hid t1; clear t1
  go_wp2_with fail
  refine (short_own a0 len0 cap0 z0 100 w1 (W0.out.tch0 T1.out) (by omega)).mono ?_
  rintro e w2 ⟨v0, rfl, s2, f2, t2, o2⟩
  rw [HB.out] at s2
  have T2 := Lib.hid (T1.out.trans0 t2)
  have S2 := Lib.hid s2
  obtain ⟨c0, m0, d0, rfl, hm0⟩ := s2.shape'
  clear t2 s2 f2 o2 W0 HB hm0
  go_wp2_with fail
  refine (short_own a1 len1 cap1 z1 40 w2 (W1.out.tch0 T2.out) (by omega)).mono ?_
  rintro e w3 ⟨v1, rfl, s3, f3, t3, o3⟩
  rw [HM.out] at s3
  have T3 := Lib.hid (T2.out.trans0 t3)
  have S3 := Lib.hid s3
  have S2' := Lib.hid (S2.out.tch0 t3)
  obtain ⟨c1, m1, d1, rfl, hm1⟩ := s3.shape'
  clear t3 s3 f3 o3 W1 HM hm1 S2
  by_cases hfit : fits b
  · have hn1 : 1 ≤ n := by have h := N.out; unfold fits at hfit; omega
    have hfr := Lib.hid (frame_any _ b w3 S2'.out hfit)
    have hfl : Hid ((frameM b).length = 6 + n) := by rw [Hid, frameM_length, N.out]
    have hrf := Lib.hid (fun (W : World) (t : Tch No w3 W) => rframe_any _ b W (S2'.out.tch0 t) hfit)
    have hne : Hid (frameM b ≠ []) := fun e => by have := congrArg List.length e; rw [hfl.out] at this; simp at this
    rw [N.out] at hfr
    obtain ⟨F, hF⟩ : ∃ F, frameM b = F := ⟨_, rfl⟩
    unfold RFramePost at hrf
    rw [hF] at hfr hfl hrf hne
    clear hfit hF
    go_wp2_with fail
    refine hfr.out.mono ?_
    rintro e w4 ⟨g, gc, rfl, s4, _, t4, _⟩
    have hgc : 6 + n ≤ gc := by
      obtain ⟨a', c', e, h1, h2⟩ := s4.shape
      injection e with e1 e2 e3; rw [hfl.out] at h1; omega
    have S4 := Lib.hid s4; have T4 := Lib.hid t4
    clear s4 t4 hfr
    go_wp2_with fail
    refine (hrf.out w4 T4.out).mono ?_
    rintro e w5 ⟨v5, rfl, s5, _, _, t5⟩
    obtain ⟨c5, m5, d5, rfl, hm5⟩ := s5.shape'
    obtain ⟨S, hS⟩ : ∃ S : ByteArray, (⟨F.toArray⟩ : ByteArray) = S := ⟨_, rfl⟩
    have y1 : (convert 22 9 (.slice (some ⟨g, 0, none⟩) (6 + n) gc)).run Try.prog w5 = .ok (.string S) w5 := by rw [← hS]; exact str_of (S4.out.tch0 t5)
    have y2 : (convert 22 9 (.slice c5 m5 d5)).run Try.prog w5 = .ok (.string S) w5 := by rw [← hS]; exact str_of s5
    have y3 := slb_some s5 hne.out
    have S5 := Lib.hid (S4.out.tch0 t5)
    have M5 := Lib.hid ((S3.out.tch0 T4.out).tch0 t5)
    have T5 := Lib.hid ((T3.out.trans0 T4.out).trans0 t5)
    clear s5 t5 hm5 hrf S4 T4 S3 S2' hS
    go_wp2_with fail
    refine (cuts_any _ m w5 M5.out).mono ?_
    rintro e w6 ⟨rfl, t6⟩
    have S6 := Lib.hid (S5.out.tch0 t6)
    have M6 := Lib.hid (M5.out.tch0 t6)
    have T6 := Lib.hid (T5.out.trans0 t6)
    clear t6 S5 M5 T5 y1 y2
    by_cases hat : a2 < 0
    · clear hb
      go_wp2_with fail
      go_ret
      exact ⟨rfl, T6.out.below0⟩
    obtain ⟨p, rfl⟩ : ∃ r : Nat, a2 = (r : Int) := ⟨a2.toNat, by omega⟩
    obtain ⟨k, hk⟩ : ∃ k, p % (6 + n) = k := ⟨_, rfl⟩
    have hk6 : k < 6 + n := by rw [← hk]; exact Nat.mod_lt _ (by omega)
    have hrem : (p : Int).tmod ((6 + n : Nat) : Int) = (k : Int) := by rw [← Int.ofNat_tmod, hk]
    have hrem2 : (p : Int) % (6 + (n : Int)) = (k : Int) := by rw [← hk, Int.natCast_emod]; rfl
    have hat0 : ¬ (p : Int) < 0 := by omega
    clear hb hat hk
    have hFm : Hid (F ++ m ≠ [] ∧ k < (F ++ m).length) := ⟨fun e => hne.out (List.append_eq_nil_iff.1 e).1, by rw [List.length_append, hfl.out]; omega⟩
    obtain ⟨u, hu⟩ : ∃ u, ((F ++ m)[k]'hFm.out.2) = u := ⟨_, rfl⟩
    have hget : Hid ((u8s (F ++ m))[k]? = some (.int .u8 (u.toNat : Int))) := by
      rw [Hid, u8s, List.getElem?_map, List.getElem?_eq_getElem hFm.out.2, hu]; rfl
    have X8 := xor8 u xc
    obtain ⟨y, hy⟩ : ∃ y, u ^^^ xc = y := ⟨_, rfl⟩
    rw [hy] at X8
    clear hu hy
    obtain ⟨L, hL⟩ : ∃ L, (F ++ m).length = L := ⟨_, rfl⟩
    have hkL : k < L := by have := hFm.out.2; omega
    replace hL := Lib.hid hL
    have hl0 : Hid (F.length + m.length ≤ lim) := by rw [Hid, hfl.out]; have := LM.out; unfold lim; omega
    go_wp2_with (at_builtin; first
      | (refine wpList_app _ rfl _ _ 22 rfl 5 i0 Try.underlying22 hi0 hz0 hz1 hz2 (.slice none 0 0) [] rfl (World.ownsRow_nil _ _ _ _) (.slice (some ⟨g, 0, none⟩) (6 + n) gc) F rfl S6.out (by have := hl0.out; simp; omega) F (by simp [Hid]) ?_; intro aA nA cA wA hA hnA; have HA := Lib.hid hA; have TA : Hid (Tch No w6 wA) := Tch.grown hA.grow (fun q hq _ => by simp [Value.ownBlock] at hq); clear hA)
      | (refine wpList_app _ rfl _ _ 22 rfl 5 i0 Try.underlying22 hi0 hz0 hz1 hz2 (.slice aA nA cA) F rfl HA.out.own (.slice c1 m1 d1) m rfl (M6.out.tch0 TA.out) hl0.out (F ++ m) (by simp [Hid]) ?_; intro aB nB cB wB hB hnB; have HB := Lib.hid hB; have TB : Hid (Tch No w6 wB) := TA.out.fresh (Tch.grown hB.grow (F := fun k => (Value.slice aA nA cA).ownBlock = some k) (fun k hk _ => hk)) (fun k hk => by
        rcases HA.out.loc with e | e
        · rw [e] at hk; simp [Value.ownBlock] at hk
        · rw [e] at hk; simp at hk; omega); have SB : Hid (SlB wB (.slice aB nB cB) (F ++ m)) := SlB.ofRow hB.own (by have := hl0.out; rw [List.length_append]; omega); clear hB)
      | (refine wpList_app _ rfl _ _ 22 rfl 5 i0 Try.underlying22 hi0 hz0 hz1 hz2 (.slice none 0 0) [] rfl (World.ownsRow_nil _ _ _ _) (.slice aB nB cB) (F ++ m) rfl SB.out (by have := hl0.out; rw [List.length_append]; simp; omega) (F ++ m) (by simp [Hid]) ?_; intro aD nD cD wD hD hnD; have HD := Lib.hid hD; have HND := Lib.hid hnD; have TD : Hid (Tch No wB wD) := Tch.grown hD.grow (fun q hq _ => by simp [Value.ownBlock] at hq); clear hD; have eN : nD = L := HND.out.out.trans hL.out; subst eN; obtain ⟨gd, hgd⟩ := own_some HD.out.own (hFm.out.1); subst hgd; have OD := HD.out.own; rw [hL.out] at OD; have cell := OD.cellAt k (by omega); have fro := OD.frozenAt k; rw [hget.out] at cell; have OWN := Lib.hid OD; clear OD))
    have hgd : Hid (gd = wB.heap.size) := by
      rcases HD.out.loc with e | e
      · simp [Value.ownBlock] at e
      · simp [Value.ownBlock] at e; exact e
    obtain ⟨wE, hwE⟩ : ∃ wE, wD.setCell ⟨gd, k, none⟩ (.int .u8 (y.toNat : Int)) = wE := ⟨_, rfl⟩
    have TS : Hid (Tch (fun q => q = gd) wD wE) := by rw [← hwE]; exact Tch.setCell (F := fun q => q = gd) wD ⟨gd, k, none⟩ _ (fun _ => rfl)
    have SE : Hid (SlB wE (.slice (some ⟨gd, 0, none⟩) nD cD) ((F ++ m).set k y)) := by
      have h := (OWN.out.stored k (.int .u8 (y.toNat : Int))).1
      rw [u8s_set, hwE] at h
      have e : ((F ++ m).set k y).length = nD := by rw [List.length_set, hL.out]
      rw [← e] at h
      have h2 := SlB.ofRow h (by rw [List.length_set, List.length_append]; exact hl0.out)
      rw [e] at h2
      exact h2
    have CE : Hid (SlB wE (.slice aB nB cB) (F ++ m)) := (SB.out.tch0 TD.out).tch TS.out (fun q hq e => by have := SB.out.blt q hq; have := hgd.out; omega)
    have FE : Hid (SlB wE (.slice (some ⟨g, 0, none⟩) k gc) (F.take k)) := by
      have h := ((S6.out.tch0 TB.out).tch0 TD.out).tch TS.out (fun q hq e => by have := (S6.out.tch0 TB.out).blt q hq; have := hgd.out; omega)
      exact h.take k (by rw [hfl.out]; omega)
    have TE : Hid (Tch No w wE) := (T6.out.trans0 TB.out).fresh (Tch.trans TD.out.no TS.out (fun _ _ h => h)) (fun q hq => by have := hgd.out; have := (T6.out.trans0 TB.out).size; omega)
    rw [hwE]
    clear hwE TS HD OWN TD SB TB HB HA TA S6 cell fro T6
    refine (cuts_any _ (F ++ m) wE CE.out).mono ?_
    rintro e w7 ⟨rfl, t7⟩
    have T7 := Lib.hid t7; clear t7
    have hkgc : k ≤ gc := by omega
    go_wp2_with fail
    refine (cuts_any _ _ w7 (SE.out.tch0 T7.out)).mono ?_
    rintro e w8 ⟨rfl, t8⟩
    have T8 := Lib.hid (T7.out.trans0 t8); clear t8 T7
    go_wp2_with fail
    refine (cuts_any _ _ w8 (FE.out.tch0 T8.out)).mono ?_
    rintro e w9 ⟨rfl, t9⟩
    have T9 := Lib.hid (TE.out.trans0 (T8.out.trans0 t9)); clear t9 T8
    go_wp2_with fail
    go_ret
    exact ⟨rfl, T9.out.below0⟩
  · have hno := Lib.hid (frame_no _ b w3 S2'.out hfit)
    have hrn := Lib.hid (rframe_no _ b w3 S2'.out hfit)
    clear hfit hb
    go_wp2_with fail
    refine hno.out.mono ?_
    rintro e w4 ⟨rfl, rfl⟩
    go_wp2_with fail
    refine hrn.out.mono ?_
    rintro e w5 ⟨rfl, rfl⟩
    have y1 : (convert 22 9 (.slice none 0 0)).run Try.prog w3 = .ok (.string ⟨#[]⟩) w3 := str_of (SlB.nil _)
    go_wp2_with fail
    refine (cuts_any _ m w3 S3.out).mono ?_
    rintro e w6 ⟨rfl, t6⟩
    have T6 := Lib.hid (T3.out.trans0 t6)
    clear t6 y1
    go_wp2_with fail
    go_ret
    exact ⟨rfl, T6.out.below0⟩

/-! ### THE ROW's STEP: WRITTEN OUT: LEAVE IT -/
set_option maxRecDepth 100000 in
theorem lifted (os : Os) (started : os.Started) (H : Type) (enc : TypeId × Value → H) :
    ReturnsInHanded {} Try.checked os 3 .any (Rows.segFrameSpec.pre6 enc Try.prog Try.f3 Rows.segFrameRow.domain false) (Rows.segFrameSpec.post enc Try.prog Try.f3 false true false false) := by
  refine returnsInHanded_of_change (C := Try.checked) own started (by kernel_rfl) Try.func3
    (ChangeSpec.witness6 (enc := enc) (C := Try.checked) false ⟨#[], #[.slice none 0 0, .slice none 0 0, .int .i64 0, .int .u8 0], []⟩ 8 (by kernel_rfl) (by kernel_rfl) (by kernel_rfl) (by kernel_rfl)) ?_
  intro W base args ds gs before hval0 hW hcnd _
  have hval : ∀ (j : Nat) t v, Try.f3.params[j]? = some t → args[j]? = some v → Value.okWide Try.prog W .any base t v := hval0
  have hW' := hW
  obtain ⟨p, q, hA0, hV, rfl, hfz, hnd⟩ := hW
  have hA : DataW.TrodAll enc Try.prog W 0 (fun _ => true) true Try.f3.params.toList args.toList ds p := hA0
  rw [Try.params3] at hA hval
  obtain ⟨v0, vs0, d0, ds0, p0, q0, hargs, rfl, rfl, h0, r0⟩ := trodAll_cons hA
  obtain ⟨v1, vs1, d1, ds1, p1, q1, rfl, rfl, rfl, h1, r1⟩ := trodAll_cons r0
  obtain ⟨v2, vs2, d2, ds2, p2, q2, rfl, rfl, rfl, h2, r2⟩ := trodAll_cons r1
  obtain ⟨v3, vs3, d3, ds3, p3, q3, rfl, rfl, rfl, h3, r3⟩ := trodAll_cons r2
  obtain ⟨rfl, rfl, rfl⟩ := trodAll_nil r3
  obtain rfl : args = #[v0, v1, v2, v3] := by cases args; simp_all
  obtain ⟨rfl, rfl⟩ := trodVars_none hV
  obtain ⟨a0, len0, cap0, rfl⟩ := okWide_slice Try.underlying22 (hval 0 22 v0 rfl rfl)
  have k0 := h0
  have lt0 : ∀ x ∈ p0, x.block < W.heap.size := by obtain ⟨m, hm⟩ := k0; exact DataW.trod_lt m _ _ _ hm
  obtain ⟨z0, w0⟩ : ∃ zs, IsRow .u8 W a0 len0 cap0 zs := by
    obtain ⟨fuel, hf⟩ := h0
    rcases open_ints Try.underlying22 Try.underlying5 (by kernel_rfl) hf with ⟨hcs, _⟩ | ⟨x, l, c, zs, hcs, _, hl, hm, hz, _, hcell, hwz⟩
    · simp [Value.cells] at hcs
      obtain ⟨rfl, rfl, rfl⟩ := hcs
      exact ⟨[], .inl ⟨rfl, rfl, rfl, rfl⟩⟩
    · simp [Value.cells] at hcs
      obtain ⟨rfl, rfl, rfl⟩ := hcs
      exact ⟨zs, .inr ⟨_, rfl, hl, hm, by simpa using hz, hcell, hwz⟩⟩
  obtain ⟨a1, len1, cap1, rfl⟩ := okWide_slice Try.underlying22 (hval 1 22 v1 rfl rfl)
  have k1 := h1
  have lt1 : ∀ x ∈ p1, x.block < W.heap.size := by obtain ⟨m, hm⟩ := k1; exact DataW.trod_lt m _ _ _ hm
  obtain ⟨z1, w1⟩ : ∃ zs, IsRow .u8 W a1 len1 cap1 zs := by
    obtain ⟨fuel, hf⟩ := h1
    rcases open_ints Try.underlying22 Try.underlying5 (by kernel_rfl) hf with ⟨hcs, _⟩ | ⟨x, l, c, zs, hcs, _, hl, hm, hz, _, hcell, hwz⟩
    · simp [Value.cells] at hcs
      obtain ⟨rfl, rfl, rfl⟩ := hcs
      exact ⟨[], .inl ⟨rfl, rfl, rfl, rfl⟩⟩
    · simp [Value.cells] at hcs
      obtain ⟨rfl, rfl, rfl⟩ := hcs
      exact ⟨zs, .inr ⟨_, rfl, hl, hm, by simpa using hz, hcell, hwz⟩⟩
  obtain ⟨a2, rfl, rfl, rfl, w2⟩ := open_int Try.underlying3 (hval 2 3 v2 rfl rfl) h2
  obtain ⟨a3, rfl, rfl, rfl, w3⟩ := open_int Try.underlying5 (hval 3 5 v3 rfl rfl) h3
  clear hA0 hval0
  refine (walk a0 len0 cap0 z0 a1 len1 cap1 z1 a2 a3 W w0 w1 w2 w3).mono fun e W' ⟨he, bel⟩ => ?_
  subst he
  exact ⟨_, rfl, _, _, _, [], _, [], hW', trodAll_mk1 (shut_bool Try.underlying4 _), (trodAll_cons_mk (Below.trod laidOut (by kernel_rfl) (of_decide_eq_true (by kernel_rfl)) k0 bel lt0) (trodAll_cons_mk (Below.trod laidOut (by kernel_rfl) (of_decide_eq_true (by kernel_rfl)) k1 bel lt1) (trodAll_cons_mk (shut_int Try.underlying3 w2) (trodAll_cons_mk (shut_int Try.underlying5 w3) trodAll_mk0)))), rfl, bel.frame _, fun h => by cases h⟩

theorem over : Rows.segFrameRow.holds Try.pinned (OpenSpec.ofChange Rows.segFrameSpec) :=
  OpenClaim.holds_of_wide 3 Try.f3 rfl rfl rfl rfl rfl rfl rfl ⟨rfl, rfl, rfl, rfl, rfl⟩ rfl rfl rfl rfl rfl (by kernel_rfl) Try.func3 (by kernel_rfl)
    (of_decide_eq_true (by kernel_rfl)) (by unfold Func.isWrapper; first | (rw [if_pos (by decide +kernel)]; kernel_rfl) | (rw [if_neg (by decide +kernel)]; exact ⟨rfl, rfl⟩))
    (fun os started H enc _ => lifted os started H enc)

/--  THE STATEMENT  -/
theorem proved : Rows.SegFrameSaid := over
#print axioms proved
end Go.Proofs.Ytcjlgdldhcbcjaa.segFrame
