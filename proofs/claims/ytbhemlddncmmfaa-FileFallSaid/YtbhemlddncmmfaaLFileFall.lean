/- FileFall: the law FileFall returns true for every input, and each argument reads behind the call as it read before. No condition. The frame is the kit's proof-skeleton. -/
import Derived.Test.YtbhemlddncmmfaaRows
import Derived.WalkKit
import Derived.ProofKit
import Derived.OpenShut
import Derived.ShutString
import Derived.ChangeOld
import Derived.Below
import Derived.Test.YtbhemlddncmmfaaBeg3
import Derived.Test.YtbhemlddncmmfaaDo
namespace Go.Proofs.Ytbhemlddncmmfaa.fileFall
open Go.ChangeShapes Go.WideShapes Go.ChangeAt Go.RowKit Go.Maps
open Go.ChangeMaps (open_string shut_string)
set_option linter.unusedVariables false
set_option linter.unusedSimpArgs false

theorem own : ownKnob Try.prog.godebug = none := by kernel_rfl
theorem laidOut : laidOutB Try.prog = true := by kernel_rfl

theorem wf_bounds {n : Int} (h : (Lit.int .i64 n).wf = true) : -9223372036854775808 ≤ n ∧ n ≤ 9223372036854775807 := by
  simp only [Lit.wf, IntKind.min, IntKind.max, IntKind.signed, IntKind.bits] at h
  simp at h; omega
theorem fall_again {n m : Int} {f g : FE} (hs : f.sure ≤ f.b.length) (h : fallE n f = some g) : fallE m g = some g := by
  have h1 := stays_le (n := n) hs
  unfold fallE at h
  split at h
  · injection h with h
    subst h
    obtain ⟨st, hst⟩ : ∃ st, stays n f = st := ⟨_, rfl⟩
    rw [hst] at h1 ⊢
    have h2 : stays m ⟨f.name, f.b.take st, st, true⟩ = st := by
      unfold stays
      simp only [List.length_take]
      rw [show ((min st f.b.length : Nat) : Int) - (st : Int) + 1 = 1 by omega, Int.emod_one]
      simp
    unfold fallE
    rw [h2, if_pos (by right; rfl)]
    simp [List.take_take]
  · cases h
theorem mfall_again {n m : Int} : ∀ {M : List FE}, (∀ f ∈ M, f.sure ≤ f.b.length) → mFall m (mFall n M) = mFall n M
  | [], _ => rfl
  | f :: r, h => by
    have ih := mfall_again (n := n) (m := m) (M := r) (fun x hx => h x (List.mem_cons_of_mem _ hx))
    unfold mFall at ih ⊢
    rw [List.filterMap_cons]
    cases he : fallE n f with
    | none => exact ih
    | some g => rw [List.filterMap_cons, fall_again (h f List.mem_cons_self) he]; simp only; rw [ih]
/-- A disk that holds M. -/
def FD (w : World) (d room : Nat) (M : List FE) : Prop := ∃ mb L, IsDisk w d mb room L ∧ L.map (·.f) = M
/-- A document's disk that holds M. -/
def RD (w : World) (r room : Nat) (M : List FE) : Prop := ∃ v R, IsRef w r room v R ∧ R.map (·.f) = M
theorem FD.keep {w w' : World} {d room : Nat} {M : List FE} (h : FD w d room M) (t : Tch No w w') : FD w' d room M := by
  obtain ⟨mb, L, h1, h2⟩ := h; exact ⟨mb, L, h1.tch0 t, h2⟩
theorem RD.keep {w w' : World} {d room : Nat} {M : List FE} (h : RD w d room M) (t : Tch No w w') : RD w' d room M := by
  obtain ⟨mb, L, h1, h2⟩ := h; exact ⟨mb, L, h1.tch0 t, h2⟩
theorem RD.sure {w : World} {d room : Nat} {M : List FE} (h : RD w d room M) : ∀ f ∈ M, f.sure ≤ f.b.length := by
  obtain ⟨v, R, h1, rfl⟩ := h
  intro f hf
  obtain ⟨x, hx, rfl⟩ := List.mem_map.1 hf
  exact h1.le x hx
theorem two_fd {w0 w : World} {db mb room rb : Nat} {M N : List FE} {Hs : List (Value × List UInt8)} (h : Two w0 w db mb room rb M N Hs) : FD w db room M ∧ RD w rb room N := by
  obtain ⟨L, v', R, h1, h2, h3, h4, _⟩ := h
  exact ⟨⟨mb, L, h3, h1⟩, ⟨v', R, h4, h2⟩⟩
theorem fd_fall {w : World} {d room : Nat} {M : List FE} (h : FD w d room M) (n : Int) (hn1 : -9223372036854775808 ≤ n) (hn2 : n ≤ 9223372036854775807) (hcnt : M.length ≤ 999998) :
    Calls Try.prog 19 #[.pointer (some ⟨d, 0, none⟩), .int .i64 n] w fun e w' => ∃ d', e = .returned (.pointer (some ⟨d', 0, none⟩)) ∧ FD w' d' room (mFall n M) ∧ Tch No w w' := by
  obtain ⟨mb, L, h1, rfl⟩ := h
  refine (fall_any d mb room L n w h1 (by simp at hcnt; omega) hn1 hn2).mono ?_
  rintro e w' ⟨db', mb', L', rfl, q1, q2, q3, q4⟩
  exact ⟨db', rfl, ⟨mb', L', q2, q1⟩, q4⟩
theorem rd_fall {w : World} {d room : Nat} {M : List FE} (h : RD w d room M) (n : Int) (hn1 : -9223372036854775808 ≤ n) (hn2 : n ≤ 9223372036854775807) (hcnt : M.length ≤ 999998) :
    Calls Try.prog 20 #[.pointer (some ⟨d, 0, none⟩), .int .i64 n] w fun e w' => ∃ d', e = .returned (.pointer (some ⟨d', 0, none⟩)) ∧ RD w' d' room (mFall n M) ∧ Tch No w w' := by
  obtain ⟨v, R, h1, rfl⟩ := h
  refine (rfall_any d room v R n w h1 (by simp at hcnt; omega) hn1 hn2).mono ?_
  rintro e w' ⟨rb', v2, R', rfl, q1, q2, q3, q4⟩
  exact ⟨rb', rfl, ⟨v2, R', q2, q1⟩, q4⟩
theorem fd_same {w : World} {d r room room2 : Nat} {M : List FE} (h : FD w d room M) (hr : RD w r room2 M) (hcnt : M.length ≤ 999998) :
    Calls Try.prog 18 #[.pointer (some ⟨d, 0, none⟩), .pointer (some ⟨r, 0, none⟩)] w fun e w' => e = .returned (.bool true) ∧ Tch No w w' := by
  obtain ⟨mb, L, h1, h2⟩ := h
  obtain ⟨v, R, h3, h4⟩ := hr
  exact same_any d mb room L r room2 v R w h1 h3 (h4.trans h2.symm) (by rw [← h2] at hcnt; simp at hcnt; omega)
set_option maxRecDepth 100000 in
set_option maxHeartbeats 4000000 in
theorem walk (a0 : Option Addr) (len0 cap0 : Nat) (a1 : Int) (a2 : Int) (w : World) (w0 : IsOps w a0 len0 cap0) (w1 : (Lit.int .i64 a1).wf = true) (w2 : (Lit.int .i64 a2).wf = true) :
    Calls Try.prog 4 #[.slice a0 len0 cap0, .int .i64 a1, .int .i64 a2] w fun e w' => e = .returned (.bool true) ∧ Below w.heap.size w w' := by
  have W0 := Lib.hid w0
  have N1 := Lib.hid (wf_bounds w1)
  have N2 := Lib.hid (wf_bounds w2)
  clear w0 w1 w2
  go_enter Try.func4, Try.ntmps4
  go_wp2_with fail
  refine (begun3_any w).mono ?_
  rintro e w1 ⟨rfl, t1⟩
  have T1 := Lib.hid t1; clear t1
  go_wp2_with fail
  refine (dst_new 2000 w1).mono ?_
  rintro e w4 ⟨db, mb, rfl, h4⟩
  have H4 := Lib.hid h4; clear h4
  go_wp2_with fail
  refine (two_new H4.out 2000 rfl).mono ?_
  rintro e w5 ⟨rb, rfl, h5⟩
  rw [show roomOf 2000 = 2000 by rfl] at h5
  have H5 := Lib.hid h5; clear h5 H4
  go_wp2_with fail
  go_loopg [8, 9, 10, 11] 20 (fun g s6 s7 s8 s9 wr => ∃ (j db mb rb : Nat) (M : List FE), j ≤ len0 ∧ j ≤ 20 ∧ g = 20 - j ∧ s9 = .int .i64 j ∧ s8 = .bool true ∧ s6 = .pointer (some ⟨db, 0, none⟩) ∧ s7 = .pointer (some ⟨rb, 0, none⟩) ∧ M.length ≤ j ∧ Hid (Two w1 wr db mb 2000 rb M M []))
  case atStart => exact ⟨0, db, mb, rb, [], by omega, by omega, by omega, rfl, rfl, rfl, rfl, by simp, H5⟩
  case round =>
    clear H5
    obtain ⟨j, db, mb, rb, M, hj1, hj2, hg, rfl, rfl, rfl, rfl, hML, HD⟩ := hrel
    by_cases gg : j < len0 ∧ j < 20
    · obtain ⟨g1, g2⟩ := gg
      obtain ⟨ob, oo, k, n, s, t, bb, lb, cb, zb, ha, hop⟩ := W0.out.2.2 j g1
      subst ha
      have HOP := Lib.hid (hop.tch0 (T1.out.trans0 HD.out.base))
      clear hop
      obtain ⟨q0, q1, q2, q3, q4, _⟩ := HOP.out
      simp only [addr_add, Nat.add_zero] at q0 q1 q2 q3 q4
      by_cases k4 : k = 4
      · subst k4
        go_wp2_with fail
        have hn := wf_bounds HOP.out.2.2.2.2.2.1
        refine (do_any (HD.out.keep (Tch.alloc _ _)) 0 n s t bb lb cb zb (HOP.out.2.2.2.2.2.2.2.2.tch0 (Tch.alloc _ _)) hn.1 hn.2 HOP.out.2.2.2.2.2.2.1 HOP.out.2.2.2.2.2.2.2.1 (by omega)).mono ?_
        rintro e w6 ⟨db', mb', rb', M', rfl, h6, hl6⟩
        have H6 := Lib.hid h6; clear h6 HOP q0 q1 q2 q3 q4 hn
        go_wp2_with fail
        go_roundg (20 - (j + 1))
        case measure => omega
        case rel => exact ⟨j + 1, db', mb', rb', M', by omega, by omega, rfl, by go_num, rfl, rfl, rfl, by omega, H6⟩
      · go_wp2_with fail
        have hn := wf_bounds HOP.out.2.2.2.2.2.1
        refine (do_any (HD.out.keep (Tch.alloc _ _)) k n s t bb lb cb zb (HOP.out.2.2.2.2.2.2.2.2.tch0 (Tch.alloc _ _)) hn.1 hn.2 HOP.out.2.2.2.2.2.2.1 HOP.out.2.2.2.2.2.2.2.1 (by omega)).mono ?_
        rintro e w6 ⟨db', mb', rb', M', rfl, h6, hl6⟩
        have H6 := Lib.hid h6; clear h6 HOP q0 q1 q2 q3 q4 hn
        go_wp2_with fail
        go_roundg (20 - (j + 1))
        case measure => omega
        case rel => exact ⟨j + 1, db', mb', rb', M', by omega, by omega, rfl, by go_num, rfl, rfl, rfl, by omega, H6⟩
    · have D0 := Lib.hid (two_fd HD.out)
      have B0 := Lib.hid (T1.out.trans0 HD.out.base)
      have hF1 := lenF M a1
      have hF2 := lenF M a2
      have hag : Hid (mFall a2 (mFall a1 M) = mFall a1 M) := mfall_again D0.out.2.sure
      clear HD
      by_cases g1 : j < len0
      · have g2 : ¬ j < 20 := fun h => gg ⟨g1, h⟩
        clear gg
        go_wp2_with fail
        refine (fd_fall D0.out.1 a1 N1.out.1 N1.out.2 (by omega)).mono ?_
        rintro e v1 ⟨da, rfl, hA, tA⟩
        have DA := Lib.hid hA; have TA := Lib.hid tA; clear hA tA
        go_wp2_with fail
        refine (fd_fall (D0.out.1.keep TA.out) a2 N2.out.1 N2.out.2 (by omega)).mono ?_
        rintro e v2 ⟨dbb, rfl, hA, tA⟩
        have DB := Lib.hid hA; have TB := Lib.hid (TA.out.trans0 tA); have DA2 := Lib.hid (DA.out.keep tA); clear hA tA DA TA
        go_wp2_with fail
        refine (rd_fall (D0.out.2.keep TB.out) a1 N1.out.1 N1.out.2 (by omega)).mono ?_
        rintro e v3 ⟨ra, rfl, hA, tA⟩
        have RA := Lib.hid hA; have TC := Lib.hid (TB.out.trans0 tA); have DA := Lib.hid (DA2.out.keep tA); have DB2 := Lib.hid (DB.out.keep tA); clear hA tA DA2 TB DB
        go_wp2_with fail
        refine (fd_same DA.out RA.out (by omega)).mono ?_
        rintro e v4 ⟨rfl, tA⟩
        have TB := Lib.hid (TC.out.trans0 tA); have DA2 := Lib.hid (DA.out.keep tA); have DB := Lib.hid (DB2.out.keep tA); clear tA DA TC DB2 RA
        go_wp2_with fail
        refine (rd_fall (D0.out.2.keep TB.out) a2 N2.out.1 N2.out.2 (by omega)).mono ?_
        rintro e v5 ⟨ra, rfl, hA, tA⟩
        have RA := Lib.hid hA; have TC := Lib.hid (TB.out.trans0 tA); have DA := Lib.hid (DA2.out.keep tA); have DB2 := Lib.hid (DB.out.keep tA); clear hA tA DA2 TB DB
        go_wp2_with fail
        refine (fd_same DB2.out RA.out (by omega)).mono ?_
        rintro e v6 ⟨rfl, tA⟩
        have TB := Lib.hid (TC.out.trans0 tA); have DA2 := Lib.hid (DA.out.keep tA); clear tA DA TC DB2 RA
        go_wp2_with fail
        refine (fd_fall DA2.out a2 N2.out.1 N2.out.2 (by omega)).mono ?_
        rintro e v7 ⟨dc, rfl, hA, tA⟩
        rw [hag.out] at hA
        have DC := Lib.hid hA; have TC := Lib.hid (TB.out.trans0 tA); clear hA tA DA2 TB
        go_wp2_with fail
        refine (rd_fall (D0.out.2.keep TC.out) a1 N1.out.1 N1.out.2 (by omega)).mono ?_
        rintro e v8 ⟨rd, rfl, hA, tA⟩
        have RA := Lib.hid hA; have TB := Lib.hid (TC.out.trans0 tA); have DC2 := Lib.hid (DC.out.keep tA); clear hA tA DC TC
        go_wp2_with fail
        refine (fd_same DC2.out RA.out (by omega)).mono ?_
        rintro e v9 ⟨rfl, tA⟩
        have TC := Lib.hid (TB.out.trans0 tA); clear tA DC2 TB RA
        go_wp2_with fail
        refine (fd_same (D0.out.1.keep TC.out) (D0.out.2.keep TC.out) (by omega)).mono ?_
        rintro e v10 ⟨rfl, tA⟩
        have TB := Lib.hid (B0.out.trans0 (TC.out.trans0 tA)); clear tA
        go_wp2_with fail
        go_ret
        exact ⟨rfl, TB.out.below0⟩
      · clear gg
        go_wp2_with fail
        refine (fd_fall D0.out.1 a1 N1.out.1 N1.out.2 (by omega)).mono ?_
        rintro e v1 ⟨da, rfl, hA, tA⟩
        have DA := Lib.hid hA; have TA := Lib.hid tA; clear hA tA
        go_wp2_with fail
        refine (fd_fall (D0.out.1.keep TA.out) a2 N2.out.1 N2.out.2 (by omega)).mono ?_
        rintro e v2 ⟨dbb, rfl, hA, tA⟩
        have DB := Lib.hid hA; have TB := Lib.hid (TA.out.trans0 tA); have DA2 := Lib.hid (DA.out.keep tA); clear hA tA DA TA
        go_wp2_with fail
        refine (rd_fall (D0.out.2.keep TB.out) a1 N1.out.1 N1.out.2 (by omega)).mono ?_
        rintro e v3 ⟨ra, rfl, hA, tA⟩
        have RA := Lib.hid hA; have TC := Lib.hid (TB.out.trans0 tA); have DA := Lib.hid (DA2.out.keep tA); have DB2 := Lib.hid (DB.out.keep tA); clear hA tA DA2 TB DB
        go_wp2_with fail
        refine (fd_same DA.out RA.out (by omega)).mono ?_
        rintro e v4 ⟨rfl, tA⟩
        have TB := Lib.hid (TC.out.trans0 tA); have DA2 := Lib.hid (DA.out.keep tA); have DB := Lib.hid (DB2.out.keep tA); clear tA DA TC DB2 RA
        go_wp2_with fail
        refine (rd_fall (D0.out.2.keep TB.out) a2 N2.out.1 N2.out.2 (by omega)).mono ?_
        rintro e v5 ⟨ra, rfl, hA, tA⟩
        have RA := Lib.hid hA; have TC := Lib.hid (TB.out.trans0 tA); have DA := Lib.hid (DA2.out.keep tA); have DB2 := Lib.hid (DB.out.keep tA); clear hA tA DA2 TB DB
        go_wp2_with fail
        refine (fd_same DB2.out RA.out (by omega)).mono ?_
        rintro e v6 ⟨rfl, tA⟩
        have TB := Lib.hid (TC.out.trans0 tA); have DA2 := Lib.hid (DA.out.keep tA); clear tA DA TC DB2 RA
        go_wp2_with fail
        refine (fd_fall DA2.out a2 N2.out.1 N2.out.2 (by omega)).mono ?_
        rintro e v7 ⟨dc, rfl, hA, tA⟩
        rw [hag.out] at hA
        have DC := Lib.hid hA; have TC := Lib.hid (TB.out.trans0 tA); clear hA tA DA2 TB
        go_wp2_with fail
        refine (rd_fall (D0.out.2.keep TC.out) a1 N1.out.1 N1.out.2 (by omega)).mono ?_
        rintro e v8 ⟨rd, rfl, hA, tA⟩
        have RA := Lib.hid hA; have TB := Lib.hid (TC.out.trans0 tA); have DC2 := Lib.hid (DC.out.keep tA); clear hA tA DC TC
        go_wp2_with fail
        refine (fd_same DC2.out RA.out (by omega)).mono ?_
        rintro e v9 ⟨rfl, tA⟩
        have TC := Lib.hid (TB.out.trans0 tA); clear tA DC2 TB RA
        go_wp2_with fail
        refine (fd_same (D0.out.1.keep TC.out) (D0.out.2.keep TC.out) (by omega)).mono ?_
        rintro e v10 ⟨rfl, tA⟩
        have TB := Lib.hid (B0.out.trans0 (TC.out.trans0 tA)); clear tA
        go_wp2_with fail
        go_ret
        exact ⟨rfl, TB.out.below0⟩

/-! ### THE ROW's STEP: WRITTEN OUT: LEAVE IT -/
set_option maxRecDepth 100000 in
theorem lifted (os : Os) (started : os.Started) (H : Type) (enc : TypeId × Value → H) :
    ReturnsInHanded {} Try.checked os 4 .any (Rows.fileFallSpec.pre6 enc Try.prog Try.f4 Rows.fileFallRow.domain false) (Rows.fileFallSpec.post enc Try.prog Try.f4 false true false false) := by
  refine returnsInHanded_of_change (C := Try.checked) own started (by kernel_rfl) Try.func4
    (ChangeSpec.witness6 (enc := enc) (C := Try.checked) false ⟨#[], #[.slice none 0 0, .int .i64 0, .int .i64 0], []⟩ 8 (by kernel_rfl) (by kernel_rfl) (by kernel_rfl) (by kernel_rfl)) ?_
  intro W base args ds gs before hval0 hW hcnd _
  have hval : ∀ (j : Nat) t v, Try.f4.params[j]? = some t → args[j]? = some v → Value.okWide Try.prog W .any base t v := hval0
  have hW' := hW
  obtain ⟨p, q, hA0, hV, rfl, hfz, hnd⟩ := hW
  have hA : DataW.TrodAll enc Try.prog W 0 (fun _ => true) true Try.f4.params.toList args.toList ds p := hA0
  rw [Try.params4] at hA hval
  obtain ⟨v0, vs0, d0, ds0, p0, q0, hargs, rfl, rfl, h0, r0⟩ := trodAll_cons hA
  obtain ⟨v1, vs1, d1, ds1, p1, q1, rfl, rfl, rfl, h1, r1⟩ := trodAll_cons r0
  obtain ⟨v2, vs2, d2, ds2, p2, q2, rfl, rfl, rfl, h2, r2⟩ := trodAll_cons r1
  obtain ⟨rfl, rfl, rfl⟩ := trodAll_nil r2
  obtain rfl : args = #[v0, v1, v2] := by cases args; simp_all
  obtain ⟨rfl, rfl⟩ := trodVars_none hV
  obtain ⟨a0, len0, cap0, rfl⟩ := okWide_slice Try.underlying22 (hval 0 22 v0 rfl rfl)
  have k0 := h0
  have lt0 : ∀ x ∈ p0, x.block < W.heap.size := by obtain ⟨m, hm⟩ := k0; exact DataW.trod_lt m _ _ _ hm
  have w0 : IsOps W a0 len0 cap0 := by
    obtain ⟨fuel, hf⟩ := h0
    obtain ⟨_, _, _, hcs, hw⟩ := open_ops hf
    simp [Value.cells] at hcs
    obtain ⟨rfl, rfl, rfl⟩ := hcs
    exact hw
  obtain ⟨a1, rfl, rfl, rfl, w1⟩ := open_int Try.underlying3 (hval 1 3 v1 rfl rfl) h1
  obtain ⟨a2, rfl, rfl, rfl, w2⟩ := open_int Try.underlying3 (hval 2 3 v2 rfl rfl) h2
  clear hA0 hval0
  refine (walk a0 len0 cap0 a1 a2 W w0 w1 w2).mono fun e W' ⟨he, bel⟩ => ?_
  subst he
  exact ⟨_, rfl, _, _, _, [], _, [], hW', trodAll_mk1 (shut_bool Try.underlying4 _), (trodAll_cons_mk (Below.trod laidOut (by kernel_rfl) (of_decide_eq_true (by kernel_rfl)) k0 bel lt0) (trodAll_cons_mk (shut_int Try.underlying3 w1) (trodAll_cons_mk (shut_int Try.underlying3 w2) trodAll_mk0))), rfl, bel.frame _, fun h => by cases h⟩

theorem over : Rows.fileFallRow.holds Try.pinned (OpenSpec.ofChange Rows.fileFallSpec) :=
  OpenClaim.holds_of_wide 4 Try.f4 rfl rfl rfl rfl rfl rfl rfl ⟨rfl, rfl, rfl, rfl, rfl⟩ rfl rfl rfl rfl rfl (by kernel_rfl) Try.func4 (by kernel_rfl)
    (of_decide_eq_true (by kernel_rfl)) (by unfold Func.isWrapper; first | (rw [if_pos (by decide +kernel)]; kernel_rfl) | (rw [if_neg (by decide +kernel)]; exact ⟨rfl, rfl⟩))
    (fun os started H enc _ => lifted os started H enc)

/--  THE STATEMENT  -/
theorem proved : Rows.FileFallSaid := over
#print axioms proved
end Go.Proofs.Ytbhemlddncmmfaa.fileFall
