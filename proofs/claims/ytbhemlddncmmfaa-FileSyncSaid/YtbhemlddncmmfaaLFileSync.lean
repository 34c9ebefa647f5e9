/- FileSync: the law FileSync returns true for every input, and each argument reads behind the call as it read before. No condition. The frame is the kit's proof-skeleton. -/
import Derived.Test.YtbhemlddncmmfaaRows
import Derived.WalkKit
import Derived.ProofKit
import Derived.OpenShut
import Derived.ShutString
import Derived.ChangeOld
import Derived.Below
import Derived.Test.YtbhemlddncmmfaaBeg3
namespace Go.Proofs.Ytbhemlddncmmfaa.fileSync
open Go.ChangeShapes Go.WideShapes Go.ChangeAt Go.RowKit Go.Maps
open Go.ChangeMaps (open_string shut_string)
set_option linter.unusedVariables false

theorem own : ownKnob Try.prog.godebug = none := by kernel_rfl
theorem laidOut : laidOutB Try.prog = true := by kernel_rfl

theorem fs1 {A : List UInt8} (hA : A.length ≤ 60) : mAppend [] (roomOf 1000) [102] A = (0, [⟨[102], A, 0, false⟩]) := by
  have : roomOf 1000 = 1000 := rfl
  have h2 : goodB [102] = true := rfl
  simp [mAppend, mAppL, mGet, mUsed, h2, this]; omega
theorem fs2 (A : List UInt8) : mSync [⟨[102], A, 0, false⟩] [102] = [⟨[102], A, A.length, true⟩] := by simp [mSync]
theorem fs3 {A B : List UInt8} (hA : A.length ≤ 60) (hB : B.length ≤ 60) : mAppend [⟨[102], A, A.length, true⟩] (roomOf 1000) [102] B = (0, [⟨[102], A ++ B, A.length, true⟩]) := by
  have : roomOf 1000 = 1000 := rfl
  have h2 : goodB [102] = true := rfl
  simp [mAppend, mAppL, mGet, mUsed, h2, this]; omega
theorem fs4 (A B : List UInt8) (n : Int) (k : Nat) (hk : (k : Int) = if 0 ≤ n then n.tmod ((B.length : Int) + 1) else 0) : mGet (mFall n [⟨[102], A ++ B, A.length, true⟩]) [102] = some ⟨[102], A ++ B.take k, A.length + k, true⟩ := by
  have e : stays n ⟨[102], A ++ B, A.length, true⟩ = A.length + k := by
    simp only [stays, List.length_append]
    have : ((A.length + B.length : Nat) : Int) - A.length + 1 = (B.length : Int) + 1 := by omega
    rw [this]
    split
    · next h =>
      rw [if_pos (by omega), Int.tmod_eq_emod_of_nonneg (by omega)] at hk
      omega
    · next h =>
      by_cases h0 : 0 ≤ n
      · have : n = 0 := by omega
        subst this
        simp at hk
        omega
      · rw [if_neg h0] at hk; omega
  simp [mFall, fallE, mGet, e, List.take_append, List.take_of_length_le (Nat.le_add_right A.length k)]
set_option maxRecDepth 100000 in
set_option maxHeartbeats 4000000 in
theorem walk (a0 : Option Addr) (len0 cap0 : Nat) (z0 : List Int) (a1 : Option Addr) (len1 cap1 : Nat) (z1 : List Int) (a2 : Int) (w : World) (w0 : IsRow .u8 w a0 len0 cap0 z0) (w1 : IsRow .u8 w a1 len1 cap1 z1) (w2 : (Lit.int .i64 a2).wf = true) :
    Calls Try.prog 9 #[.slice a0 len0 cap0, .slice a1 len1 cap1, .int .i64 a2] w fun e w' => e = .returned (.bool true) ∧ Below w.heap.size w w' := by
  obtain ⟨l0, hl0⟩ : ∃ l0, bytesOf (z0.take (min len0 60)) = l0 := ⟨_, rfl⟩
  obtain ⟨l1, hl1⟩ : ∃ l1, bytesOf (z1.take (min len1 60)) = l1 := ⟨_, rfl⟩
  have b0 : l0.length ≤ 60 := by rw [← hl0]; simp [bytesOf]; omega
  have b1 : l1.length ≤ 60 := by rw [← hl1]; simp [bytesOf]; omega
  have hn : -9223372036854775808 ≤ a2 ∧ a2 ≤ 9223372036854775807 := by
    simp only [Lit.wf, IntKind.min, IntKind.max, IntKind.signed, IntKind.bits] at w2
    simp at w2; omega
  obtain ⟨k, hk⟩ : ∃ k : Nat, (k : Int) = if 0 ≤ a2 then a2.tmod ((l1.length : Int) + 1) else 0 := by
    by_cases h : 0 ≤ a2
    · exact ⟨(a2.tmod ((l1.length : Int) + 1)).toNat, by rw [if_pos h]; exact Int.toNat_of_nonneg (Int.tmod_nonneg _ h)⟩
    · exact ⟨0, by rw [if_neg h]; rfl⟩
  have hkl : k ≤ l1.length := by
    by_cases h : 0 ≤ a2
    · rw [if_pos h, Int.tmod_eq_emod_of_nonneg h] at hk
      have := Int.emod_lt_of_pos a2 (show (0 : Int) < (l1.length : Int) + 1 by omega)
      omega
    · rw [if_neg h] at hk; omega
  have F1 := Lib.hid (fs1 b0)
  have F3 := Lib.hid (fs3 b0 b1)
  have F4 := Lib.hid (fs4 l0 l1 a2 k hk)
  have HN := Lib.hid hn
  have W0 := Lib.hid w0
  have W1 := Lib.hid w1
  have HL0 := Lib.hid hl0
  have HL1 := Lib.hid hl1
  clear w0 w1 w2 hl0 hl1 hn
  go_enter Try.func9, Try.ntmps9
  go_wp2_with fail
  refine (begun3_any w).mono ?_
  rintro e w1 ⟨rfl, t1⟩
  go_wp2_with fail
  refine (short_row a0 len0 cap0 z0 60 w1 (W0.out.tch0 t1) (by omega)).mono ?_
  rintro e w2 ⟨v0, rfl, s2, _, t2⟩
  go_wp2_with fail
  refine (short_row a1 len1 cap1 z1 60 w2 (W1.out.tch0 (t1.trans0 t2)) (by omega)).mono ?_
  rintro e w3 ⟨v1, rfl, s3, _, t3⟩
  rw [HL0.out] at s2
  rw [HL1.out] at s3
  have T3 := Lib.hid ((t1.trans0 t2).trans0 t3)
  have S0 := Lib.hid (s2.tch0 t3)
  have S1 := Lib.hid s3
  clear t1 t2 t3 s2 s3 W0 W1 HL0 HL1
  obtain ⟨c0, m0, d0, rfl, hm0⟩ := S0.out.shape'
  obtain ⟨c1, m1, d1, rfl, hm1⟩ := S1.out.shape'
  obtain rfl : m0 = l0.length := hm0
  obtain rfl : m1 = l1.length := hm1
  go_wp2_with fail
  refine (dst_newH 1000 w3 [(.slice c0 l0.length d0, l0), (.slice c1 l1.length d1, l1)] (by simp only [List.mem_cons, List.mem_nil_iff, or_false]; rintro p (rfl | rfl); exact S0.out; exact S1.out)).mono ?_
  rintro e w4 ⟨db, mb, rfl, h4⟩
  have H4 := Lib.hid h4; clear h4 S0 S1
  go_wp2_with fail
  refine (dst_appendH H4.out ⟨#[102]⟩ (.slice c0 l0.length d0) l0 (by simp) (by decide) (by simp) (by omega)).mono ?_
  rintro e w5 ⟨rfl, h5⟩
  have e5 : mAppend [] (roomOf 1000) (ByteArray.mk #[102]).data.toList l0 = _ := F1.out
  rw [e5] at h5 ⊢
  have H5 := Lib.hid h5; clear h5 e5 H4
  go_wp2_with fail
  refine (dst_sync H5.out ⟨#[102]⟩ (by decide)).mono ?_
  rintro e w6 ⟨rfl, h6⟩
  have e6 : mSync [⟨[102], l0, 0, false⟩] (ByteArray.mk #[102]).data.toList = _ := fs2 l0
  have e6' : (mGet [⟨[102], l0, 0, false⟩] (ByteArray.mk #[102]).data.toList).isSome = true := rfl
  dsimp only at h6
  rw [e6] at h6
  rw [e6']
  have H6 := Lib.hid h6; clear h6 e6 e6' H5
  go_wp2_with fail
  refine (dst_appendH H6.out ⟨#[102]⟩ (.slice c1 l1.length d1) l1 (by simp) (by decide) (by simp) (by omega)).mono ?_
  rintro e w7 ⟨rfl, h7⟩
  have e7 : mAppend [⟨[102], l0, l0.length, true⟩] (roomOf 1000) (ByteArray.mk #[102]).data.toList l1 = _ := F3.out
  rw [e7] at h7 ⊢
  have H7 := Lib.hid h7; clear h7 e7 H6
  go_wp2_with fail
  refine (dst_fall H7.out a2 HN.out.1 HN.out.2 (by simp)).mono ?_
  rintro e w8 ⟨db8, mb8, rfl, h8, g8⟩
  have H8 := Lib.hid h8; have G8 := Lib.hid g8; clear h8 g8
  go_wp2_with fail
  refine (dst_read2 H8.out G8.out ⟨#[102]⟩ (by decide)).mono ?_
  rintro e w9 ⟨x, rfl, h9, _⟩
  have e9 : mGet (mFall a2 [⟨[102], l0 ++ l1, l0.length, true⟩]) (ByteArray.mk #[102]).data.toList = _ := F4.out
  rw [e9] at h9 ⊢
  have H9 := Lib.hid h9; clear h9 e9 H8 G8 H7
  have q0 : (0 : Int) ≤ (k : Int) := by omega
  obtain ⟨hv1, hv2, hv3⟩ : k ≤ l1.length ∧ l1.length ≤ d1 ∧ d1 ≤ maxLen := by
    obtain ⟨a', c', q, q1, q2⟩ := (H9.out.held (v := .slice c1 l1.length d1) (bs := l1) (by simp)).shape
    injection q with _ _ q; subst q
    exact ⟨hkl, q1, q2⟩
  have q3 : (k : Int) ≤ (d1 : Int) := by omega
  have q4 : (l1.length : Int) ≤ 60 := by omega
  have hB : Hid (((a2.tmod ((l1.length : Int) + 1)) = k ∧ 0 ≤ a2) ∨ (¬ 0 ≤ a2 ∧ k = 0)) := by
    by_cases h : 0 ≤ a2
    · left; exact ⟨by rw [hk, if_pos h], h⟩
    · rw [if_neg h] at hk; exact .inr ⟨h, by omega⟩
  have H0 := H9.out.held (v := .slice c0 l0.length d0) (bs := l0) (by simp)
  have H1 := (H9.out.held (v := .slice c1 l1.length d1) (bs := l1) (by simp)).take k hkl
  have HX := H9.out.held (v := x) (bs := l0 ++ l1.take k) (by simp)
  have cx := fun n => (HX.tch0 (tch_drewN w9 n)).str (P := Try.prog) Try.underlying30 Try.underlying5 Try.underlying9
  have ca := fun n => (H0.tch0 (tch_drewN w9 n)).str (P := Try.prog) Try.underlying30 Try.underlying5 Try.underlying9
  have cb := fun n => (H1.tch0 (tch_drewN w9 n)).str (P := Try.prog) Try.underlying30 Try.underlying5 Try.underlying9
  have hss := str_app l0 (l1.take k)
  have hsz : (9223372036854775807 < (⟨l0.toArray⟩ : ByteArray).size + (⟨(l1.take k).toArray⟩ : ByteArray).size) = False := by simp [ByteArray.size]; omega
  obtain ⟨sx, hsx⟩ : ∃ sx : ByteArray, ⟨(l0 ++ l1.take k).toArray⟩ = sx := ⟨_, rfl⟩
  obtain ⟨sa, hsa⟩ : ∃ sa : ByteArray, ⟨l0.toArray⟩ = sa := ⟨_, rfl⟩
  obtain ⟨sb, hsb⟩ : ∃ sb : ByteArray, ⟨(l1.take k).toArray⟩ = sb := ⟨_, rfl⟩
  rw [hsx] at cx
  rw [hsa] at ca
  rw [hsb] at cb
  rw [hsa, hsb, hsx] at hss
  rw [hsa, hsb] at hsz
  have hsu : Hid (∀ n, Calls Try.prog 32 #[.pointer (some ⟨db, 0, none⟩), .string ⟨#[102]⟩] (w9.drewN n) fun e w' => e = .returned (.int .i64 (l0.length : Int)) ∧ w' = w9.drewN n) := fun n => by
    refine (dst_sure (H9.out.keep (tch_drewN w9 n)) ⟨#[102]⟩ (by decide)).mono ?_
    rintro e w' ⟨rfl, rfl⟩
    have : mSure [⟨[102], l0 ++ l1, l0.length, true⟩] (ByteArray.mk #[102]).data.toList = l0.length := rfl
    rw [this]; exact ⟨rfl, rfl⟩
  have hfin := T3.out.trans0 H9.out.base
  have hfd := fun n => hfin.trans0 (tch_drewN w9 n)
  have HF := Lib.hid hfd
  clear H0 H1 HX H9 T3 hfin hfd F1 F3 F4 hk hsx hsa hsb b0 b1 HN
  have q5 : IntKind.i64.wrap ((l1.length : Int) + 1) = (l1.length : Int) + 1 := IntWalk.i64_in _ (by omega)
  rcases hB.out with ⟨hB', hn⟩ | ⟨hn, rfl⟩
  · clear hB
    go_wp2_with fail
    go_quiet ((go_at_call 32; exact Calls.quiet_of_same (hsu.out _)))
    go_wp2
    go_ret
    exact ⟨rfl, (HF.out _).below0⟩
  · clear hB q0 q3
    have q3 : (0 : Int) ≤ (d1 : Int) := by omega
    go_wp2_with fail
    go_quiet ((go_at_call 32; exact Calls.quiet_of_same (hsu.out _)))
    go_wp2
    go_ret
    exact ⟨rfl, (HF.out _).below0⟩

/-! ### THE ROW's STEP: WRITTEN OUT: LEAVE IT -/
set_option maxRecDepth 100000 in
theorem lifted (os : Os) (started : os.Started) (H : Type) (enc : TypeId × Value → H) :
    ReturnsInHanded {} Try.checked os 9 .any (Rows.fileSyncSpec.pre6 enc Try.prog Try.f9 Rows.fileSyncRow.domain false) (Rows.fileSyncSpec.post enc Try.prog Try.f9 false true false false) := by
  refine returnsInHanded_of_change (C := Try.checked) own started (by kernel_rfl) Try.func9
    (ChangeSpec.witness6 (enc := enc) (C := Try.checked) false ⟨#[], #[.slice none 0 0, .slice none 0 0, .int .i64 0], []⟩ 8 (by kernel_rfl) (by kernel_rfl) (by kernel_rfl) (by kernel_rfl)) ?_
  intro W base args ds gs before hval0 hW hcnd _
  have hval : ∀ (j : Nat) t v, Try.f9.params[j]? = some t → args[j]? = some v → Value.okWide Try.prog W .any base t v := hval0
  have hW' := hW
  obtain ⟨p, q, hA0, hV, rfl, hfz, hnd⟩ := hW
  have hA : DataW.TrodAll enc Try.prog W 0 (fun _ => true) true Try.f9.params.toList args.toList ds p := hA0
  rw [Try.params9] at hA hval
  obtain ⟨v0, vs0, d0, ds0, p0, q0, hargs, rfl, rfl, h0, r0⟩ := trodAll_cons hA
  obtain ⟨v1, vs1, d1, ds1, p1, q1, rfl, rfl, rfl, h1, r1⟩ := trodAll_cons r0
  obtain ⟨v2, vs2, d2, ds2, p2, q2, rfl, rfl, rfl, h2, r2⟩ := trodAll_cons r1
  obtain ⟨rfl, rfl, rfl⟩ := trodAll_nil r2
  obtain rfl : args = #[v0, v1, v2] := by cases args; simp_all
  obtain ⟨rfl, rfl⟩ := trodVars_none hV
  obtain ⟨a0, len0, cap0, rfl⟩ := okWide_slice Try.underlying30 (hval 0 30 v0 rfl rfl)
  have k0 := h0
  have lt0 : ∀ x ∈ p0, x.block < W.heap.size := by obtain ⟨m, hm⟩ := k0; exact DataW.trod_lt m _ _ _ hm
  obtain ⟨z0, w0⟩ : ∃ zs, IsRow .u8 W a0 len0 cap0 zs := by
    obtain ⟨fuel, hf⟩ := h0
    rcases open_ints Try.underlying30 Try.underlying5 (by kernel_rfl) hf with ⟨hcs, _⟩ | ⟨x, l, c, zs, hcs, _, hl, hm, hz, _, hcell, hwz⟩
    · simp [Value.cells] at hcs
      obtain ⟨rfl, rfl, rfl⟩ := hcs
      exact ⟨[], .inl ⟨rfl, rfl, rfl, rfl⟩⟩
    · simp [Value.cells] at hcs
      obtain ⟨rfl, rfl, rfl⟩ := hcs
      exact ⟨zs, .inr ⟨_, rfl, hl, hm, by simpa using hz, hcell, hwz⟩⟩
  obtain ⟨a1, len1, cap1, rfl⟩ := okWide_slice Try.underlying30 (hval 1 30 v1 rfl rfl)
  have k1 := h1
  have lt1 : ∀ x ∈ p1, x.block < W.heap.size := by obtain ⟨m, hm⟩ := k1; exact DataW.trod_lt m _ _ _ hm
  obtain ⟨z1, w1⟩ : ∃ zs, IsRow .u8 W a1 len1 cap1 zs := by
    obtain ⟨fuel, hf⟩ := h1
    rcases open_ints Try.underlying30 Try.underlying5 (by kernel_rfl) hf with ⟨hcs, _⟩ | ⟨x, l, c, zs, hcs, _, hl, hm, hz, _, hcell, hwz⟩
    · simp [Value.cells] at hcs
      obtain ⟨rfl, rfl, rfl⟩ := hcs
      exact ⟨[], .inl ⟨rfl, rfl, rfl, rfl⟩⟩
    · simp [Value.cells] at hcs
      obtain ⟨rfl, rfl, rfl⟩ := hcs
      exact ⟨zs, .inr ⟨_, rfl, hl, hm, by simpa using hz, hcell, hwz⟩⟩
  obtain ⟨a2, rfl, rfl, rfl, w2⟩ := open_int Try.underlying3 (hval 2 3 v2 rfl rfl) h2
  clear hA0 hval0
  refine (walk a0 len0 cap0 z0 a1 len1 cap1 z1 a2 W w0 w1 w2).mono fun e W' ⟨he, bel⟩ => ?_
  subst he
  exact ⟨_, rfl, _, _, _, [], _, [], hW', trodAll_mk1 (shut_bool Try.underlying4 _), (trodAll_cons_mk (Below.trod laidOut (by kernel_rfl) (of_decide_eq_true (by kernel_rfl)) k0 bel lt0) (trodAll_cons_mk (Below.trod laidOut (by kernel_rfl) (of_decide_eq_true (by kernel_rfl)) k1 bel lt1) (trodAll_cons_mk (shut_int Try.underlying3 w2) trodAll_mk0))), rfl, bel.frame _, fun h => by cases h⟩

theorem over : Rows.fileSyncRow.holds Try.pinned (OpenSpec.ofChange Rows.fileSyncSpec) :=
  OpenClaim.holds_of_wide 9 Try.f9 rfl rfl rfl rfl rfl rfl rfl ⟨rfl, rfl, rfl, rfl, rfl⟩ rfl rfl rfl rfl rfl (by kernel_rfl) Try.func9 (by kernel_rfl)
    (of_decide_eq_true (by kernel_rfl)) (by unfold Func.isWrapper; first | (rw [if_pos (by decide +kernel)]; kernel_rfl) | (rw [if_neg (by decide +kernel)]; exact ⟨rfl, rfl⟩))
    (fun os started H enc _ => lifted os started H enc)

/--  THE STATEMENT  -/
theorem proved : Rows.FileSyncSaid := over
#print axioms proved
end Go.Proofs.Ytbhemlddncmmfaa.fileSync
