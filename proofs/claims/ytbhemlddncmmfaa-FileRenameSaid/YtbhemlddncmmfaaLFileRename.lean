/- FileRename: the law FileRename returns true for every input, and each argument reads behind the call as it read before. No condition. The frame is the kit's proof-skeleton. -/
import Derived.Test.YtbhemlddncmmfaaRows
import Derived.WalkKit
import Derived.ProofKit
import Derived.OpenShut
import Derived.ShutString
import Derived.ChangeOld
import Derived.Below
import Derived.Test.YtbhemlddncmmfaaBeg3
namespace Go.Proofs.Ytbhemlddncmmfaa.fileRename
open Go.ChangeShapes Go.WideShapes Go.ChangeAt Go.RowKit Go.Maps
open Go.ChangeMaps (open_string shut_string)
set_option linter.unusedVariables false

theorem own : ownKnob Try.prog.godebug = none := by kernel_rfl
theorem laidOut : laidOutB Try.prog = true := by kernel_rfl

theorem fr1 {A : List UInt8} (hA : A.length ≤ 40) : mAppend [] (roomOf 1000) [111, 108, 100] A = (0, [⟨[111, 108, 100], A, 0, false⟩]) := by
  have : roomOf 1000 = 1000 := rfl
  have h2 : goodB [111, 108, 100] = true := rfl
  simp [mAppend, mAppL, mGet, mUsed, h2, this]; omega
theorem fr2 (A : List UInt8) : mSync [⟨[111, 108, 100], A, 0, false⟩] [111, 108, 100] = [⟨[111, 108, 100], A, A.length, true⟩] := by simp [mSync]
theorem fr3 {A B : List UInt8} (hA : A.length ≤ 40) (hB : B.length ≤ 40) : mAppend [⟨[111, 108, 100], A, A.length, true⟩] (roomOf 1000) [110, 101, 119] B = (0, [⟨[111, 108, 100], A, A.length, true⟩, ⟨[110, 101, 119], B, 0, false⟩]) := by
  have : roomOf 1000 = 1000 := rfl
  have h2 : goodB [110, 101, 119] = true := rfl
  simp [mAppend, mAppL, mGet, mUsed, h2, this]; omega
theorem fr4 (A B : List UInt8) : mSync [⟨[111, 108, 100], A, A.length, true⟩, ⟨[110, 101, 119], B, 0, false⟩] [110, 101, 119] = [⟨[111, 108, 100], A, A.length, true⟩, ⟨[110, 101, 119], B, B.length, true⟩] := by simp [mSync]
theorem fr5 (A B : List UInt8) (q : Nat) (t : Bool) : mRename [⟨[111, 108, 100], A, A.length, true⟩, ⟨[110, 101, 119], B, q, t⟩] [110, 101, 119] [111, 108, 100] = (0, [⟨[111, 108, 100], B, q, true⟩]) := by
  have h2 : goodB [111, 108, 100] = true := rfl
  simp [mRename, mRen, mDel, mGet, h2]
theorem fr7 (B : List UInt8) (n : Int) (t : Bool) (k : Nat) (hk : (k : Int) = if t = true then (B.length : Int) else if 0 ≤ n then n.tmod ((B.length : Int) + 1) else 0) : stays n ⟨[111, 108, 100], B, if t then B.length else 0, true⟩ = k := by
  cases t with
  | true => 
    simp at hk
    have : (B.length : Int) - B.length + 1 = 1 := by omega
    simp [stays, this]; omega
  | false =>
    simp only [Bool.false_eq_true, if_false] at hk
    simp only [stays, Bool.false_eq_true, if_false]
    have : (B.length : Int) - ((0 : Nat) : Int) + 1 = (B.length : Int) + 1 := by omega
    rw [this]
    split
    · next h =>
      rw [if_pos (by omega), Int.tmod_eq_emod_of_nonneg (by omega)] at hk
      omega
    · next h =>
      by_cases h0 : 0 ≤ n
      · have : n = 0 := by omega
        subst this
        simp at hk
        omega
      · rw [if_neg h0] at hk; omega
theorem fr8 (B : List UInt8) (n : Int) (t : Bool) (k : Nat) (hk : (k : Int) = if t = true then (B.length : Int) else if 0 ≤ n then n.tmod ((B.length : Int) + 1) else 0) : mGet (mFall n [⟨[111, 108, 100], B, if t then B.length else 0, true⟩]) [111, 108, 100] = some ⟨[111, 108, 100], B.take k, k, true⟩ := by
  have e := fr7 B n t k hk
  simp only [mFall, List.filterMap_cons, List.filterMap_nil, fallE, e]
  simp [mGet]
set_option maxRecDepth 100000 in
set_option maxHeartbeats 4000000 in
theorem walk (a0 : Option Addr) (len0 cap0 : Nat) (z0 : List Int) (a1 : Option Addr) (len1 cap1 : Nat) (z1 : List Int) (a2 : Bool) (a3 : Int) (w : World) (w0 : IsRow .u8 w a0 len0 cap0 z0) (w1 : IsRow .u8 w a1 len1 cap1 z1) (w3 : (Lit.int .i64 a3).wf = true) :
    Calls Try.prog 10 #[.slice a0 len0 cap0, .slice a1 len1 cap1, .bool a2, .int .i64 a3] w fun e w' => e = .returned (.bool true) ∧ Below w.heap.size w w' := by
  obtain ⟨l0, hl0⟩ : ∃ l0, bytesOf (z0.take (min len0 40)) = l0 := ⟨_, rfl⟩
  obtain ⟨l1, hl1⟩ : ∃ l1, bytesOf (z1.take (min len1 40)) = l1 := ⟨_, rfl⟩
  have b0 : l0.length ≤ 40 := by rw [← hl0]; simp [bytesOf]; omega
  have b1 : l1.length ≤ 40 := by rw [← hl1]; simp [bytesOf]; omega
  have hn : -9223372036854775808 ≤ a3 ∧ a3 ≤ 9223372036854775807 := by
    simp only [Lit.wf, IntKind.min, IntKind.max, IntKind.signed, IntKind.bits] at w3
    simp at w3; omega
  have HN := Lib.hid hn
  obtain ⟨k, hk⟩ : ∃ k : Nat, (k : Int) = if a2 = true then (l1.length : Int) else if 0 ≤ a3 then a3.tmod ((l1.length : Int) + 1) else 0 := by
    cases a2 with
    | true => exact ⟨l1.length, rfl⟩
    | false =>
      by_cases h : 0 ≤ a3
      · exact ⟨(a3.tmod ((l1.length : Int) + 1)).toNat, by simp only [Bool.false_eq_true, if_false]; rw [if_pos h]; exact Int.toNat_of_nonneg (Int.tmod_nonneg _ h)⟩
      · exact ⟨0, by simp [h]⟩
  have hkl : k ≤ l1.length := by
    cases a2 with
    | true => simp at hk; omega
    | false =>
      simp only [Bool.false_eq_true, if_false] at hk
      by_cases h : 0 ≤ a3
      · rw [if_pos h, Int.tmod_eq_emod_of_nonneg h] at hk
        have := Int.emod_lt_of_pos a3 (show (0 : Int) < (l1.length : Int) + 1 by omega)
        omega
      · rw [if_neg h] at hk; omega
  have F1 := Lib.hid (fr1 b0)
  have F3 := Lib.hid (fr3 b0 b1)
  have F8 := Lib.hid (fr8 l1 a3 a2 k hk)
  have W0 := Lib.hid w0
  have W1 := Lib.hid w1
  have HL0 := Lib.hid hl0
  have HL1 := Lib.hid hl1
  clear w0 w1 w3 hn hl0 hl1
  go_enter Try.func10, Try.ntmps10
  go_wp2_with fail
  refine (begun3_any w).mono ?_
  rintro e w1 ⟨rfl, t1⟩
  go_wp2_with fail
  refine (short_row a0 len0 cap0 z0 40 w1 (W0.out.tch0 t1) (by omega)).mono ?_
  rintro e w2 ⟨v0, rfl, s2, _, t2⟩
  go_wp2_with fail
  refine (short_row a1 len1 cap1 z1 40 w2 (W1.out.tch0 (t1.trans0 t2)) (by omega)).mono ?_
  rintro e w3 ⟨v1, rfl, s3, _, t3⟩
  rw [HL0.out] at s2
  rw [HL1.out] at s3
  have T3 := Lib.hid ((t1.trans0 t2).trans0 t3)
  have S0 := Lib.hid (s2.tch0 t3)
  have S1 := Lib.hid s3
  clear t1 t2 t3 s2 s3 W0 W1 HL0 HL1
  obtain ⟨c0, m0, d0, rfl, hm0⟩ := S0.out.shape'
  obtain ⟨c1, m1, d1, rfl, hm1⟩ := S1.out.shape'
  obtain rfl : m0 = l0.length := hm0
  obtain rfl : m1 = l1.length := hm1
  go_wp2_with fail
  refine (dst_newH 1000 w3 [(.slice c0 l0.length d0, l0), (.slice c1 l1.length d1, l1)] (by simp only [List.mem_cons, List.mem_nil_iff, or_false]; rintro p (rfl | rfl); exact S0.out; exact S1.out)).mono ?_
  rintro e w4 ⟨db, mb, rfl, h4⟩
  have H4 := Lib.hid h4; clear h4 S0 S1
  go_wp2_with fail
  refine (dst_appendH H4.out ⟨#[111, 108, 100]⟩ (.slice c0 l0.length d0) l0 (by simp) (by decide) (by simp) (by omega)).mono ?_
  rintro e w5 ⟨rfl, h5⟩
  have e5 : mAppend [] (roomOf 1000) (ByteArray.mk #[111, 108, 100]).data.toList l0 = _ := F1.out
  try dsimp only at e5 h5 ⊢
  rw [e5] at h5 ⊢
  have H5 := Lib.hid h5; clear h5 e5 H4
  go_wp2_with fail
  refine (dst_sync H5.out ⟨#[111, 108, 100]⟩ (by decide)).mono ?_
  rintro e w6 ⟨rfl, h6⟩
  have e6 : mSync [⟨[111, 108, 100], l0, 0, false⟩] (ByteArray.mk #[111, 108, 100]).data.toList = _ := fr2 l0
  have e6' : (mGet [⟨[111, 108, 100], l0, 0, false⟩] (ByteArray.mk #[111, 108, 100]).data.toList).isSome = true := rfl
  try dsimp only at h6
  rw [e6] at h6
  rw [e6']
  have H6 := Lib.hid h6; clear h6 e6 e6' H5
  go_wp2_with fail
  refine (dst_appendH H6.out ⟨#[110, 101, 119]⟩ (.slice c1 l1.length d1) l1 (by simp) (by decide) (by simp) (by omega)).mono ?_
  rintro e w7 ⟨rfl, h7⟩
  have e7 : mAppend [⟨[111, 108, 100], l0, l0.length, true⟩] (roomOf 1000) (ByteArray.mk #[110, 101, 119]).data.toList l1 = _ := F3.out
  try dsimp only at e7 h7 ⊢
  rw [e7] at h7 ⊢
  have H7 := Lib.hid h7; clear h7 e7 H6
  cases a2 with
  | true =>
    obtain rfl : k = l1.length := by simp at hk; omega
    clear hk
    go_wp2_with fail
    refine (dst_sync H7.out ⟨#[110, 101, 119]⟩ (by decide)).mono ?_
    rintro e w8 ⟨rfl, h8⟩
    have e8 : mSync [⟨[111, 108, 100], l0, l0.length, true⟩, ⟨[110, 101, 119], l1, 0, false⟩] (ByteArray.mk #[110, 101, 119]).data.toList = _ := fr4 l0 l1
    have e8' : (mGet [⟨[111, 108, 100], l0, l0.length, true⟩, ⟨[110, 101, 119], l1, 0, false⟩] (ByteArray.mk #[110, 101, 119]).data.toList).isSome = true := rfl
    try dsimp only at h8
    rw [e8] at h8
    rw [e8']
    have H8 := Lib.hid h8; clear h8 e8 e8' H7
    go_wp2_with fail
    refine (dst_rename H8.out ⟨#[110, 101, 119]⟩ ⟨#[111, 108, 100]⟩ (by decide) (by decide) (by simp)).mono ?_
    rintro e w9 ⟨rfl, h9⟩
    have e9 : mRename [⟨[111, 108, 100], l0, l0.length, true⟩, ⟨[110, 101, 119], l1, l1.length, true⟩] (ByteArray.mk #[110, 101, 119]).data.toList (ByteArray.mk #[111, 108, 100]).data.toList = _ := fr5 l0 l1 l1.length true
    try dsimp only at h9 ⊢
    rw [e9] at h9 ⊢
    have H9 := Lib.hid h9; clear h9 e9 H8
    go_wp2_with fail
    refine (dst_names H9.out (by simp)).mono ?_
    rintro e w10 ⟨v, rfl, hr, h10⟩
    have H10 := Lib.hid h10; clear h10 H9
    obtain ⟨an, mn, capn, rfl, hmn⟩ := own_shape' hr
    have hmn1 : (sortN (names [⟨[111, 108, 100], l1, l1.length, true⟩])).length = 1 := by simp [sortN, names]
    obtain rfl : mn = 1 := hmn.trans hmn1
    clear hr hmn hmn1
    go_wp2_with fail
    refine (dst_fall H10.out a3 HN.out.1 HN.out.2 (by simp)).mono ?_
    rintro e w11 ⟨dbf, mbf, rfl, h11, g11⟩
    have H11 := Lib.hid h11; have G11 := Lib.hid g11; clear h11 g11 H10
    go_wp2_with fail
    refine (dst_read2 H11.out G11.out ⟨#[111, 108, 100]⟩ (by decide)).mono ?_
    rintro e w12 ⟨x, rfl, h12, _⟩
    have e12 : mGet (mFall a3 [⟨[111, 108, 100], l1, l1.length, true⟩]) (ByteArray.mk #[111, 108, 100]).data.toList = _ := F8.out
    rw [e12] at h12 ⊢
    have H12 := Lib.hid h12; clear h12 e12 H11 G11
    have hhv : l1.length ≤ d1 ∧ d1 ≤ maxLen := by
      obtain ⟨a', c', q, q1, q2⟩ := (H12.out.held (v := .slice c1 l1.length d1) (bs := l1) (by simp)).shape
      injection q with _ _ q; subst q
      exact ⟨q1, q2⟩
    have q3 : ((l1.length : Int) : Int) ≤ (d1 : Int) := by omega
    have q4 : (l1.length : Int) ≤ 40 := by omega
    clear hhv
    go_wp2_with fail
    refine (dst_read H12.out ⟨#[110, 101, 119]⟩ (by decide)).mono ?_
    rintro e w13 ⟨y, rfl, h13⟩
    have e13 : mGet [⟨[111, 108, 100], l1, l1.length, true⟩] (ByteArray.mk #[110, 101, 119]).data.toList = none := rfl
    rw [e13] at h13 ⊢
    have H13 := Lib.hid h13; clear h13 e13 H12
    have HX := H13.out.held (v := x) (bs := l1.take l1.length) (by simp)
    have HY := (H13.out.held (v := .slice c1 l1.length d1) (bs := l1) (by simp)).take l1.length (by omega)
    have hx := Lib.hid (fun W (t : Tch No w13 W) => (HX.tch0 t).str (P := Try.prog) Try.underlying30 Try.underlying5 Try.underlying9)
    have hy := Lib.hid (fun W (t : Tch No w13 W) => (HY.tch0 t).str (P := Try.prog) Try.underlying30 Try.underlying5 Try.underlying9)
    have hus : Hid (∀ W, Tch No w13 W → Calls Try.prog 22 #[.pointer (some ⟨db, 0, none⟩)] W fun e w' => e = .returned (.int .i64 (l1.length : Int)) ∧ Tch No W w') := fun W t => by
      obtain ⟨L, q1, q2, _⟩ := H13.out.keep t
      refine (used_any db mb _ L W q2 (by have := congrArg List.length q1; simp at this; omega)).mono ?_
      rintro e w' ⟨rfl, q⟩
      rw [q1]
      have e : mUsed [⟨[111, 108, 100], l1, l1.length, true⟩] = l1.length := by simp [mUsed]
      rw [e]; exact ⟨rfl, q⟩
    have HF := Lib.hid (T3.out.trans0 H13.out.base)
    obtain ⟨sx, hsx⟩ : ∃ sx : ByteArray, ⟨(l1.take l1.length).toArray⟩ = sx := ⟨_, rfl⟩
    rw [hsx] at hx hy
    clear H13 HX HY T3 hsx
    go_wp2_with fail
    go_region_held3 (fun W => (convert 30 9 x).run Try.prog W = .ok (.string sx) W ∧ (convert 30 9 (.slice c1 l1.length d1)).run Try.prog W = .ok (.string sx) W)
      (first | exact ⟨hx.out _ (Tch.refl _ _), hy.out _ (Tch.refl _ _)⟩ | exact ⟨hx.out _ (Tch.drew _), hy.out _ (Tch.drew _)⟩ | exact ⟨hx.out _ ((Tch.drew _).trans0 q2), hy.out _ ((Tch.drew _).trans0 q2)⟩ | exact ⟨hx.out _ q2, hy.out _ q2⟩)
      (first | (go_at_call 22; refine (hus.out _ (Tch.drew _)).mono ?_; rintro e w2 ⟨rfl, q2⟩))
    go_wp2
    go_ret
    exact ⟨rfl, (HF.out.trans0 ((Tch.drew _).trans0 q2)).below0⟩
  | false =>
    go_wp2_with fail
    refine (dst_rename H7.out ⟨#[110, 101, 119]⟩ ⟨#[111, 108, 100]⟩ (by decide) (by decide) (by simp)).mono ?_
    rintro e w8 ⟨rfl, h8⟩
    have e8 : mRename [⟨[111, 108, 100], l0, l0.length, true⟩, ⟨[110, 101, 119], l1, 0, false⟩] (ByteArray.mk #[110, 101, 119]).data.toList (ByteArray.mk #[111, 108, 100]).data.toList = _ := fr5 l0 l1 0 false
    try dsimp only at h8 ⊢
    rw [e8] at h8 ⊢
    have H8 := Lib.hid h8; clear h8 e8 H7
    go_wp2_with fail
    refine (dst_names H8.out (by simp)).mono ?_
    rintro e w9 ⟨v, rfl, hr, h9⟩
    have H9 := Lib.hid h9; clear h9 H8
    obtain ⟨an, mn, capn, rfl, hmn⟩ := own_shape' hr
    have hmn1 : (sortN (names [⟨[111, 108, 100], l1, 0, true⟩])).length = 1 := by simp [sortN, names]
    obtain rfl : mn = 1 := hmn.trans hmn1
    clear hr hmn hmn1
    go_wp2_with fail
    refine (dst_fall H9.out a3 HN.out.1 HN.out.2 (by simp)).mono ?_
    rintro e w10 ⟨dbf, mbf, rfl, h10, g10⟩
    have H10 := Lib.hid h10; have G10 := Lib.hid g10; clear h10 g10 H9
    go_wp2_with fail
    refine (dst_read2 H10.out G10.out ⟨#[111, 108, 100]⟩ (by decide)).mono ?_
    rintro e w11 ⟨x, rfl, h11, _⟩
    have e11 : mGet (mFall a3 [⟨[111, 108, 100], l1, 0, true⟩]) (ByteArray.mk #[111, 108, 100]).data.toList = _ := F8.out
    rw [e11] at h11 ⊢
    have H11 := Lib.hid h11; clear h11 e11 H10 G10
    have q0 : (0 : Int) ≤ (k : Int) := by omega
    have hhv : l1.length ≤ d1 ∧ d1 ≤ maxLen := by
      obtain ⟨a', c', q, q1, q2⟩ := (H11.out.held (v := .slice c1 l1.length d1) (bs := l1) (by simp)).shape
      injection q with _ _ q; subst q
      exact ⟨q1, q2⟩
    have q3 : ((k : Int) : Int) ≤ (d1 : Int) := by omega
    have q4 : (l1.length : Int) ≤ 40 := by omega
    clear hhv
    have q5 : IntKind.i64.wrap ((l1.length : Int) + 1) = (l1.length : Int) + 1 := IntWalk.i64_in _ (by omega)
    have hB : Hid (((a3.tmod ((l1.length : Int) + 1)) = k ∧ 0 ≤ a3) ∨ (¬ 0 ≤ a3 ∧ k = 0)) := by
      simp only [Bool.false_eq_true, if_false] at hk
      by_cases h : 0 ≤ a3
      · left; exact ⟨by rw [hk, if_pos h], h⟩
      · rw [if_neg h] at hk; exact .inr ⟨h, by omega⟩
    clear hk
    rcases hB.out with ⟨hB', hn⟩ | ⟨hn, rfl⟩
    · clear hB
      go_wp2_with fail
      refine (dst_read H11.out ⟨#[110, 101, 119]⟩ (by decide)).mono ?_
      rintro e w12 ⟨y, rfl, h12⟩
      have e12 : mGet [⟨[111, 108, 100], l1, 0, true⟩] (ByteArray.mk #[110, 101, 119]).data.toList = none := rfl
      rw [e12] at h12 ⊢
      have H12 := Lib.hid h12; clear h12 e12 H11
      have HX := H12.out.held (v := x) (bs := l1.take k) (by simp)
      have HY := (H12.out.held (v := .slice c1 l1.length d1) (bs := l1) (by simp)).take k (by omega)
      have hx := Lib.hid (fun W (t : Tch No w12 W) => (HX.tch0 t).str (P := Try.prog) Try.underlying30 Try.underlying5 Try.underlying9)
      have hy := Lib.hid (fun W (t : Tch No w12 W) => (HY.tch0 t).str (P := Try.prog) Try.underlying30 Try.underlying5 Try.underlying9)
      have hus : Hid (∀ W, Tch No w12 W → Calls Try.prog 22 #[.pointer (some ⟨db, 0, none⟩)] W fun e w' => e = .returned (.int .i64 (l1.length : Int)) ∧ Tch No W w') := fun W t => by
        obtain ⟨L, q1, q2, _⟩ := H12.out.keep t
        refine (used_any db mb _ L W q2 (by have := congrArg List.length q1; simp at this; omega)).mono ?_
        rintro e w' ⟨rfl, q⟩
        rw [q1]
        have e : mUsed [⟨[111, 108, 100], l1, 0, true⟩] = l1.length := by simp [mUsed]
        rw [e]; exact ⟨rfl, q⟩
      have HF := Lib.hid (T3.out.trans0 H12.out.base)
      obtain ⟨sx, hsx⟩ : ∃ sx : ByteArray, ⟨(l1.take k).toArray⟩ = sx := ⟨_, rfl⟩
      rw [hsx] at hx hy
      clear H12 HX HY T3 hsx
      go_wp2_with fail
      go_region_held3 (fun W => (convert 30 9 x).run Try.prog W = .ok (.string sx) W ∧ (convert 30 9 (.slice c1 k d1)).run Try.prog W = .ok (.string sx) W)
        (first | exact ⟨hx.out _ (Tch.refl _ _), hy.out _ (Tch.refl _ _)⟩ | exact ⟨hx.out _ (Tch.drew _), hy.out _ (Tch.drew _)⟩ | exact ⟨hx.out _ ((Tch.drew _).trans0 q2), hy.out _ ((Tch.drew _).trans0 q2)⟩ | exact ⟨hx.out _ q2, hy.out _ q2⟩)
        (first | (go_at_call 22; refine (hus.out _ (Tch.drew _)).mono ?_; rintro e w2 ⟨rfl, q2⟩))
      go_wp2
      go_ret
      exact ⟨rfl, (HF.out.trans0 ((Tch.drew _).trans0 q2)).below0⟩
    · clear hB q0 q3
      have q3 : (0 : Int) ≤ (d1 : Int) := by omega
      go_wp2_with fail
      refine (dst_read H11.out ⟨#[110, 101, 119]⟩ (by decide)).mono ?_
      rintro e w12 ⟨y, rfl, h12⟩
      have e12 : mGet [⟨[111, 108, 100], l1, 0, true⟩] (ByteArray.mk #[110, 101, 119]).data.toList = none := rfl
      rw [e12] at h12 ⊢
      have H12 := Lib.hid h12; clear h12 e12 H11
      have HX := H12.out.held (v := x) (bs := l1.take 0) (by simp)
      have HY := (H12.out.held (v := .slice c1 l1.length d1) (bs := l1) (by simp)).take 0 (by omega)
      have hx := Lib.hid (fun W (t : Tch No w12 W) => (HX.tch0 t).str (P := Try.prog) Try.underlying30 Try.underlying5 Try.underlying9)
      have hy := Lib.hid (fun W (t : Tch No w12 W) => (HY.tch0 t).str (P := Try.prog) Try.underlying30 Try.underlying5 Try.underlying9)
      have hus : Hid (∀ W, Tch No w12 W → Calls Try.prog 22 #[.pointer (some ⟨db, 0, none⟩)] W fun e w' => e = .returned (.int .i64 (l1.length : Int)) ∧ Tch No W w') := fun W t => by
        obtain ⟨L, q1, q2, _⟩ := H12.out.keep t
        refine (used_any db mb _ L W q2 (by have := congrArg List.length q1; simp at this; omega)).mono ?_
        rintro e w' ⟨rfl, q⟩
        rw [q1]
        have e : mUsed [⟨[111, 108, 100], l1, 0, true⟩] = l1.length := by simp [mUsed]
        rw [e]; exact ⟨rfl, q⟩
      have HF := Lib.hid (T3.out.trans0 H12.out.base)
      obtain ⟨sx, hsx⟩ : ∃ sx : ByteArray, ⟨(l1.take 0).toArray⟩ = sx := ⟨_, rfl⟩
      rw [hsx] at hx hy
      clear H12 HX HY T3 hsx
      go_wp2_with fail
      go_region_held3 (fun W => (convert 30 9 x).run Try.prog W = .ok (.string sx) W ∧ (convert 30 9 (.slice c1 0 d1)).run Try.prog W = .ok (.string sx) W)
        (first | exact ⟨hx.out _ (Tch.refl _ _), hy.out _ (Tch.refl _ _)⟩ | exact ⟨hx.out _ (Tch.drew _), hy.out _ (Tch.drew _)⟩ | exact ⟨hx.out _ ((Tch.drew _).trans0 q2), hy.out _ ((Tch.drew _).trans0 q2)⟩ | exact ⟨hx.out _ q2, hy.out _ q2⟩)
        (first | (go_at_call 22; refine (hus.out _ (Tch.drew _)).mono ?_; rintro e w2 ⟨rfl, q2⟩))
      go_wp2
      go_ret
      exact ⟨rfl, (HF.out.trans0 ((Tch.drew _).trans0 q2)).below0⟩

/-! ### THE ROW's STEP: WRITTEN OUT: LEAVE IT -/
set_option maxRecDepth 100000 in
theorem lifted (os : Os) (started : os.Started) (H : Type) (enc : TypeId × Value → H) :
    ReturnsInHanded {} Try.checked os 10 .any (Rows.fileRenameSpec.pre6 enc Try.prog Try.f10 Rows.fileRenameRow.domain false) (Rows.fileRenameSpec.post enc Try.prog Try.f10 false true false false) := by
  refine returnsInHanded_of_change (C := Try.checked) own started (by kernel_rfl) Try.func10
    (ChangeSpec.witness6 (enc := enc) (C := Try.checked) false ⟨#[], #[.slice none 0 0, .slice none 0 0, .bool false, .int .i64 0], []⟩ 8 (by kernel_rfl) (by kernel_rfl) (by kernel_rfl) (by kernel_rfl)) ?_
  intro W base args ds gs before hval0 hW hcnd _
  have hval : ∀ (j : Nat) t v, Try.f10.params[j]? = some t → args[j]? = some v → Value.okWide Try.prog W .any base t v := hval0
  have hW' := hW
  obtain ⟨p, q, hA0, hV, rfl, hfz, hnd⟩ := hW
  have hA : DataW.TrodAll enc Try.prog W 0 (fun _ => true) true Try.f10.params.toList args.toList ds p := hA0
  rw [Try.params10] at hA hval
  obtain ⟨v0, vs0, d0, ds0, p0, q0, hargs, rfl, rfl, h0, r0⟩ := trodAll_cons hA
  obtain ⟨v1, vs1, d1, ds1, p1, q1, rfl, rfl, rfl, h1, r1⟩ := trodAll_cons r0
  obtain ⟨v2, vs2, d2, ds2, p2, q2, rfl, rfl, rfl, h2, r2⟩ := trodAll_cons r1
  obtain ⟨v3, vs3, d3, ds3, p3, q3, rfl, rfl, rfl, h3, r3⟩ := trodAll_cons r2
  obtain ⟨rfl, rfl, rfl⟩ := trodAll_nil r3
  obtain rfl : args = #[v0, v1, v2, v3] := by cases args; simp_all
  obtain ⟨rfl, rfl⟩ := trodVars_none hV
  obtain ⟨a0, len0, cap0, rfl⟩ := okWide_slice Try.underlying30 (hval 0 30 v0 rfl rfl)
  have k0 := h0
  have lt0 : ∀ x ∈ p0, x.block < W.heap.size := by obtain ⟨m, hm⟩ := k0; exact DataW.trod_lt m _ _ _ hm
  obtain ⟨z0, w0⟩ : ∃ zs, IsRow .u8 W a0 len0 cap0 zs := by
    obtain ⟨fuel, hf⟩ := h0
    rcases open_ints Try.underlying30 Try.underlying5 (by kernel_rfl) hf with ⟨hcs, _⟩ | ⟨x, l, c, zs, hcs, _, hl, hm, hz, _, hcell, hwz⟩
    · simp [Value.cells] at hcs
      obtain ⟨rfl, rfl, rfl⟩ := hcs
      exact ⟨[], .inl ⟨rfl, rfl, rfl, rfl⟩⟩
    · simp [Value.cells] at hcs
      obtain ⟨rfl, rfl, rfl⟩ := hcs
      exact ⟨zs, .inr ⟨_, rfl, hl, hm, by simpa using hz, hcell, hwz⟩⟩
  obtain ⟨a1, len1, cap1, rfl⟩ := okWide_slice Try.underlying30 (hval 1 30 v1 rfl rfl)
  have k1 := h1
  have lt1 : ∀ x ∈ p1, x.block < W.heap.size := by obtain ⟨m, hm⟩ := k1; exact DataW.trod_lt m _ _ _ hm
  obtain ⟨z1, w1⟩ : ∃ zs, IsRow .u8 W a1 len1 cap1 zs := by
    obtain ⟨fuel, hf⟩ := h1
    rcases open_ints Try.underlying30 Try.underlying5 (by kernel_rfl) hf with ⟨hcs, _⟩ | ⟨x, l, c, zs, hcs, _, hl, hm, hz, _, hcell, hwz⟩
    · simp [Value.cells] at hcs
      obtain ⟨rfl, rfl, rfl⟩ := hcs
      exact ⟨[], .inl ⟨rfl, rfl, rfl, rfl⟩⟩
    · simp [Value.cells] at hcs
      obtain ⟨rfl, rfl, rfl⟩ := hcs
      exact ⟨zs, .inr ⟨_, rfl, hl, hm, by simpa using hz, hcell, hwz⟩⟩
  obtain ⟨a2, rfl, rfl, rfl⟩ := open_bool Try.underlying4 (hval 2 4 v2 rfl rfl) h2
  obtain ⟨a3, rfl, rfl, rfl, w3⟩ := open_int Try.underlying3 (hval 3 3 v3 rfl rfl) h3
  clear hA0 hval0
  refine (walk a0 len0 cap0 z0 a1 len1 cap1 z1 a2 a3 W w0 w1 w3).mono fun e W' ⟨he, bel⟩ => ?_
  subst he
  exact ⟨_, rfl, _, _, _, [], _, [], hW', trodAll_mk1 (shut_bool Try.underlying4 _), (trodAll_cons_mk (Below.trod laidOut (by kernel_rfl) (of_decide_eq_true (by kernel_rfl)) k0 bel lt0) (trodAll_cons_mk (Below.trod laidOut (by kernel_rfl) (of_decide_eq_true (by kernel_rfl)) k1 bel lt1) (trodAll_cons_mk (shut_bool Try.underlying4 _) (trodAll_cons_mk (shut_int Try.underlying3 w3) trodAll_mk0)))), rfl, bel.frame _, fun h => by cases h⟩

theorem over : Rows.fileRenameRow.holds Try.pinned (OpenSpec.ofChange Rows.fileRenameSpec) :=
  OpenClaim.holds_of_wide 10 Try.f10 rfl rfl rfl rfl rfl rfl rfl ⟨rfl, rfl, rfl, rfl, rfl⟩ rfl rfl rfl rfl rfl (by kernel_rfl) Try.func10 (by kernel_rfl)
    (of_decide_eq_true (by kernel_rfl)) (by unfold Func.isWrapper; first | (rw [if_pos (by decide +kernel)]; kernel_rfl) | (rw [if_neg (by decide +kernel)]; exact ⟨rfl, rfl⟩))
    (fun os started H enc _ => lifted os started H enc)

/--  THE STATEMENT  -/
theorem proved : Rows.FileRenameSaid := over
#print axioms proved
end Go.Proofs.Ytbhemlddncmmfaa.fileRename
