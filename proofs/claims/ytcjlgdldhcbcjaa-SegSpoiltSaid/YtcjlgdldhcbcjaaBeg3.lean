import Derived.Test.YtcjlgdldhcbcjaaDst
import Derived.Test.YtcjlgdldhcbcjaaBeg1
namespace Go.Proofs.Ytcjlgdldhcbcjaa
open Go.RowKit Go.Maps
set_option linter.unusedVariables false
set_option linter.unusedSimpArgs false

set_option maxRecDepth 100000 in
set_option maxHeartbeats 1000000 in
theorem short_any (v : Value) (bs : List UInt8) (n : Nat) (w : World) (h : SlB w v bs) (hn : n ≤ 1000000) :
    Calls Try.prog 17 #[v, .int .i64 n] w (CatPost w (bs.take n)) := by
  obtain ⟨i0, hi0, hz0, hz1, hz2⟩ := info_parts infoB
  obtain ⟨a, cap, hv, hc1, hc2⟩ := h.shape
  have hlim := h.1
  unfold lim at hlim
  unfold maxLen at hc2
  obtain ⟨k, hk⟩ : ∃ k, min bs.length n = k := ⟨_, rfl⟩
  have hkm : min (bs.length : Int) (n : Int) = (k : Int) := by omega
  have k1 : (0 : Int) ≤ (k : Int) := by omega
  have k2 : (k : Int) ≤ (cap : Int) := by omega
  have k3 : k ≤ bs.length := by omega
  rw [hv] at h ⊢
  have hT : Hid (SlB w (.slice a k cap) (bs.take n)) := by
    have e : bs.take n = bs.take k := by
      rcases Nat.le_total bs.length n with q | q
      · rw [List.take_of_length_le q, List.take_of_length_le (by omega)]
      · rw [show k = n by omega]
    rw [Hid, e]; exact h.take k k3
  have hb : (bs.take n).length ≤ lim := hT.out.1
  have HK := Lib.hid hk
  have k4 : Hid (k ≤ bs.length) := k3
  clear h hv hk k3
  go_enter Try.func17, Try.ntmps17
  go_wp2_with (at_builtin; go_must (refine wpList_app _ rfl _ _ 22 rfl 5 i0 Try.underlying22 hi0 hz0 hz1 hz2 (.slice none 0 0) [] rfl (World.ownsRow_nil _ _ _ _) (.slice a k cap) (bs.take n) rfl hT.out (by simpa using hb) (bs.take n) (by simp [Hid]) ?_); intro a1 n1 cap1 w1 hA hn1)
  go_ret
  refine ⟨.slice a1 n1 cap1, rfl, SlB.ofRow hA.own hb, fun q hq => ?_, Tch.grown hA.grow (fun q hq _ => by simp [Value.ownBlock] at hq)⟩
  rcases hA.loc with e | e
  · rw [e] at hq; simp [Value.ownBlock] at hq
  · rw [e] at hq; simp at hq; omega

set_option maxRecDepth 100000 in
set_option maxHeartbeats 1000000 in
theorem short_row (a : Option Addr) (len cap : Nat) (zs : List Int) (n : Nat) (w : World) (h : IsRow .u8 w a len cap zs) (hn : n ≤ 1000000) :
    Calls Try.prog 17 #[.slice a len cap, .int .i64 n] w (CatPost w (bytesOf (zs.take (min len n)))) := by
  obtain ⟨i0, hi0, hz0, hz1, hz2⟩ := info_parts infoB
  obtain ⟨hc1, hc2, hc3⟩ := h.lens
  unfold maxLen at hc2
  obtain ⟨k, hk⟩ : ∃ k, min len n = k := ⟨_, rfl⟩
  have hkm : min (len : Int) (n : Int) = (k : Int) := by omega
  have k1 : (0 : Int) ≤ (k : Int) := by omega
  have k2 : (k : Int) ≤ (cap : Int) := by omega
  have k5 : k ≤ lim := by unfold lim; omega
  have k6 : k ≤ len := by omega
  have hT := Lib.hid (h.front k k6 k5)
  rw [hk]
  have hb : (bytesOf (zs.take k)).length ≤ lim := hT.out.1
  clear h hk k5 k6 hc3
  go_enter Try.func17, Try.ntmps17
  go_wp2_with (at_builtin; go_must (refine wpList_appS _ rfl _ _ 22 rfl 5 i0 Try.underlying22 hi0 hz0 hz1 hz2 (.slice none 0 0) [] rfl (World.ownsRow_nil _ _ _ _) (.slice a k cap) (bytesOf (zs.take k)) rfl hT.out (by simpa using hb) (bytesOf (zs.take k)) (by simp [Hid]) ?_); intro a1 n1 cap1 w1 hA hn1)
  go_ret
  refine ⟨.slice a1 n1 cap1, rfl, SlB.ofRow hA.own hb, fun q hq => ?_, Tch.grown hA.grow (fun q hq _ => by simp [Value.ownBlock] at hq)⟩
  rcases hA.loc with e | e
  · rw [e] at hq; simp [Value.ownBlock] at hq
  · rw [e] at hq; simp at hq; omega

/-- A literal's block, as the walk lays it. -/
theorem SlB.lit0 (w : World) (bs : List UInt8) (C : Array Value) (t : TypeId) (hC : C = (u8s bs).toArray) (hl : bs.length ≤ lim) : SlB (w.alloc (.cells C t (C.size, C.size + 1))) (.slice (some ⟨w.heap.size, 0, none⟩) bs.length bs.length) bs :=
  SlB.lit w C bs bs.length t _ rfl hC hl

set_option maxRecDepth 100000 in
set_option maxHeartbeats 4000000 in
theorem begun3_any (w : World) : Calls Try.prog 56 #[] w fun e w' => e = .returned (.bool true) ∧ Tch No w w' := by
  have kc := fun (w : World) (C : Array Value) (n c : Nat) => Lib.run_convert_bytes_const (P := Try.prog) w 22 5 C n c Try.underlying22 Try.underlying5
  have hnew := Lib.hid (dst_new 100 w)
  have hbeg : Hid (∀ W, Calls Try.prog 66 #[] W fun e w' => e = .returned (.bool true) ∧ Tch No W w') := fun W => begun1'_any W
  go_enter Try.func56, Try.ntmps56
  go_wp2_with fail
  refine hnew.out.mono ?_
  rintro e w1 ⟨db, mb, rfl, h1⟩
  have H1 := Lib.hid h1; clear h1
  go_wp2_with fail
  have hlit := SlB.lit0 w1 [120, 121, 122] #[.int .u8 120, .int .u8 121, .int .u8 122] 5 rfl (by decide)
  refine (dst_append (H1.out.keep (Tch.alloc _ _)) ⟨#[97, 49]⟩ _ [120, 121, 122] hlit ?_ (by decide) (by simp) (by simp)).mono ?_
  · intro k hk e
    obtain ⟨L, _, h2, _⟩ := H1.out
    have := DiskF.lt h2 mb (.inr (.inl rfl))
    simp [Value.ownBlock] at hk
    omega
  rintro e w2 ⟨rfl, h2⟩
  have e2 : mAppend [] (roomOf 100) (ByteArray.mk #[97, 49]).data.toList [120, 121, 122] = (0, [⟨[97, 49], [120, 121, 122], 0, false⟩]) := rfl
  rw [e2] at h2 ⊢
  have H2 := Lib.hid h2; clear h2 e2 hlit
  go_wp2_with fail
  refine (dst_append H2.out ⟨#[65]⟩ (.slice none 0 0) [] (SlB.nil _) (fun k hk => by simp [Value.ownBlock] at hk) (by decide) (by simp) (by simp)).mono ?_
  rintro e w3 ⟨rfl, h3⟩
  have e3 : mAppend [⟨[97, 49], [120, 121, 122], 0, false⟩] (roomOf 100) (ByteArray.mk #[65]).data.toList [] = (1, [⟨[97, 49], [120, 121, 122], 0, false⟩]) := rfl
  dsimp only at e3 h3 ⊢
  rw [e3] at h3 ⊢
  have H3 := Lib.hid h3; clear h3 e3
  go_wp2_with fail
  refine (dst_fall H3.out 2 (by omega) (by omega) (by simp)).mono ?_
  rintro e w4 ⟨db4, mb4, rfl, h4, g4⟩
  have H4 := Lib.hid h4; have G4 := Lib.hid g4; clear h4 g4
  go_wp2_with fail
  refine (dst_read2 H4.out G4.out ⟨#[97, 49]⟩ (by decide)).mono ?_
  rintro e w5 ⟨x, rfl, h5, _⟩
  have e5 : mGet (mFall 2 [⟨[97, 49], [120, 121, 122], 0, false⟩]) (ByteArray.mk #[97, 49]).data.toList = some ⟨[97, 49], [120, 121], 2, true⟩ := by kernel_rfl
  rw [e5] at h5 ⊢
  have H5 := Lib.hid h5; clear h5 e5 H4 G4
  go_wp2_with fail
  refine (dst_fall H5.out 0 (by omega) (by omega) (by simp)).mono ?_
  rintro e w6 ⟨db6, mb6, rfl, h6, g6⟩
  have H6 := Lib.hid h6; have G6 := Lib.hid g6; clear h6 g6
  go_wp2_with fail
  refine (dst_read2 H6.out G6.out ⟨#[97, 49]⟩ (by decide)).mono ?_
  rintro e w7 ⟨x7, rfl, h7, _⟩
  have e7 : mGet (mFall 0 [⟨[97, 49], [120, 121, 122], 0, false⟩]) (ByteArray.mk #[97, 49]).data.toList = none := by decide +kernel
  rw [e7] at h7 ⊢
  have H7 := Lib.hid h7; clear h7 e7 H6 G6 H5
  go_wp2_with fail
  refine (dst_sync H7.out ⟨#[97, 49]⟩ (by decide)).mono ?_
  rintro e w8 ⟨rfl, h8⟩
  have e8 : mSync [⟨[97, 49], [120, 121, 122], 0, false⟩] (ByteArray.mk #[97, 49]).data.toList = [⟨[97, 49], [120, 121, 122], 3, true⟩] := rfl
  have e8' : (mGet [⟨[97, 49], [120, 121, 122], 0, false⟩] (ByteArray.mk #[97, 49]).data.toList).isSome = true := rfl
  rw [e8] at h8
  rw [e8']
  have H8 := Lib.hid h8; clear h8 e8 e8' H7
  go_wp2_with fail
  refine (dst_rename H8.out ⟨#[97, 49]⟩ ⟨#[98]⟩ (by decide) (by decide) (by simp)).mono ?_
  rintro e w9 ⟨rfl, h9⟩
  have e9 : mRename [⟨[97, 49], [120, 121, 122], 3, true⟩] (ByteArray.mk #[97, 49]).data.toList (ByteArray.mk #[98]).data.toList = (0, [⟨[98], [120, 121, 122], 3, true⟩]) := rfl
  rw [e9] at h9 ⊢
  have H9 := Lib.hid h9; clear h9 e9 H8
  go_wp2_with fail
  refine (dst_delete H9.out ⟨#[97, 49]⟩ (by decide)).mono ?_
  rintro e w10 ⟨rfl, h10⟩
  have e10 : mDel [⟨[98], [120, 121, 122], 3, true⟩] (ByteArray.mk #[97, 49]).data.toList = [⟨[98], [120, 121, 122], 3, true⟩] := rfl
  have e10' : (mGet [⟨[98], [120, 121, 122], 3, true⟩] (ByteArray.mk #[97, 49]).data.toList).isSome = false := rfl
  rw [e10] at h10
  rw [e10']
  have H10 := Lib.hid h10; clear h10 e10 e10' H9
  go_wp2_with fail
  refine (dst_fall H10.out (-1) (by omega) (by omega) (by simp)).mono ?_
  rintro e w11 ⟨db11, mb11, rfl, h11, g11⟩
  have H11 := Lib.hid h11; have G11 := Lib.hid g11; clear h11 g11
  go_wp2_with fail
  refine (dst_read2 H11.out G11.out ⟨#[98]⟩ (by decide)).mono ?_
  rintro e w12 ⟨y, rfl, h12, _⟩
  have e12 : mGet (mFall (-1) [⟨[98], [120, 121, 122], 3, true⟩]) (ByteArray.mk #[98]).data.toList = some ⟨[98], [120, 121, 122], 3, true⟩ := by kernel_rfl
  rw [e12] at h12 ⊢
  have H12 := Lib.hid h12; clear h12 e12 H11 G11 H10
  go_wp2_with fail
  refine (hbeg.out w12).mono ?_
  rintro e w13 ⟨rfl, t13⟩
  have H13 := Lib.hid (H12.out.keep t13)
  have hx := (H13.out.held (v := x) (bs := [120, 121]) (by simp)).str (P := Try.prog) Try.underlying22 Try.underlying5 Try.underlying9
  have hy := (H13.out.held (v := y) (bs := [120, 121, 122]) (by simp)).str (P := Try.prog) Try.underlying22 Try.underlying5 Try.underlying9
  go_wp2_with fail
  clear hx hy
  refine (dst_sure H13.out ⟨#[98]⟩ (by decide)).mono ?_
  rintro e w14 ⟨rfl, rfl⟩
  have e14 : mSure [⟨[98], [120, 121, 122], 3, true⟩] (ByteArray.mk #[98]).data.toList = 3 := rfl
  rw [e14]
  clear e14
  go_wp2_with fail
  refine (dst_used H13.out (by simp)).mono ?_
  rintro e w14 ⟨rfl, h14⟩
  have e14 : mUsed [⟨[98], [120, 121, 122], 3, true⟩] = 3 := rfl
  rw [e14]
  have H14 := Lib.hid h14; clear h14 e14
  obtain ⟨w15, hmk, q1, q2⟩ := make_bytes w14 98 (by omega)
  have Q1 := Lib.hid q1; clear q1
  have hmk' : (Instr.makeSlice 22 (.int .i64 98) (.int .i64 98)).run Try.prog w14 = .ok (.slice (some ⟨w14.heap.size, 0, none⟩) 98 98) w15 := hmk
  clear hmk
  go_wp2_with fail
  refine (dst_append (H14.out.keep q2) ⟨#[99]⟩ _ (List.replicate 98 0) Q1.out ?_ (by decide) (by simp) (by simp)).mono ?_
  · intro k hk e
    obtain ⟨L, _, h2, _⟩ := H14.out
    have := DiskF.lt h2 mb (.inr (.inl rfl))
    simp [Value.ownBlock] at hk
    omega
  rintro e w16 ⟨rfl, h16⟩
  have e16 : (mAppend [⟨[98], [120, 121, 122], 3, true⟩] (roomOf 100) (ByteArray.mk #[99]).data.toList (List.replicate 98 0)).1 = 5 := by kernel_rfl
  rw [e16]
  have hT := h16.base
  clear h16 e16
  go_wp2
  go_ret
  exact ⟨rfl, hT⟩
end Go.Proofs.Ytcjlgdldhcbcjaa
