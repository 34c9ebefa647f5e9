/- The document's Frame. No condition. -/
import Derived.Test.YtcjlgdldhcbcjaaRSum2
import Derived.Laws.OwnMore
namespace Go.Proofs.Ytcjlgdldhcbcjaa
open Go.RowKit Go.Maps
set_option linter.unusedVariables false
set_option linter.unusedSimpArgs false

theorem xor_inv (c n : Nat) : c ^^^ (c ^^^ n) = n := by rw [← Nat.xor_assoc, Nat.xor_self, Nat.zero_xor]
theorem crcNot_not {n : Nat} (h : n < 4294967296) : crcNot (crcNot n) = n := by
  have key : ∀ c, (∀ m, crcNot m = c ^^^ m) → crcNot (crcNot n) = n := fun c hc => by rw [hc, hc, xor_inv]
  exact key 4294967295 (fun m => rfl)
theorem crcOn_append (a b : List UInt8) : crcOn (crcOn 0 a) b = crcOn 0 (a ++ b) := by
  unfold crcOn
  rw [crcNot_not (crcFold_lt (crcNot_lt (by decide)) a), List.foldl_append]
theorem sumM_eq (bs : List UInt8) : sumM bs = crcOn 0 (leBytes 2 bs.length ++ bs) := crcOn_append _ _
theorem lit_own (w : World) (C : Array Value) (bs : List UInt8) (n : Nat) (hn : bs.length = n) (hC : C = (u8s bs).toArray) (hl : n ≤ lim) : (w.alloc (.cells C 5)).ownsRow 0 5 1 (.slice (some ⟨w.heap.size, 0, none⟩) n n) n (u8s bs) := by
  refine ⟨by simp [u8s, hn], .inr ⟨w.heap.size, n, C, rfl, Nat.zero_le _, heap_alloc_new w _, Nat.le_refl _, by unfold lim at hl; unfold maxLen; omega, ?_, ?_⟩⟩
  · rw [hC]; simp [u8s, hn]
  · rw [hC, List.take_of_length_le (by simp [u8s, hn])]
set_option maxRecDepth 100000 in
set_option maxHeartbeats 1000000 in
theorem rsmall_any (n : Nat) (hn : n ≤ 65535) (w : World) : Calls Try.prog 40 #[.int .i64 n] w fun e w' => e = .returned (.slice (some ⟨w.heap.size, 0, none⟩) 2 2) ∧ Tch No w w' ∧ w'.ownsRow 0 5 1 (.slice (some ⟨w.heap.size, 0, none⟩) 2 2) 2 (u8s (leBytes 2 n)) := by
  have h1 : ((UInt8.ofNat (n % 256)).toNat : Int) = (n : Int) % 256 := by simp
  have h2 : ((UInt8.ofNat (n / 256 % 256)).toNat : Int) = (n : Int) / 256 % 256 := by simp
  have hC : (#[.int .u8 ((n : Int) % 256), .int .u8 ((n : Int) / 256 % 256)] : Array Value) = (u8s (leBytes 2 n)).toArray := by
    simp only [leBytes, u8s, List.map_cons, List.map_nil, h1, h2]
  have B0 : ∀ z : Int, 0 ≤ z → z ≤ 65535 → bits .and .i64 z 255 = z % 256 := fun z h1 h2 => by
    have := bits_mask .i64 63 (by decide) (fun n h1 h2 => IntWalk.i64_in n ⟨by omega, by omega⟩) 8 (by decide) z (by omega) (by omega)
    rw [show ((2 : Int) ^ 8 - 1) = 255 by decide, show ((2 : Int) ^ 8) = 256 by decide] at this
    exact this
  have B1 := B0 (n : Int) (by omega) (by omega)
  have B2 := B0 ((n : Int) / 256) (by omega) (by omega)
  have ho := Lib.hid (lit_own w _ (leBytes 2 n) 2 (leBytes_length _ _) hC (by unfold lim; omega))
  clear hC h1 h2 B0
  go_enter Try.func40, Try.ntmps40
  go_wp2_with fail
  go_ret
  exact ⟨rfl, Tch.alloc _ _, ho.out⟩
/-- What the document's Frame gives. -/
def RFramePost (w : World) (bs : List UInt8) (e : Ending) (w' : World) : Prop :=
  ∃ v, e = .returned v ∧ SlB w' v (frameM bs) ∧ (∀ k, v.ownBlock = some k → w.heap.size ≤ k) ∧ v ≠ .slice none 0 0 ∧ Tch No w w'
set_option maxRecDepth 100000 in
set_option maxHeartbeats 2000000 in
theorem rframe_any (v : Value) (bs : List UInt8) (w : World) (hv : SlB w v bs) (hf : fits bs) : Calls Try.prog 19 #[v] w (RFramePost w bs) := by
  obtain ⟨i0, hi0, hz0, hz1, hz2⟩ := info_parts infoB
  unfold fits at hf
  obtain ⟨a, cap, rfl, hcap, hm⟩ := hv.shape
  have HV := Lib.hid hv
  obtain ⟨n, hn⟩ : ∃ n, bs.length = n := ⟨_, rfl⟩
  have HN := Lib.hid hn
  rw [hn] at hcap hf ⊢
  have p1 : ¬ (n : Int) < 1 := by omega
  have p2 : ¬ 4000 < (n : Int) := by omega
  obtain ⟨s, hs⟩ : ∃ s, sumM bs = s := ⟨_, rfl⟩
  have HS := Lib.hid hs
  have hsl : s < 4294967296 := by rw [← hs]; exact crcOn_lt (crcOn_lt (by decide) _) _
  obtain ⟨hd, hhd⟩ : ∃ hd, leBytes 2 n = hd := ⟨_, rfl⟩
  have HD := Lib.hid hhd
  have hd2 : hd.length = 2 := by rw [← hhd]; exact leBytes_length _ _
  have hsum : Hid (crcOn 0 (hd ++ bs) = s) := by rw [Hid, ← hs, sumM_eq, hn, hhd]
  have HL : Hid (bs.length ≤ 4000 ∧ hd.length = 2) := ⟨by omega, hd2⟩
  clear hn hs hv hhd hd2
  go_enter Try.func19, Try.ntmps19
  go_wp2_with fail
  refine (rsmall_any n (by omega) w).mono ?_
  rintro e w1 ⟨rfl, t1, o1⟩
  rw [HD.out] at o1
  have T1 := Lib.hid t1; have O1 := Lib.hid o1; clear t1 o1
  have B1 : Hid (SlB w1 (.slice (some ⟨w.heap.size, 0, none⟩) 2 2) hd) := by
    have h := O1.out
    rw [← HL.out.2] at h
    have h2 := SlB.ofRow h (by rw [HL.out.2]; unfold lim; omega)
    rw [HL.out.2] at h2
    exact h2
  go_wp2_with (at_builtin; first
    | (refine wpList_app _ rfl _ _ 22 rfl 5 i0 Try.underlying22 hi0 hz0 hz1 hz2 (.slice none 0 0) [] rfl (World.ownsRow_nil _ _ _ _) (.slice (some ⟨w.heap.size, 0, none⟩) 2 2) hd rfl B1.out (by have := HL.out; unfold lim; simp; omega) hd (by simp [Hid]) ?_; intro aA nA cA wA hA hnA; have HA := Lib.hid hA; have TA : Hid (Tch No w1 wA) := Tch.grown hA.grow (fun q hq _ => by simp [Value.ownBlock] at hq); clear hA)
    | (refine wpList_app _ rfl _ _ 22 rfl 5 i0 Try.underlying22 hi0 hz0 hz1 hz2 (.slice aA nA cA) hd rfl HA.out.own (.slice a n cap) bs rfl (by have h := (HV.out.tch0 T1.out).tch0 TA.out; rw [HN.out] at h; exact h) (by have := HL.out; unfold lim; omega) (hd ++ bs) (by simp [Hid]) ?_; intro aB nB cB wB hB hnB; have HB := Lib.hid hB; have TB : Hid (Tch No w1 wB) := TA.out.fresh (Tch.grown hB.grow (F := fun k => (Value.slice aA nA cA).ownBlock = some k) (fun k hk _ => hk)) (fun k hk => by
        rcases HA.out.loc with e | e
        · rw [e] at hk; simp [Value.ownBlock] at hk
        · rw [e] at hk; simp at hk; omega); clear hB))
  have SB : Hid (SlB wB (.slice aB nB cB) (hd ++ bs)) := SlB.ofRow HB.out.own (by have := HL.out; unfold lim; rw [List.length_append]; omega)
  refine (rsum_any _ (hd ++ bs) wB SB.out (by have := HL.out; rw [List.length_append]; omega)).mono ?_
  rintro e w4 ⟨rfl, t4⟩
  rw [hsum.out]
  have T4 := Lib.hid (TB.out.trans0 t4); clear t4 SB HB HA TA TB
  obtain ⟨tl, htl⟩ : ∃ tl, leBytes 2 s ++ leBytes 2 (s / 65536) = tl := ⟨_, rfl⟩
  have htl4 : tl.length = 4 := by rw [← htl]; simp [leBytes_length]
  have SL : Hid (SlB (w4.alloc (.cells #[.int .u8 ((s : Int) % 256), .int .u8 ((s : Int) / 256 % 256), .int .u8 ((s : Int) / 65536 % 256), .int .u8 ((s : Int) / 16777216)] 5)) (.slice (some ⟨w4.heap.size, 0, none⟩) 4 4) tl) := by
    have h1 : ((UInt8.ofNat (s % 256)).toNat : Int) = (s : Int) % 256 := by simp
    have h2 : ((UInt8.ofNat (s / 256 % 256)).toNat : Int) = (s : Int) / 256 % 256 := by simp
    have h3 : ((UInt8.ofNat (s / 65536 % 256)).toNat : Int) = (s : Int) / 65536 % 256 := by simp
    have h4 : ((UInt8.ofNat (s / 65536 / 256 % 256)).toNat : Int) = (s : Int) / 16777216 := by simp; omega
    refine SlB.lit w4 _ tl 4 5 (0, 0) htl4 ?_ (by unfold lim; omega)
    rw [← htl]
    simp only [leBytes, u8s, List.cons_append, List.nil_append, List.map_cons, List.map_nil, h1, h2, h3, h4]
  have HTL := Lib.hid htl4
  have hE : Hid (frameM bs = (hd ++ tl) ++ bs) := by rw [Hid, frameM, sizedM, HS.out, HN.out, HD.out, ← htl]; simp [List.append_assoc]
  have B4 : Hid (SlB w4 (.slice a n cap) bs) := by have h := (HV.out.tch0 T1.out).tch0 T4.out; rw [HN.out] at h; exact h
  clear htl htl4
  go_wp2_with (at_builtin; first
    | (refine wpList_app _ rfl _ _ 22 rfl 5 i0 Try.underlying22 hi0 hz0 hz1 hz2 (.slice (some ⟨w.heap.size, 0, none⟩) 2 2) hd rfl (by have h := own_tch (own_tch O1.out T4.out (fun _ _ h => h)) (Tch.alloc w4 (.cells #[.int .u8 ((s : Int) % 256), .int .u8 ((s : Int) / 256 % 256), .int .u8 ((s : Int) / 65536 % 256), .int .u8 ((s : Int) / 16777216)] 5)) (fun _ _ h => h); rw [HL.out.2]; exact h) (.slice (some ⟨w4.heap.size, 0, none⟩) 4 4) tl rfl SL.out (by have := HL.out; have := HTL.out; unfold lim; omega) (hd ++ tl) (by simp [Hid]) ?_; intro aC nC cC wC hC hnC; have HC := Lib.hid hC; clear hC)
    | (refine wpList_app _ rfl _ _ 22 rfl 5 i0 Try.underlying22 hi0 hz0 hz1 hz2 (.slice aC nC cC) (hd ++ tl) rfl HC.out.own (.slice a n cap) bs rfl ((B4.out.tch0 (Tch.alloc _ _)).tch (Tch.grown HC.out.grow (F := fun k => (Value.slice (some ⟨w.heap.size, 0, none⟩) 2 2).ownBlock = some k) (fun k hk _ => hk)) (fun k hk e => by have h := HV.out; rw [HN.out] at h; have := h.blt k hk; simp [Value.ownBlock] at e; omega)) (by have := HL.out; have := HTL.out; unfold lim; rw [List.length_append]; omega) ((hd ++ tl) ++ bs) (by simp [Hid]) ?_; intro aD nD cD wD hD hnD; have HDD := Lib.hid hD; have HND := Lib.hid hnD; clear hD))
  go_ret
  have hlen : ((hd ++ tl) ++ bs).length ≤ 4006 := by have := HL.out; have := HTL.out; simp only [List.length_append]; omega
  have t14 : Tch No w (w4.alloc (.cells #[.int .u8 ((s : Int) % 256), .int .u8 ((s : Int) / 256 % 256), .int .u8 ((s : Int) / 65536 % 256), .int .u8 ((s : Int) / 16777216)] 5)) := (T1.out.trans0 T4.out).trans0 (Tch.alloc _ _)
  have hlen4 := HTL.out
  have hCl : ∀ k, (Value.slice aC nC cC).ownBlock = some k → w.heap.size ≤ k := fun k hk => by
    rcases HC.out.loc with e | e
    · rw [e] at hk; simp [Value.ownBlock] at hk; omega
    · rw [e] at hk; simp at hk; have := T1.out.size; have := T4.out.size; omega
  have tC : Tch No w wC := t14.fresh (Tch.grown HC.out.grow (F := fun k => (Value.slice (some ⟨w.heap.size, 0, none⟩) 2 2).ownBlock = some k) (fun k hk _ => hk)) (fun k hk => by simp [Value.ownBlock] at hk; omega)
  have tD : Tch No w wD := tC.fresh (Tch.grown HDD.out.grow (F := fun k => (Value.slice aC nC cC).ownBlock = some k) (fun k hk _ => hk)) (fun k hk => hCl k hk)
  refine ⟨.slice aD nD cD, rfl, by rw [hE.out]; exact SlB.ofRow HDD.out.own (by unfold lim; omega), fun k hk => ?_, fun e => ?_, tD⟩
  · rcases HDD.out.loc with q | q
    · exact hCl k (by rw [← q]; exact hk)
    · rw [q] at hk; simp at hk; have := tC.size; omega
  · have h1 := HND.out.out
    simp only [Value.slice.injEq] at e
    obtain ⟨_, e2, _⟩ := e
    have := HTL.out
    simp only [List.length_append] at h1
    omega
set_option maxRecDepth 100000 in
set_option maxHeartbeats 1000000 in
theorem rframe_no (v : Value) (bs : List UInt8) (w : World) (hv : SlB w v bs) (hf : ¬ fits bs) : Calls Try.prog 19 #[v] w fun e w' => e = .returned (.slice none 0 0) ∧ w = w' := by
  unfold fits at hf
  obtain ⟨a, cap, rfl, hcap, hm⟩ := hv.shape
  obtain ⟨n, hn⟩ : ∃ n, bs.length = n := ⟨_, rfl⟩
  rw [hn] at hcap hf ⊢
  clear hn hv
  by_cases h0 : n < 1
  · have p1 : (n : Int) < 1 := by omega
    go_enter Try.func19, Try.ntmps19
    go_wp2_with fail
    go_ret
    exact ⟨rfl, rfl⟩
  · have p1 : ¬ (n : Int) < 1 := by omega
    have p2 : 4000 < (n : Int) := by omega
    go_enter Try.func19, Try.ntmps19
    go_wp2_with fail
    go_ret
    exact ⟨rfl, rfl⟩
end Go.Proofs.Ytcjlgdldhcbcjaa
