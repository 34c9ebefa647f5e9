/- A disk and the document's disk side by side, apart from each other, and slices of bytes beside both. No condition. -/
import Derived.Test.YtbhemlddncmmfaaSame
namespace Go.Proofs.Ytbhemlddncmmfaa
open Go.RowKit Go.Maps
set_option linter.unusedVariables false
set_option linter.unusedSimpArgs false

def Two (w0 w : World) (db mb room rb : Nat) (M N : List FE) (Hs : List (Value × List UInt8)) : Prop :=
  ∃ L v R, L.map (·.f) = M ∧ R.map (·.f) = N ∧ IsDisk w db mb room L ∧ IsRef w rb room v R ∧ (∀ k, DiskF db mb L k → w0.heap.size ≤ k) ∧ (∀ k, RefF rb v R k → w0.heap.size ≤ k) ∧ (∀ k, DiskF db mb L k → ¬ RefF rb v R k) ∧ Tch No w0 w ∧
    ∀ p ∈ Hs, SlB w p.1 p.2 ∧ ∀ k, p.1.ownBlock = some k → ¬ DiskF db mb L k ∧ ¬ RefF rb v R k

variable {w0 w : World} {db mb room rb : Nat} {M N : List FE} {Hs : List (Value × List UInt8)}

theorem Two.base (h : Two w0 w db mb room rb M N Hs) : Tch No w0 w := by obtain ⟨_, _, _, _, _, _, _, _, _, _, h, _⟩ := h; exact h
theorem Two.keep (h : Two w0 w db mb room rb M N Hs) {w' : World} (ht : Tch No w w') : Two w0 w' db mb room rb M N Hs := by
  obtain ⟨L, v, R, h1, h2, h3, h4, h5, h6, h7, h8, h9⟩ := h
  exact ⟨L, v, R, h1, h2, h3.tch0 ht, h4.tch0 ht, h5, h6, h7, h8.trans0 ht, fun p hp => ⟨(h9 p hp).1.tch0 ht, (h9 p hp).2⟩⟩
theorem Two.held (h : Two w0 w db mb room rb M N Hs) {v : Value} {bs : List UInt8} (hp : (v, bs) ∈ Hs) : SlB w v bs := by
  obtain ⟨_, _, _, _, _, _, _, _, _, _, _, h9⟩ := h; exact (h9 _ hp).1
theorem Two.hold (h : Two w0 w db mb room rb M N Hs) {w' : World} (ht : Tch No w w') {v : Value} {bs : List UInt8} (hv : SlB w' v bs) (hf : ∀ k, v.ownBlock = some k → w.heap.size ≤ k) : Two w0 w' db mb room rb M N ((v, bs) :: Hs) := by
  obtain ⟨L, v', R, h1, h2, h3, h4, h5, h6, h7, h8, h9⟩ := h
  refine ⟨L, v', R, h1, h2, h3.tch0 ht, h4.tch0 ht, h5, h6, h7, h8.trans0 ht, fun p hp => ?_⟩
  simp only [List.mem_cons] at hp
  rcases hp with rfl | hp
  · exact ⟨hv, fun k hk => ⟨fun hd => by have := hf k hk; have := DiskF.lt h3 k hd; omega, fun hd => by have := hf k hk; have := RefF.lt h4 k hd; omega⟩⟩
  · exact ⟨(h9 p hp).1.tch0 ht, (h9 p hp).2⟩
theorem Two.drop (h : Two w0 w db mb room rb M N Hs) : Two w0 w db mb room rb M N [] := by
  obtain ⟨L, v, R, h1, h2, h3, h4, h5, h6, h7, h8, _⟩ := h
  exact ⟨L, v, R, h1, h2, h3, h4, h5, h6, h7, h8, fun p hp => by simp at hp⟩

theorem two_file {L : List FL} {v : Value} {R : List RE} (h2 : R.map (·.f) = N) (h4 : IsRef w rb room v R) (h5 : ∀ k, DiskF db mb L k → w0.heap.size ≤ k) (h6 : ∀ k, RefF rb v R k → w0.heap.size ≤ k) (h7 : ∀ k, DiskF db mb L k → ¬ RefF rb v R k) (h8 : Tch No w0 w)
    (h9 : ∀ p ∈ Hs, SlB w p.1 p.2 ∧ ∀ k, p.1.ownBlock = some k → ¬ DiskF db mb L k ∧ ¬ RefF rb v R k) {res : Value} {M' : List FE} {e : Ending} {w' : World} (hp : DiskPost w db mb room L res M' e w') : e = .returned res ∧ Two w0 w' db mb room rb M' N Hs := by
  obtain ⟨rfl, L', q1, q2, q3, q4⟩ := hp
  refine ⟨rfl, L', v, R, q1, h2, q2, h4.tch q3 (fun k hk hd => h7 k hd hk), fun k hk => ?_, h6, fun k hk hr => ?_, h8.fresh q3 h5, fun p hp => ⟨(h9 p hp).1.tch q3 (fun k hk => ((h9 p hp).2 k hk).1), fun k hk => ⟨fun hd => ?_, ((h9 p hp).2 k hk).2⟩⟩⟩
  · rcases q4 k hk with h | h
    · exact h5 k h
    · have := h8.size; omega
  · rcases q4 k hk with h | h
    · exact h7 k h hr
    · have := RefF.lt h4 k hr; omega
  · rcases q4 k hd with h | h
    · exact ((h9 p hp).2 k hk).1 h
    · have := (h9 p hp).1.blt k hk; omega
theorem two_ref {L : List FL} {v : Value} {R : List RE} (h1 : L.map (·.f) = M) (h3 : IsDisk w db mb room L) (h5 : ∀ k, DiskF db mb L k → w0.heap.size ≤ k) (h6 : ∀ k, RefF rb v R k → w0.heap.size ≤ k) (h7 : ∀ k, DiskF db mb L k → ¬ RefF rb v R k) (h8 : Tch No w0 w)
    (h9 : ∀ p ∈ Hs, SlB w p.1 p.2 ∧ ∀ k, p.1.ownBlock = some k → ¬ DiskF db mb L k ∧ ¬ RefF rb v R k) {res : Value} {N' : List FE} {e : Ending} {w' : World} (hp : RefPost w rb room v R res N' e w') : e = .returned res ∧ Two w0 w' db mb room rb M N' Hs := by
  obtain ⟨rfl, v', R', q1, q2, q3, q4⟩ := hp
  refine ⟨rfl, L, v', R', h1, q1, h3.tch q3 (fun k hk hd => h7 k hk hd), q2, h5, fun k hk => ?_, fun k hk hr => ?_, h8.fresh q3 h6, fun p hp => ⟨(h9 p hp).1.tch q3 (fun k hk => ((h9 p hp).2 k hk).2), fun k hk => ⟨((h9 p hp).2 k hk).1, fun hd => ?_⟩⟩⟩
  · rcases q4 k hk with h | h
    · exact h6 k h
    · have := h8.size; omega
  · rcases q4 k hr with h | h
    · exact h7 k hk h
    · have := DiskF.lt h3 k hk; omega
  · rcases q4 k hd with h | h
    · exact ((h9 p hp).2 k hk).2 h
    · have := (h9 p hp).1.blt k hk; omega

theorem two_new (h : DSt w0 w db mb room [] Hs) (n : Int) (hr : roomOf n = room) :
    Calls Try.prog 16 #[.int .i64 n] w fun e w' => ∃ rb, e = .returned (.pointer (some ⟨rb, 0, none⟩)) ∧ Two w0 w' db mb room rb [] [] Hs := by
  subst hr
  obtain ⟨L, h1, h2, h3, h4, h5⟩ := h
  refine (newdisk_any n w).mono ?_
  rintro e w' ⟨rb, rfl, q1, q2, q3⟩
  have hR : ∀ k, RefF rb (.slice none 0 0) [] k → k = rb := by
    rintro k (rfl | hk | ⟨x, hx, _⟩)
    · rfl
    · simp [Value.ownBlock] at hk
    · simp at hx
  have hs := h4.size
  exact ⟨rb, rfl, L, _, [], h1, rfl, h2.tch0 q3, q1, h3, fun k hk => by rw [hR k hk]; omega, fun k hk hd => by have := DiskF.lt h2 k hk; have := hR k hd; omega, h4.trans0 q3, fun p hp => ⟨(h5 p hp).1.tch0 q3, fun k hk => ⟨(h5 p hp).2 k hk, fun hd => by have := (h5 p hp).1.blt k hk; have := hR k hd; omega⟩⟩⟩

theorem two_fappend (h : Two w0 w db mb room rb M N Hs) (s : ByteArray) (v : Value) (bs : List UInt8) (hp : (v, bs) ∈ Hs) (hs : s.data.toList.length ≤ lim) (hcnt : M.length ≤ 999998) (hbl : bs.length ≤ 900000000) :
    Calls Try.prog 21 #[.pointer (some ⟨db, 0, none⟩), .string s, v] w fun e w' => e = .returned (.int .i64 ((mAppend M room s.data.toList bs).1 : Nat)) ∧ Two w0 w' db mb room rb (mAppend M room s.data.toList bs).2 N Hs := by
  obtain ⟨L, v', R, rfl, h2, h3, h4, h5, h6, h7, h8, h9⟩ := h
  exact (append_any db mb room L s v bs w h3 (h9 _ hp).1 hs (by simp at hcnt; omega) hbl (fun k hk e => ((h9 _ hp).2 k hk).1 (.inr (.inl e)))).mono fun e w' hq => two_file h2 h4 h5 h6 h7 h8 h9 hq
theorem two_rappend (h : Two w0 w db mb room rb M N Hs) (s : ByteArray) (v : Value) (bs : List UInt8) (hp : (v, bs) ∈ Hs) (hs : s.data.toList.length ≤ lim) (hcnt : N.length ≤ 999998) (hbl : bs.length ≤ 900000000) :
    Calls Try.prog 24 #[.pointer (some ⟨rb, 0, none⟩), .string s, v] w fun e w' => e = .returned (.int .i64 ((mAppend N room s.data.toList bs).1 : Nat)) ∧ Two w0 w' db mb room rb M (mAppend N room s.data.toList bs).2 Hs := by
  obtain ⟨L, v', R, h1, rfl, h3, h4, h5, h6, h7, h8, h9⟩ := h
  exact (rappend_any rb room v' R s v bs w h4 (h9 _ hp).1 hs (by simpa using hcnt) hbl (fun k hk e => ((h9 _ hp).2 k hk).2 e)).mono fun e w' hq => two_ref h1 h3 h5 h6 h7 h8 h9 hq
theorem two_fsync (h : Two w0 w db mb room rb M N Hs) (s : ByteArray) (hs : s.size ≤ maxLen) :
    Calls Try.prog 29 #[.pointer (some ⟨db, 0, none⟩), .string s] w fun e w' => e = .returned (.int .i64 (if (mGet M s.data.toList).isSome then 0 else 6)) ∧ Two w0 w' db mb room rb (mSync M s.data.toList) N Hs := by
  obtain ⟨L, v', R, rfl, h2, h3, h4, h5, h6, h7, h8, h9⟩ := h
  exact (sync_any db mb room L s w h3 hs).mono fun e w' hq => two_file h2 h4 h5 h6 h7 h8 h9 hq
theorem two_rsync (h : Two w0 w db mb room rb M N Hs) (s : ByteArray) (hcnt : N.length ≤ 999998) :
    Calls Try.prog 34 #[.pointer (some ⟨rb, 0, none⟩), .string s] w fun e w' => e = .returned (.int .i64 (if (mGet N s.data.toList).isSome then 0 else 6)) ∧ Two w0 w' db mb room rb M (mSync N s.data.toList) Hs := by
  obtain ⟨L, v', R, h1, rfl, h3, h4, h5, h6, h7, h8, h9⟩ := h
  exact (rsync_any rb room v' R s w h4 (by simp at hcnt; omega)).mono fun e w' hq => two_ref h1 h3 h5 h6 h7 h8 h9 hq
theorem two_fdelete (h : Two w0 w db mb room rb M N Hs) (s : ByteArray) (hs : s.size ≤ maxLen) :
    Calls Try.prog 30 #[.pointer (some ⟨db, 0, none⟩), .string s] w fun e w' => e = .returned (.int .i64 (if (mGet M s.data.toList).isSome then 0 else 6)) ∧ Two w0 w' db mb room rb (mDel M s.data.toList) N Hs := by
  obtain ⟨L, v', R, rfl, h2, h3, h4, h5, h6, h7, h8, h9⟩ := h
  exact (delete_any db mb room L s w h3 hs).mono fun e w' hq => two_file h2 h4 h5 h6 h7 h8 h9 hq
theorem two_rdelete (h : Two w0 w db mb room rb M N Hs) (s : ByteArray) (hcnt : N.length ≤ 999998) :
    Calls Try.prog 35 #[.pointer (some ⟨rb, 0, none⟩), .string s] w fun e w' => e = .returned (.int .i64 (if (mGet N s.data.toList).isSome then 0 else 6)) ∧ Two w0 w' db mb room rb M (mDel N s.data.toList) Hs := by
  obtain ⟨L, v', R, h1, rfl, h3, h4, h5, h6, h7, h8, h9⟩ := h
  exact (rdelete_any rb room v' R s w h4 (by simp at hcnt; omega)).mono fun e w' hq => two_ref h1 h3 h5 h6 h7 h8 h9 hq
theorem two_frename (h : Two w0 w db mb room rb M N Hs) (s t : ByteArray) (hs : s.size ≤ maxLen) (ht : t.data.toList.length ≤ lim) (hcnt : M.length ≤ 999998) :
    Calls Try.prog 25 #[.pointer (some ⟨db, 0, none⟩), .string s, .string t] w fun e w' => e = .returned (.int .i64 ((mRename M s.data.toList t.data.toList).1 : Nat)) ∧ Two w0 w' db mb room rb (mRename M s.data.toList t.data.toList).2 N Hs := by
  obtain ⟨L, v', R, rfl, h2, h3, h4, h5, h6, h7, h8, h9⟩ := h
  exact (rename_any db mb room L s t w h3 hs ht (by simp at hcnt; omega)).mono fun e w' hq => two_file h2 h4 h5 h6 h7 h8 h9 hq
theorem two_rrename (h : Two w0 w db mb room rb M N Hs) (s t : ByteArray) (ht : t.data.toList.length ≤ lim) (hcnt : N.length ≤ 999998) :
    Calls Try.prog 26 #[.pointer (some ⟨rb, 0, none⟩), .string s, .string t] w fun e w' => e = .returned (.int .i64 ((mRename N s.data.toList t.data.toList).1 : Nat)) ∧ Two w0 w' db mb room rb M (mRename N s.data.toList t.data.toList).2 Hs := by
  obtain ⟨L, v', R, h1, rfl, h3, h4, h5, h6, h7, h8, h9⟩ := h
  exact (rrename_any rb room v' R s t w h4 ht (by simp at hcnt; omega)).mono fun e w' hq => two_ref h1 h3 h5 h6 h7 h8 h9 hq
theorem two_same (h : Two w0 w db mb room rb M M Hs) (hcnt : M.length ≤ 999998) :
    Calls Try.prog 18 #[.pointer (some ⟨db, 0, none⟩), .pointer (some ⟨rb, 0, none⟩)] w fun e w' => e = .returned (.bool true) ∧ Two w0 w' db mb room rb M M Hs := by
  have H := h
  obtain ⟨L, v', R, h1, h2, h3, h4, h5, h6, h7, h8, h9⟩ := h
  exact (same_any db mb room L rb room v' R w h3 h4 (h2.trans h1.symm) (by rw [← h1] at hcnt; simp at hcnt; omega)).mono fun e w' ⟨q1, q2⟩ => ⟨q1, H.keep q2⟩
theorem two_nil (h : Two w0 w db mb room rb M N Hs) : Two w0 w db mb room rb M N ((.slice none 0 0, []) :: Hs) := by
  obtain ⟨L, v', R, h1, h2, h3, h4, h5, h6, h7, h8, h9⟩ := h
  refine ⟨L, v', R, h1, h2, h3, h4, h5, h6, h7, h8, fun p hp => ?_⟩
  simp only [List.mem_cons] at hp
  rcases hp with rfl | hp
  · exact ⟨SlB.nil _, fun k hk => by simp [Value.ownBlock] at hk⟩
  · exact h9 p hp
theorem lenA (M : List FE) (room : Nat) (n : Key) (bs : List UInt8) : (mAppend M room n bs).2.length ≤ M.length + 1 := by
  unfold mAppend
  split
  · simp
  split
  · simp
  show (mAppL M n bs).length ≤ _
  unfold mAppL; split <;> simp
theorem lenD (M : List FE) (n : Key) : (mDel M n).length ≤ M.length := List.length_filter_le _ _
theorem lenR (M : List FE) (a b : Key) : (mRename M a b).2.length ≤ M.length := by
  unfold mRename
  split
  · simp
  split
  · simp
  split
  · simp
  show (mRen M a b).length ≤ _
  unfold mRen; rw [List.length_map]; exact lenD M b
theorem lenS (M : List FE) (n : Key) : (mSync M n).length = M.length := by unfold mSync; simp
theorem lenF (M : List FE) (n : Int) : (mFall n M).length ≤ M.length := List.length_filterMap_le _ _
end Go.Proofs.Ytbhemlddncmmfaa
