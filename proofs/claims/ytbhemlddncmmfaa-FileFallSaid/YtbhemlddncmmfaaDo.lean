/- do: an operation of a disk and of the document's disk; both tell the same. No condition. -/
import Derived.Test.YtbhemlddncmmfaaTwo
import Derived.Test.YtbhemlddncmmfaaRef7
import Derived.Test.YtbhemlddncmmfaaOps
import Derived.Deep.DeepCutAuto
import Derived.Outline
namespace Go.Proofs.Ytbhemlddncmmfaa
open Go.RowKit Go.Maps
set_option linter.unusedVariables false
set_option linter.unusedSimpArgs false

theorem two_ffall {w0 w : World} {db mb room rb : Nat} {M N : List FE} (h : Two w0 w db mb room rb M N []) (n : Int) (hn1 : -9223372036854775808 ≤ n) (hn2 : n ≤ 9223372036854775807) (hcnt : M.length ≤ 999998) :
    Calls Try.prog 19 #[.pointer (some ⟨db, 0, none⟩), .int .i64 n] w fun e w' => ∃ db' mb', e = .returned (.pointer (some ⟨db', 0, none⟩)) ∧ Two w0 w' db' mb' room rb (mFall n M) N [] ∧ Tch No w w' := by
  obtain ⟨L, v', R, rfl, h2, h3, h4, h5, h6, h7, h8, h9⟩ := h
  refine (fall_any db mb room L n w h3 (by simp at hcnt; omega) hn1 hn2).mono ?_
  rintro e w' ⟨db', mb', L', rfl, q1, q2, q3, q4⟩
  have hs := h8.size
  exact ⟨db', mb', rfl, ⟨L', v', R, q1, h2, q2, h4.tch0 q4, fun k hk => by have := q3 k hk; omega, h6, fun k hk hr => by have := q3 k hk; have := RefF.lt h4 k hr; omega, h8.trans0 q4, fun p hp => by simp at hp⟩, q4⟩
theorem two_rfall {w0 w : World} {db mb room rb : Nat} {M N : List FE} (h : Two w0 w db mb room rb M N []) (n : Int) (hn1 : -9223372036854775808 ≤ n) (hn2 : n ≤ 9223372036854775807) (hcnt : N.length ≤ 999998) :
    Calls Try.prog 20 #[.pointer (some ⟨rb, 0, none⟩), .int .i64 n] w fun e w' => ∃ rb', e = .returned (.pointer (some ⟨rb', 0, none⟩)) ∧ Two w0 w' db mb room rb' M (mFall n N) [] ∧ Tch No w w' := by
  obtain ⟨L, v', R, h1, rfl, h3, h4, h5, h6, h7, h8, h9⟩ := h
  refine (rfall_any rb room v' R n w h4 (by simp at hcnt; omega) hn1 hn2).mono ?_
  rintro e w' ⟨rb', v2, R', rfl, q1, q2, q3, q4⟩
  have hs := h8.size
  exact ⟨rb', rfl, ⟨L, v2, R', h1, q1, h3.tch0 q4, q2, h5, fun k hk => by have := q3 k hk; omega, fun k hk hr => by have := q3 k hr; have := DiskF.lt h3 k hk; omega, h8.trans0 q4, fun p hp => by simp at hp⟩, q4⟩

/-- .. and a block beside both disks. -/
def TwoB (w0 w : World) (db mb room rb : Nat) (M N : List FE) (Hs : List (Value × List UInt8)) (B : Nat) (o : Obj) : Prop :=
  ∃ L v R, L.map (·.f) = M ∧ R.map (·.f) = N ∧ IsDisk w db mb room L ∧ IsRef w rb room v R ∧ (∀ k, DiskF db mb L k → w0.heap.size ≤ k) ∧ (∀ k, RefF rb v R k → w0.heap.size ≤ k) ∧ (∀ k, DiskF db mb L k → ¬ RefF rb v R k) ∧ Tch No w0 w ∧
    (∀ p ∈ Hs, SlB w p.1 p.2 ∧ ∀ k, p.1.ownBlock = some k → ¬ DiskF db mb L k ∧ ¬ RefF rb v R k) ∧ w.heap[B]? = some o ∧ ¬ DiskF db mb L B ∧ ¬ RefF rb v R B

variable {w0 w : World} {db mb room rb : Nat} {M N : List FE} {Hs : List (Value × List UInt8)} {B : Nat} {o : Obj}
theorem TwoB.two (h : TwoB w0 w db mb room rb M N Hs B o) : Two w0 w db mb room rb M N Hs := by
  obtain ⟨L, v, R, h1, h2, h3, h4, h5, h6, h7, h8, h9, _⟩ := h
  exact ⟨L, v, R, h1, h2, h3, h4, h5, h6, h7, h8, h9⟩
theorem TwoB.blk (h : TwoB w0 w db mb room rb M N Hs B o) : w.heap[B]? = some o := by
  obtain ⟨L, v, R, h1, h2, h3, h4, h5, h6, h7, h8, h9, h10, _⟩ := h
  exact h10
theorem TwoB.keep (h : TwoB w0 w db mb room rb M N Hs B o) {w' : World} (ht : Tch No w w') : TwoB w0 w' db mb room rb M N Hs B o := by
  obtain ⟨L, v, R, h1, h2, h3, h4, h5, h6, h7, h8, h9, h10, h11, h12⟩ := h
  exact ⟨L, v, R, h1, h2, h3.tch0 ht, h4.tch0 ht, h5, h6, h7, h8.trans0 ht, fun p hp => ⟨(h9 p hp).1.tch0 ht, (h9 p hp).2⟩, blk_tch ht h10 (fun h => h), h11, h12⟩
theorem Two.block (h : Two w0 w db mb room rb M N Hs) {wx : World} (ht : Tch No w wx) (hb : wx.heap[w.heap.size]? = some o) : TwoB w0 wx db mb room rb M N Hs w.heap.size o := by
  obtain ⟨L, v, R, h1, h2, h3, h4, h5, h6, h7, h8, h9⟩ := h
  exact ⟨L, v, R, h1, h2, h3.tch0 ht, h4.tch0 ht, h5, h6, h7, h8.trans0 ht, fun p hp => ⟨(h9 p hp).1.tch0 ht, (h9 p hp).2⟩, hb, fun hd => by have := DiskF.lt h3 _ hd; omega, fun hd => by have := RefF.lt h4 _ hd; omega⟩
theorem two_fileB {L : List FL} {v : Value} {R : List RE} (h2 : R.map (·.f) = N) (h4 : IsRef w rb room v R) (h5 : ∀ k, DiskF db mb L k → w0.heap.size ≤ k) (h6 : ∀ k, RefF rb v R k → w0.heap.size ≤ k) (h7 : ∀ k, DiskF db mb L k → ¬ RefF rb v R k) (h8 : Tch No w0 w)
    (h9 : ∀ p ∈ Hs, SlB w p.1 p.2 ∧ ∀ k, p.1.ownBlock = some k → ¬ DiskF db mb L k ∧ ¬ RefF rb v R k) (h10 : w.heap[B]? = some o) (h11 : ¬ DiskF db mb L B) (h12 : ¬ RefF rb v R B) {res : Value} {M' : List FE} {e : Ending} {w' : World} (hp : DiskPost w db mb room L res M' e w') : e = .returned res ∧ TwoB w0 w' db mb room rb M' N Hs B o := by
  obtain ⟨rfl, L', q1, q2, q3, q4⟩ := hp
  refine ⟨rfl, L', v, R, q1, h2, q2, h4.tch q3 (fun k hk hd => h7 k hd hk), fun k hk => ?_, h6, fun k hk hr => ?_, h8.fresh q3 h5, fun p hp => ⟨(h9 p hp).1.tch q3 (fun k hk => ((h9 p hp).2 k hk).1), fun k hk => ⟨fun hd => ?_, ((h9 p hp).2 k hk).2⟩⟩, blk_tch q3 h10 h11, fun hd => ?_, h12⟩
  · rcases q4 k hk with h | h
    · exact h5 k h
    · have := h8.size; omega
  · rcases q4 k hk with h | h
    · exact h7 k h hr
    · have := RefF.lt h4 k hr; omega
  · rcases q4 k hd with h | h
    · exact ((h9 p hp).2 k hk).1 h
    · have := (h9 p hp).1.blt k hk; omega
  · rcases q4 B hd with h | h
    · exact h11 h
    · have := blk_lt h10; omega
theorem two_refB {L : List FL} {v : Value} {R : List RE} (h1 : L.map (·.f) = M) (h3 : IsDisk w db mb room L) (h5 : ∀ k, DiskF db mb L k → w0.heap.size ≤ k) (h6 : ∀ k, RefF rb v R k → w0.heap.size ≤ k) (h7 : ∀ k, DiskF db mb L k → ¬ RefF rb v R k) (h8 : Tch No w0 w)
    (h9 : ∀ p ∈ Hs, SlB w p.1 p.2 ∧ ∀ k, p.1.ownBlock = some k → ¬ DiskF db mb L k ∧ ¬ RefF rb v R k) (h10 : w.heap[B]? = some o) (h11 : ¬ DiskF db mb L B) (h12 : ¬ RefF rb v R B) {res : Value} {N' : List FE} {e : Ending} {w' : World} (hp : RefPost w rb room v R res N' e w') : e = .returned res ∧ TwoB w0 w' db mb room rb M N' Hs B o := by
  obtain ⟨rfl, v', R', q1, q2, q3, q4⟩ := hp
  refine ⟨rfl, L, v', R', h1, q1, h3.tch q3 (fun k hk hd => h7 k hk hd), q2, h5, fun k hk => ?_, fun k hk hr => ?_, h8.fresh q3 h6, fun p hp => ⟨(h9 p hp).1.tch q3 (fun k hk => ((h9 p hp).2 k hk).2), fun k hk => ⟨((h9 p hp).2 k hk).1, fun hd => ?_⟩⟩, blk_tch q3 h10 h12, h11, fun hd => ?_⟩
  · rcases q4 k hk with h | h
    · exact h6 k h
    · have := h8.size; omega
  · rcases q4 k hr with h | h
    · exact h7 k hk h
    · have := DiskF.lt h3 k hk; omega
  · rcases q4 k hd with h | h
    · exact ((h9 p hp).2 k hk).2 h
    · have := (h9 p hp).1.blt k hk; omega
  · rcases q4 B hd with h | h
    · exact h12 h
    · have := blk_lt h10; omega
theorem two_fappendB (h : TwoB w0 w db mb room rb M N Hs B o) (s : ByteArray) (v : Value) (bs : List UInt8) (hp : (v, bs) ∈ Hs) (hs : s.data.toList.length ≤ lim) (hcnt : M.length ≤ 999998) (hbl : bs.length ≤ 900000000) :
    Calls Try.prog 21 #[.pointer (some ⟨db, 0, none⟩), .string s, v] w fun e w' => e = .returned (.int .i64 ((mAppend M room s.data.toList bs).1 : Nat)) ∧ TwoB w0 w' db mb room rb (mAppend M room s.data.toList bs).2 N Hs B o := by
  obtain ⟨L, v', R, rfl, h2, h3, h4, h5, h6, h7, h8, h9, h10, h11, h12⟩ := h
  exact (append_any db mb room L s v bs w h3 (h9 _ hp).1 hs (by simp at hcnt; omega) hbl (fun k hk e => ((h9 _ hp).2 k hk).1 (.inr (.inl e)))).mono fun e w' hq => two_fileB h2 h4 h5 h6 h7 h8 h9 h10 h11 h12 hq
theorem two_rappendB (h : TwoB w0 w db mb room rb M N Hs B o) (s : ByteArray) (v : Value) (bs : List UInt8) (hp : (v, bs) ∈ Hs) (hs : s.data.toList.length ≤ lim) (hcnt : N.length ≤ 999998) (hbl : bs.length ≤ 900000000) :
    Calls Try.prog 24 #[.pointer (some ⟨rb, 0, none⟩), .string s, v] w fun e w' => e = .returned (.int .i64 ((mAppend N room s.data.toList bs).1 : Nat)) ∧ TwoB w0 w' db mb room rb M (mAppend N room s.data.toList bs).2 Hs B o := by
  obtain ⟨L, v', R, h1, rfl, h3, h4, h5, h6, h7, h8, h9, h10, h11, h12⟩ := h
  exact (rappend_any rb room v' R s v bs w h4 (h9 _ hp).1 hs (by simpa using hcnt) hbl (fun k hk e => ((h9 _ hp).2 k hk).2 e)).mono fun e w' hq => two_refB h1 h3 h5 h6 h7 h8 h9 h10 h11 h12 hq
theorem two_fsyncB (h : TwoB w0 w db mb room rb M N Hs B o) (s : ByteArray) (hs : s.size ≤ maxLen) :
    Calls Try.prog 29 #[.pointer (some ⟨db, 0, none⟩), .string s] w fun e w' => e = .returned (.int .i64 (if (mGet M s.data.toList).isSome then 0 else 6)) ∧ TwoB w0 w' db mb room rb (mSync M s.data.toList) N Hs B o := by
  obtain ⟨L, v', R, rfl, h2, h3, h4, h5, h6, h7, h8, h9, h10, h11, h12⟩ := h
  exact (sync_any db mb room L s w h3 hs).mono fun e w' hq => two_fileB h2 h4 h5 h6 h7 h8 h9 h10 h11 h12 hq
theorem two_rsyncB (h : TwoB w0 w db mb room rb M N Hs B o) (s : ByteArray) (hcnt : N.length ≤ 999998) :
    Calls Try.prog 34 #[.pointer (some ⟨rb, 0, none⟩), .string s] w fun e w' => e = .returned (.int .i64 (if (mGet N s.data.toList).isSome then 0 else 6)) ∧ TwoB w0 w' db mb room rb M (mSync N s.data.toList) Hs B o := by
  obtain ⟨L, v', R, h1, rfl, h3, h4, h5, h6, h7, h8, h9, h10, h11, h12⟩ := h
  exact (rsync_any rb room v' R s w h4 (by simp at hcnt; omega)).mono fun e w' hq => two_refB h1 h3 h5 h6 h7 h8 h9 h10 h11 h12 hq
theorem two_fdeleteB (h : TwoB w0 w db mb room rb M N Hs B o) (s : ByteArray) (hs : s.size ≤ maxLen) :
    Calls Try.prog 30 #[.pointer (some ⟨db, 0, none⟩), .string s] w fun e w' => e = .returned (.int .i64 (if (mGet M s.data.toList).isSome then 0 else 6)) ∧ TwoB w0 w' db mb room rb (mDel M s.data.toList) N Hs B o := by
  obtain ⟨L, v', R, rfl, h2, h3, h4, h5, h6, h7, h8, h9, h10, h11, h12⟩ := h
  exact (delete_any db mb room L s w h3 hs).mono fun e w' hq => two_fileB h2 h4 h5 h6 h7 h8 h9 h10 h11 h12 hq
theorem two_rdeleteB (h : TwoB w0 w db mb room rb M N Hs B o) (s : ByteArray) (hcnt : N.length ≤ 999998) :
    Calls Try.prog 35 #[.pointer (some ⟨rb, 0, none⟩), .string s] w fun e w' => e = .returned (.int .i64 (if (mGet N s.data.toList).isSome then 0 else 6)) ∧ TwoB w0 w' db mb room rb M (mDel N s.data.toList) Hs B o := by
  obtain ⟨L, v', R, h1, rfl, h3, h4, h5, h6, h7, h8, h9, h10, h11, h12⟩ := h
  exact (rdelete_any rb room v' R s w h4 (by simp at hcnt; omega)).mono fun e w' hq => two_refB h1 h3 h5 h6 h7 h8 h9 h10 h11 h12 hq
theorem two_frenameB (h : TwoB w0 w db mb room rb M N Hs B o) (s t : ByteArray) (hs : s.size ≤ maxLen) (ht : t.data.toList.length ≤ lim) (hcnt : M.length ≤ 999998) :
    Calls Try.prog 25 #[.pointer (some ⟨db, 0, none⟩), .string s, .string t] w fun e w' => e = .returned (.int .i64 ((mRename M s.data.toList t.data.toList).1 : Nat)) ∧ TwoB w0 w' db mb room rb (mRename M s.data.toList t.data.toList).2 N Hs B o := by
  obtain ⟨L, v', R, rfl, h2, h3, h4, h5, h6, h7, h8, h9, h10, h11, h12⟩ := h
  exact (rename_any db mb room L s t w h3 hs ht (by simp at hcnt; omega)).mono fun e w' hq => two_fileB h2 h4 h5 h6 h7 h8 h9 h10 h11 h12 hq
theorem two_rrenameB (h : TwoB w0 w db mb room rb M N Hs B o) (s t : ByteArray) (ht : t.data.toList.length ≤ lim) (hcnt : N.length ≤ 999998) :
    Calls Try.prog 26 #[.pointer (some ⟨rb, 0, none⟩), .string s, .string t] w fun e w' => e = .returned (.int .i64 ((mRename N s.data.toList t.data.toList).1 : Nat)) ∧ TwoB w0 w' db mb room rb M (mRename N s.data.toList t.data.toList).2 Hs B o := by
  obtain ⟨L, v', R, h1, rfl, h3, h4, h5, h6, h7, h8, h9, h10, h11, h12⟩ := h
  exact (rrename_any rb room v' R s t w h4 ht (by simp at hcnt; omega)).mono fun e w' hq => two_refB h1 h3 h5 h6 h7 h8 h9 h10 h11 h12 hq
theorem two_fsyncR (h : TwoB w0 w db mb room rb M N Hs B o) (s : ByteArray) (hs : s.size ≤ maxLen) {r : Int} (hr : Hid ((if (mGet M s.data.toList).isSome then (0 : Int) else 6) = r)) :
    Calls Try.prog 29 #[.pointer (some ⟨db, 0, none⟩), .string s] w fun e w' => e = .returned (.int .i64 r) ∧ TwoB w0 w' db mb room rb (mSync M s.data.toList) N Hs B o := by
  have h1 := two_fsyncB h s hs
  rw [hr.out] at h1
  exact h1
theorem two_rsyncR (h : TwoB w0 w db mb room rb M N Hs B o) (s : ByteArray) (hcnt : N.length ≤ 999998) {r : Int} (hr : Hid ((if (mGet N s.data.toList).isSome then (0 : Int) else 6) = r)) :
    Calls Try.prog 34 #[.pointer (some ⟨rb, 0, none⟩), .string s] w fun e w' => e = .returned (.int .i64 r) ∧ TwoB w0 w' db mb room rb M (mSync N s.data.toList) Hs B o := by
  have h1 := two_rsyncB h s hcnt
  rw [hr.out] at h1
  exact h1
theorem two_fdeleteR (h : TwoB w0 w db mb room rb M N Hs B o) (s : ByteArray) (hs : s.size ≤ maxLen) {r : Int} (hr : Hid ((if (mGet M s.data.toList).isSome then (0 : Int) else 6) = r)) :
    Calls Try.prog 30 #[.pointer (some ⟨db, 0, none⟩), .string s] w fun e w' => e = .returned (.int .i64 r) ∧ TwoB w0 w' db mb room rb (mDel M s.data.toList) N Hs B o := by
  have h1 := two_fdeleteB h s hs
  rw [hr.out] at h1
  exact h1
theorem two_rdeleteR (h : TwoB w0 w db mb room rb M N Hs B o) (s : ByteArray) (hcnt : N.length ≤ 999998) {r : Int} (hr : Hid ((if (mGet N s.data.toList).isSome then (0 : Int) else 6) = r)) :
    Calls Try.prog 35 #[.pointer (some ⟨rb, 0, none⟩), .string s] w fun e w' => e = .returned (.int .i64 r) ∧ TwoB w0 w' db mb room rb M (mDel N s.data.toList) Hs B o := by
  have h1 := two_rdeleteB h s hcnt
  rw [hr.out] at h1
  exact h1
def cutS (s : ByteArray) : ByteArray := cutB s 14
theorem cutS_size (s : ByteArray) : (cutS s).size ≤ 14 := by
  unfold cutS cutB
  simp [ByteArray.size_extract]; omega
/-- The operation's own block behind the cuts. -/
def DoBlk (w wx : World) (k n : Int) (S T : ByteArray) (v : Value) (bs : List UInt8) : Prop :=
  wx.heap[w.heap.size]? = some (.cells #[.int .i64 k, .int .i64 n, .string S, .string T, v] 32 (0, 0)) ∧ Tch No w wx ∧ SlB wx v bs ∧ (∀ j, v.ownBlock = some j → w.heap.size < j)

theorem bytes_le60 (zb : List Int) (lb : Nat) : (bytesOf (zb.take (min lb 60))).length ≤ 60 := by
  simp [bytesOf]; omega
theorem DoBlk.mk {w wq : World} (k n : Int) (s t : ByteArray) (u : Value) (S T : ByteArray) {v : Value} {bs : List UInt8} (ht : Tch No (w.alloc (.cells #[.int .i64 k, .int .i64 n, .string s, .string t, u] 32)).drew wq) (hv : SlB wq v bs) (hf : ∀ j, v.ownBlock = some j → (w.alloc (.cells #[.int .i64 k, .int .i64 n, .string s, .string t, u] 32)).drew.heap.size ≤ j) :
    DoBlk w (((wq.setCell ⟨w.heap.size, 2, none⟩ (.string S)).setCell ⟨w.heap.size, 3, none⟩ (.string T)).setCell ⟨w.heap.size, 4, none⟩ v) k n S T v bs := by
  have hT : Tch No w wq := ((Tch.alloc _ _).trans0 (Tch.drew _)).trans0 ht
  have hB := blk_tch ((Tch.drew _).trans0 ht) (blk_new w (.cells #[.int .i64 k, .int .i64 n, .string s, .string t, u] 32)) (fun h => h)
  have hS : Tch (fun j => j = w.heap.size) wq (((wq.setCell ⟨w.heap.size, 2, none⟩ (.string S)).setCell ⟨w.heap.size, 3, none⟩ (.string T)).setCell ⟨w.heap.size, 4, none⟩ v) := by
    have h1 : Tch (fun j => j = w.heap.size) wq (wq.setCell ⟨w.heap.size, 2, none⟩ (.string S)) := Tch.setCell _ _ _ (fun _ => rfl)
    have h2 : Tch (fun j => j = w.heap.size) (wq.setCell ⟨w.heap.size, 2, none⟩ (.string S)) ((wq.setCell ⟨w.heap.size, 2, none⟩ (.string S)).setCell ⟨w.heap.size, 3, none⟩ (.string T)) := Tch.setCell _ _ _ (fun _ => rfl)
    have h3 : Tch (fun j => j = w.heap.size) ((wq.setCell ⟨w.heap.size, 2, none⟩ (.string S)).setCell ⟨w.heap.size, 3, none⟩ (.string T)) (((wq.setCell ⟨w.heap.size, 2, none⟩ (.string S)).setCell ⟨w.heap.size, 3, none⟩ (.string T)).setCell ⟨w.heap.size, 4, none⟩ v) := Tch.setCell _ _ _ (fun _ => rfl)
    exact (h1.trans h2 (fun _ _ h => h)).trans h3 (fun _ _ h => h)
  have hlt : ∀ j, v.ownBlock = some j → w.heap.size < j := fun j hj => by have := hf j hj; simp at this; omega
  refine ⟨?_, hT.fresh hS (fun k hk => by omega), hv.tch hS (fun k hk e => by have := hlt k hk; omega), hlt⟩
  have := blk_set (blk_set (blk_set hB 2 (.string S)) 3 (.string T)) 4 v
  simpa using this

theorem Two.start {w0 w wx : World} {db mb room rb : Nat} {M N : List FE} (h : Two w0 w db mb room rb M N []) {k n : Int} {S T : ByteArray} {v : Value} {bs : List UInt8} (hb : DoBlk w wx k n S T v bs) :
    TwoB w0 wx db mb room rb M N [(v, bs)] w.heap.size (.cells #[.int .i64 k, .int .i64 n, .string S, .string T, v] 32 (0, 0)) := by
  obtain ⟨b1, b2, b3, b4⟩ := hb
  obtain ⟨L, v', R, h1, h2, h3, h4, h5, h6, h7, h8, h9⟩ := h
  refine ⟨L, v', R, h1, h2, h3.tch0 b2, h4.tch0 b2, h5, h6, h7, h8.trans0 b2, fun p hp => ?_, b1, fun hd => by have := DiskF.lt h3 _ hd; omega, fun hd => by have := RefF.lt h4 _ hd; omega⟩
  simp only [List.mem_cons, List.mem_nil_iff, or_false] at hp
  subst hp
  exact ⟨b3, fun k hk => ⟨fun hd => by have := b4 k hk; have := DiskF.lt h3 k hd; omega, fun hd => by have := b4 k hk; have := RefF.lt h4 k hd; omega⟩⟩
/-- The model's list behind an operation. -/
def mDo (k n : Int) (s t : Key) (bs : List UInt8) (room : Nat) (M : List FE) : List FE :=
  if k = 0 then (mAppend M room s bs).2 else if k = 1 then mSync M s else if k = 2 then (mRename M s t).2 else if k = 3 then mDel M s else mFall n M
theorem lenDo (k n : Int) (s t : Key) (bs : List UInt8) (room : Nat) (M : List FE) : (mDo k n s t bs room M).length ≤ M.length + 1 := by
  unfold mDo
  have h1 := lenA M room s bs
  have h2 := lenS M s
  have h3 := lenR M s t
  have h4 := lenD M s
  have h5 := lenF M n
  split
  · exact h1
  split
  · omega
  split
  · omega
  split
  · omega
  · omega

set_option maxRecDepth 100000 in
set_option maxHeartbeats 4000000 in
theorem do_any {w0 w : World} {db mb room rb : Nat} {M : List FE} (h : Two w0 w db mb room rb M M []) (k n : Int) (s t : ByteArray) (b : Option Addr) (lb cb : Nat) (zb : List Int) (hr : IsRow .u8 w b lb cb zb) (hn1 : -9223372036854775808 ≤ n) (hn2 : n ≤ 9223372036854775807) (hs : s.size ≤ maxLen) (ht : t.size ≤ maxLen) (hcnt : M.length ≤ 999990) :
    Calls Try.prog 17 #[.pointer (some ⟨db, 0, none⟩), .pointer (some ⟨rb, 0, none⟩), .agg #[.int .i64 k, .int .i64 n, .string s, .string t, .slice b lb cb]] w
      fun e w' => ∃ db' mb' rb' M', e = .returned (.tuple #[.pointer (some ⟨db', 0, none⟩), .pointer (some ⟨rb', 0, none⟩), .bool true]) ∧ Two w0 w' db' mb' room rb' M' M' [] ∧ M'.length ≤ M.length + 1 := by
  have H := Lib.hid h
  have HR := Lib.hid hr
  have HN := Lib.hid (And.intro hn1 hn2)
  have HC := Lib.hid hcnt
  clear h hr hn1 hn2 hcnt
  go_enter Try.func17, Try.ntmps17
  go_wp2_with fail
  go_cut [5] from 11 to 85 (fun s5 wx => s5 = .pointer (some ⟨w.heap.size, 0, none⟩) ∧ ∃ v bs, Hid (DoBlk w wx k n (cutS s) (cutS t) v bs) ∧ bs.length ≤ 60)
  case first =>
    clear H HC
    go_region_with (first
      | (go_at_call 23; go_loud (refine (cut_any _ 14 _ (by omega) (by first | exact hs | exact ht)).mono ?_; rintro e w' ⟨rfl, rfl⟩))
      | (go_at_call 27; go_loud (refine (short_row b lb cb zb 60 _ (HR.out.tch0 ((Tch.alloc _ _).trans0 (Tch.drew _))) (by omega)).mono ?_; rintro e wq ⟨v, rfl, hv, hfr, hvt⟩; obtain ⟨va, vm, vc, rfl, hvm⟩ := hv.shape'; have hB := blk_tch ((Tch.drew _).trans0 hvt) (blk_new w _) (fun h => h); have q2 := blk_cell hB 2; have q3 := blk_cell hB 3; have q4 := blk_cell hB 4; simp only [List.getElem?_toArray, List.getElem?_cons_zero, List.getElem?_cons_succ] at q2 q3 q4; have f2 := blk_free hB 2; have f3 := blk_free hB 3; have f4 := blk_free hB 4; clear hB)))
    all_goals (try go_wp2_with fail)
    all_goals go_meet
    all_goals exact ⟨rfl, _, _, DoBlk.mk k n s t _ (cutS s) (cutS t) hvt hv hfr, bytes_le60 zb lb⟩
  case rest =>
    obtain ⟨rfl, v, bs, HB, hbl⟩ := hcut
    obtain ⟨va, vm, vc, rfl, hvm⟩ := HB.out.2.2.1.shape'
    have H2 := Lib.hid (H.out.start HB.out)
    have u0 := blk_cell HB.out.1 0
    have u1 := blk_cell HB.out.1 1
    have u2 := blk_cell HB.out.1 2
    have u3 := blk_cell HB.out.1 3
    have u4 := blk_cell HB.out.1 4
    simp only [List.getElem?_toArray, List.getElem?_cons_zero, List.getElem?_cons_succ] at u0 u1 u2 u3 u4
    have hx := cutS_size s
    have hy := cutS_size t
    obtain ⟨s1, hs1⟩ : ∃ s1, cutS s = s1 := ⟨_, rfl⟩
    obtain ⟨t1, ht1⟩ : ∃ t1, cutS t = t1 := ⟨_, rfl⟩
    simp only [hs1, ht1] at hx hy u2 u3 H2
    have hxl : Hid (s1.data.toList.length ≤ lim) := by rw [Hid, show s1.data.toList.length = s1.size from (Array.length_toList (xs := s1.data))]; unfold lim; omega
    have hyl : Hid (t1.data.toList.length ≤ lim) := by rw [Hid, show t1.data.toList.length = t1.size from (Array.length_toList (xs := t1.data))]; unfold lim; omega
    have hxm : Hid (s1.size ≤ maxLen) := by rw [Hid]; unfold maxLen; omega
    have hC := HC.out
    have hS1 := Lib.hid hs1
    have hT1 := Lib.hid ht1
    have HT := Lib.hid (Tch.trans0 HB.out.2.1 (Tch.refl _ _))
    have H5 := Lib.hid (H.out.keep HB.out.2.1)
    clear HB HR hs ht hs1 ht1 hx hy hvm
    by_cases k0 : k = 0
    · subst k0
      go_wp2_with fail
      go_region_held3 (fun W => W.cell? ⟨w.heap.size, 2, none⟩ = some (.string s1) ∧ W.cell? ⟨w.heap.size, 4, none⟩ = some (.slice va vm vc)) (first | go_keep)
        (first | (go_at_call 21; with_reducible refine (two_fappendB (H2.out.keep (Tch.drew _)) s1 (.slice va vm vc) bs (List.mem_cons_self) hxl.out (by omega) (by omega)).mono ?_; rintro e w1 ⟨rfl, h1⟩; have q2 := blk_cell h1.blk 2; have q3 := blk_cell h1.blk 3; have q4 := blk_cell h1.blk 4; simp only [List.getElem?_toArray, List.getElem?_cons_zero, List.getElem?_cons_succ] at q2 q3 q4; have H3 := Lib.hid h1; clear h1) | (go_at_call 24; with_reducible refine (two_rappendB H3.out s1 (.slice va vm vc) bs (List.mem_cons_self) hxl.out (by omega) (by omega)).mono ?_; rintro e w5 ⟨rfl, h5⟩; have z2 := blk_cell h5.blk 2; have z3 := blk_cell h5.blk 3; have z4 := blk_cell h5.blk 4; simp only [List.getElem?_toArray, List.getElem?_cons_zero, List.getElem?_cons_succ] at z2 z3 z4; have H4 := Lib.hid h5; clear h5))
      go_wp2_with fail
      go_ret3
      exact ⟨db, mb, rb, _, rfl, H4.out.two.drop, lenA _ _ _ _⟩
    by_cases k1 : k = 1
    · subst k1
      go_wp2_with fail
      obtain ⟨r, hr⟩ : ∃ r, Hid ((if (mGet M s1.data.toList).isSome then (0 : Int) else 6) = r) := ⟨_, rfl⟩
      go_region_held3 (fun W => W.cell? ⟨w.heap.size, 2, none⟩ = some (.string s1)) (first | go_keep)
        (first | (go_at_call 29; with_reducible refine (two_fsyncR (H2.out.keep (Tch.drew _)) s1 hxm.out hr).mono ?_; rintro e w1 ⟨rfl, h1⟩; have q2 := blk_cell h1.blk 2; have q3 := blk_cell h1.blk 3; have q4 := blk_cell h1.blk 4; simp only [List.getElem?_toArray, List.getElem?_cons_zero, List.getElem?_cons_succ] at q2 q3 q4; have H3 := Lib.hid h1; clear h1) | (go_at_call 34; with_reducible refine (two_rsyncR H3.out s1 (by omega) hr).mono ?_; rintro e w5 ⟨rfl, h5⟩; have z2 := blk_cell h5.blk 2; have z3 := blk_cell h5.blk 3; have z4 := blk_cell h5.blk 4; simp only [List.getElem?_toArray, List.getElem?_cons_zero, List.getElem?_cons_succ] at z2 z3 z4; have H4 := Lib.hid h5; clear h5))
      go_wp2_with fail
      go_ret3
      exact ⟨db, mb, rb, _, rfl, H4.out.two.drop, Nat.le_trans (Nat.le_of_eq (lenS _ _)) (Nat.le_succ _)⟩
    by_cases k2 : k = 2
    · subst k2
      go_wp2_with fail
      go_region_held3 (fun W => W.cell? ⟨w.heap.size, 2, none⟩ = some (.string s1) ∧ W.cell? ⟨w.heap.size, 3, none⟩ = some (.string t1)) (first | go_keep)
        (first | (go_at_call 25; with_reducible refine (two_frenameB (H2.out.keep (Tch.drew _)) s1 t1 hxm.out hyl.out (by omega)).mono ?_; rintro e w1 ⟨rfl, h1⟩; have q2 := blk_cell h1.blk 2; have q3 := blk_cell h1.blk 3; have q4 := blk_cell h1.blk 4; simp only [List.getElem?_toArray, List.getElem?_cons_zero, List.getElem?_cons_succ] at q2 q3 q4; have H3 := Lib.hid h1; clear h1) | (go_at_call 26; with_reducible refine (two_rrenameB H3.out s1 t1 hyl.out (by omega)).mono ?_; rintro e w5 ⟨rfl, h5⟩; have z2 := blk_cell h5.blk 2; have z3 := blk_cell h5.blk 3; have z4 := blk_cell h5.blk 4; simp only [List.getElem?_toArray, List.getElem?_cons_zero, List.getElem?_cons_succ] at z2 z3 z4; have H4 := Lib.hid h5; clear h5))
      go_wp2_with fail
      go_ret3
      exact ⟨db, mb, rb, _, rfl, H4.out.two.drop, Nat.le_trans (lenR _ _ _) (Nat.le_succ _)⟩
    by_cases k3 : k = 3
    · subst k3
      go_wp2_with fail
      obtain ⟨r, hr⟩ : ∃ r, Hid ((if (mGet M s1.data.toList).isSome then (0 : Int) else 6) = r) := ⟨_, rfl⟩
      go_region_held3 (fun W => W.cell? ⟨w.heap.size, 2, none⟩ = some (.string s1)) (first | go_keep)
        (first | (go_at_call 30; with_reducible refine (two_fdeleteR (H2.out.keep (Tch.drew _)) s1 hxm.out hr).mono ?_; rintro e w1 ⟨rfl, h1⟩; have q2 := blk_cell h1.blk 2; have q3 := blk_cell h1.blk 3; have q4 := blk_cell h1.blk 4; simp only [List.getElem?_toArray, List.getElem?_cons_zero, List.getElem?_cons_succ] at q2 q3 q4; have H3 := Lib.hid h1; clear h1) | (go_at_call 35; with_reducible refine (two_rdeleteR H3.out s1 (by omega) hr).mono ?_; rintro e w5 ⟨rfl, h5⟩; have z2 := blk_cell h5.blk 2; have z3 := blk_cell h5.blk 3; have z4 := blk_cell h5.blk 4; simp only [List.getElem?_toArray, List.getElem?_cons_zero, List.getElem?_cons_succ] at z2 z3 z4; have H4 := Lib.hid h5; clear h5))
      go_wp2_with fail
      go_ret3
      exact ⟨db, mb, rb, _, rfl, H4.out.two.drop, Nat.le_trans (lenD _ _) (Nat.le_succ _)⟩
    go_wp2_with fail
    go_region_held3 (fun W => W.cell? ⟨w.heap.size, 1, none⟩ = some (.int .i64 n)) (first | go_keep)
      (first | (go_at_call 19; with_reducible refine (two_ffall (H5.out.keep (Tch.drew _)) n HN.out.1 HN.out.2 (by omega)).mono ?_; rintro e w1 ⟨db', mb', rfl, h1, t1⟩; have q1 := ((Tch.drew _).trans0 t1).cell u1 (fun h => h); have H3 := Lib.hid h1; clear h1) | (go_at_call 20; with_reducible refine (two_rfall H3.out n HN.out.1 HN.out.2 (by omega)).mono ?_; rintro e w5 ⟨rb', rfl, h5, t5⟩; have q5 := t5.cell q1 (fun h => h); have H4 := Lib.hid h5; clear h5))
    go_wp2_with fail
    go_ret3
    exact ⟨db', mb', rb', _, rfl, H4.out, Nat.le_trans (lenF _ _) (Nat.le_succ _)⟩
end Go.Proofs.Ytbhemlddncmmfaa
