import Derived.Test.YtcjlgdldhcbcjaaFall1
namespace Go.Proofs.Ytcjlgdldhcbcjaa
open Go.RowKit Go.Maps
set_option linter.unusedVariables false
set_option linter.unusedSimpArgs false

/-- A disk and slices of bytes beside it, all in memory that is younger than w0. -/
def DSt (w0 w : World) (db mb room : Nat) (M : List FE) (Hs : List (Value × List UInt8)) : Prop :=
  ∃ L, L.map (·.f) = M ∧ IsDisk w db mb room L ∧ (∀ k, DiskF db mb L k → w0.heap.size ≤ k) ∧ Tch No w0 w ∧ ∀ p ∈ Hs, SlB w p.1 p.2 ∧ ∀ k, p.1.ownBlock = some k → ¬ DiskF db mb L k

variable {w0 w : World} {db mb room : Nat} {M : List FE} {Hs : List (Value × List UInt8)}

theorem DSt.keep (h : DSt w0 w db mb room M Hs) {w' : World} (ht : Tch No w w') : DSt w0 w' db mb room M Hs := by
  obtain ⟨L, h1, h2, h3, h4, h5⟩ := h
  exact ⟨L, h1, h2.tch0 ht, h3, h4.trans0 ht, fun p hp => ⟨(h5 p hp).1.tch0 ht, (h5 p hp).2⟩⟩
theorem DSt.hold (h : DSt w0 w db mb room M Hs) {w' : World} (ht : Tch No w w') {v : Value} {bs : List UInt8} (hv : SlB w' v bs) (hf : ∀ k, v.ownBlock = some k → w.heap.size ≤ k) : DSt w0 w' db mb room M ((v, bs) :: Hs) := by
  obtain ⟨L, h1, h2, h3, h4, h5⟩ := h
  refine ⟨L, h1, h2.tch0 ht, h3, h4.trans0 ht, fun p hp => ?_⟩
  simp only [List.mem_cons] at hp
  rcases hp with rfl | hp
  · exact ⟨hv, fun k hk hd => by have := hf k hk; have := DiskF.lt h2 k hd; omega⟩
  · exact ⟨(h5 p hp).1.tch0 ht, (h5 p hp).2⟩
theorem DSt.post (h : DSt w0 w db mb room M Hs) {L : List FL} (hL : L.map (·.f) = M) (h2 : IsDisk w db mb room L) (h3 : ∀ k, DiskF db mb L k → w0.heap.size ≤ k) (h4 : Tch No w0 w) (h5 : ∀ p ∈ Hs, SlB w p.1 p.2 ∧ ∀ k, p.1.ownBlock = some k → ¬ DiskF db mb L k)
    {res : Value} {M' : List FE} {e : Ending} {w' : World} (hp : DiskPost w db mb room L res M' e w') : e = .returned res ∧ DSt w0 w' db mb room M' Hs := by
  obtain ⟨rfl, L', q1, q2, q3, q4⟩ := hp
  refine ⟨rfl, L', q1, q2, fun k hk => ?_, h4.fresh q3 h3, fun p hp => ⟨(h5 p hp).1.tch q3 (h5 p hp).2, fun k hk hd => ?_⟩⟩
  · rcases q4 k hk with h | h
    · exact h3 k h
    · have := h4.size; omega
  · rcases q4 k hd with h | h
    · exact (h5 p hp).2 k hk h
    · have := (h5 p hp).1.blt k hk; omega
theorem DSt.weaken (h : DSt w0 w db mb room M Hs) {Hs' : List (Value × List UInt8)} (hs : ∀ p ∈ Hs', p ∈ Hs) : DSt w0 w db mb room M Hs' := by
  obtain ⟨L, h1, h2, h3, h4, h5⟩ := h
  exact ⟨L, h1, h2, h3, h4, fun p hp => h5 p (hs p hp)⟩
theorem DSt.held (h : DSt w0 w db mb room M Hs) {v : Value} {bs : List UInt8} (hp : (v, bs) ∈ Hs) : SlB w v bs := by
  obtain ⟨L, h1, h2, h3, h4, h5⟩ := h
  exact (h5 _ hp).1
theorem DSt.base (h : DSt w0 w db mb room M Hs) : Tch No w0 w := by obtain ⟨L, h1, h2, h3, h4, h5⟩ := h; exact h4
theorem DSt.nodup (h : DSt w0 w db mb room M Hs) : (names M).Nodup := by
  obtain ⟨L, rfl, h2, _⟩ := h
  obtain ⟨nn, D, _, hM⟩ := h2.map
  unfold names; rw [List.map_map]; exact hM.nodup
theorem DSt.sure (h : DSt w0 w db mb room M Hs) : ∀ f ∈ M, f.sure ≤ f.b.length := by
  obtain ⟨L, rfl, h2, _⟩ := h
  intro f hf
  obtain ⟨x, hx, rfl⟩ := List.mem_map.1 hf
  exact h2.le x hx

theorem dst_new (n : Int) (w : World) : Calls Try.prog 23 #[.int .i64 n] w fun e w' => ∃ db mb, e = .returned (.pointer (some ⟨db, 0, none⟩)) ∧ DSt w w' db mb (roomOf n) [] [] := by
  refine (new_any n w).mono ?_
  rintro e w' ⟨db, mb, rfl, h1, h2, h3, h4⟩
  refine ⟨db, mb, rfl, [], rfl, h1, ?_, h4, by simp⟩
  rintro k (rfl | rfl | ⟨x, hx, _⟩)
  · exact h2
  · exact h3
  · simp at hx

theorem dst_append (h : DSt w0 w db mb room M Hs) (s : ByteArray) (v : Value) (bs : List UInt8) (hv : SlB w v bs) (hvm : ∀ k, v.ownBlock = some k → ¬ k = mb) (hs : s.data.toList.length ≤ lim) (hcnt : M.length ≤ 999999) (hbl : bs.length ≤ 900000000) :
    Calls Try.prog 29 #[.pointer (some ⟨db, 0, none⟩), .string s, v] w fun e w' => e = .returned (.int .i64 ((mAppend M room s.data.toList bs).1 : Nat)) ∧ DSt w0 w' db mb room (mAppend M room s.data.toList bs).2 Hs := by
  have H := h
  obtain ⟨L, rfl, h2, h3, h4, h5⟩ := h
  refine (append_any db mb room L s v bs w h2 hv hs (by simpa using hcnt) hbl hvm).mono ?_
  intro e w' hp
  exact H.post rfl h2 h3 h4 h5 hp

theorem dst_sync (h : DSt w0 w db mb room M Hs) (s : ByteArray) (hs : s.size ≤ maxLen) :
    Calls Try.prog 53 #[.pointer (some ⟨db, 0, none⟩), .string s] w fun e w' => e = .returned (.int .i64 (if (mGet M s.data.toList).isSome then 0 else 6)) ∧ DSt w0 w' db mb room (mSync M s.data.toList) Hs := by
  have H := h
  obtain ⟨L, rfl, h2, h3, h4, h5⟩ := h
  refine (sync_any db mb room L s w h2 hs).mono ?_
  intro e w' hp
  exact H.post rfl h2 h3 h4 h5 hp

theorem dst_delete (h : DSt w0 w db mb room M Hs) (s : ByteArray) (hs : s.size ≤ maxLen) :
    Calls Try.prog 47 #[.pointer (some ⟨db, 0, none⟩), .string s] w fun e w' => e = .returned (.int .i64 (if (mGet M s.data.toList).isSome then 0 else 6)) ∧ DSt w0 w' db mb room (mDel M s.data.toList) Hs := by
  have H := h
  obtain ⟨L, rfl, h2, h3, h4, h5⟩ := h
  refine (delete_any db mb room L s w h2 hs).mono ?_
  intro e w' hp
  exact H.post rfl h2 h3 h4 h5 hp

theorem dst_rename (h : DSt w0 w db mb room M Hs) (s t : ByteArray) (hs : s.size ≤ maxLen) (ht : t.data.toList.length ≤ lim) (hcnt : M.length ≤ 999999) :
    Calls Try.prog 61 #[.pointer (some ⟨db, 0, none⟩), .string s, .string t] w fun e w' => e = .returned (.int .i64 ((mRename M s.data.toList t.data.toList).1 : Nat)) ∧ DSt w0 w' db mb room (mRename M s.data.toList t.data.toList).2 Hs := by
  have H := h
  obtain ⟨L, rfl, h2, h3, h4, h5⟩ := h
  refine (rename_any db mb room L s t w h2 hs ht (by simp at hcnt; omega)).mono ?_
  intro e w' hp
  exact H.post rfl h2 h3 h4 h5 hp

theorem dst_read (h : DSt w0 w db mb room M Hs) (s : ByteArray) (hs : s.size ≤ maxLen) :
    Calls Try.prog 26 #[.pointer (some ⟨db, 0, none⟩), .string s] w fun e w' => ∃ v, e = .returned (.tuple #[v, .bool (mGet M s.data.toList).isSome]) ∧ DSt w0 w' db mb room M ((v, (mGet M s.data.toList).elim [] (·.b)) :: Hs) := by
  have H := h
  obtain ⟨L, rfl, h2, h3, h4, h5⟩ := h
  refine (dread_any db mb room L s w h2 hs).mono ?_
  rintro e w' ⟨v, rfl, q1, q2, q3⟩
  exact ⟨v, rfl, H.hold q3 q1 q2⟩

theorem dst_sure (h : DSt w0 w db mb room M Hs) (s : ByteArray) (hs : s.size ≤ maxLen) :
    Calls Try.prog 27 #[.pointer (some ⟨db, 0, none⟩), .string s] w fun e w' => e = .returned (.int .i64 (mSure M s.data.toList : Nat)) ∧ w = w' := by
  obtain ⟨L, rfl, h2, h3, h4, h5⟩ := h
  exact sure_any db mb room L s w h2 hs

theorem dst_used (h : DSt w0 w db mb room M Hs) (hcnt : M.length ≤ 999999) :
    Calls Try.prog 35 #[.pointer (some ⟨db, 0, none⟩)] w fun e w' => e = .returned (.int .i64 (mUsed M : Nat)) ∧ DSt w0 w' db mb room M Hs := by
  have H := h
  obtain ⟨L, rfl, h2, h3, h4, h5⟩ := h
  refine (used_any db mb room L w h2 (by simp at hcnt; omega)).mono ?_
  rintro e w' ⟨rfl, q⟩
  exact ⟨rfl, H.keep q⟩

theorem dst_names (h : DSt w0 w db mb room M Hs) (hcnt : M.length ≤ 999999) :
    Calls Try.prog 37 #[.pointer (some ⟨db, 0, none⟩)] w fun e w' => ∃ v, e = .returned v ∧ StrRow w' w.heap.size v (sortN (names M)) ∧ DSt w0 w' db mb room M Hs := by
  have H := h
  obtain ⟨L, rfl, h2, h3, h4, h5⟩ := h
  refine (names_any db mb room L w h2 (by simp at hcnt; omega)).mono ?_
  rintro e w' ⟨v, rfl, q1, q2⟩
  exact ⟨v, rfl, q1, H.keep q2⟩

theorem dst_fall (h : DSt w0 w db mb room M Hs) (n : Int) (hn1 : -9223372036854775808 ≤ n) (hn2 : n ≤ 9223372036854775807) (hcnt : M.length ≤ 999999) :
    Calls Try.prog 33 #[.pointer (some ⟨db, 0, none⟩), .int .i64 n] w fun e w' => ∃ db2 mb2, e = .returned (.pointer (some ⟨db2, 0, none⟩)) ∧ DSt w0 w' db mb room M Hs ∧ DSt w0 w' db2 mb2 room (mFall n M) Hs := by
  have H := h
  obtain ⟨L, rfl, h2, h3, h4, h5⟩ := h
  refine (fall_any db mb room L n w h2 (by simpa using hcnt) hn1 hn2).mono ?_
  rintro e w' ⟨db2, mb2, L2, rfl, q1, q2, q3, q4⟩
  refine ⟨db2, mb2, rfl, H.keep q4, L2, q1, q2, fun k hk => by have := q3 k hk; have := h4.size; omega, h4.trans0 q4, fun p hp => ⟨(h5 p hp).1.tch0 q4, fun k hk hd => ?_⟩⟩
  have := q3 k hd
  have := (h5 p hp).1.blt k hk
  omega

/-- Another disk is read. -/
theorem dst_read2 (h : DSt w0 w db mb room M Hs) {w2 : World} {db2 mb2 room2 : Nat} {M2 : List FE} {Hs2 : List (Value × List UInt8)} (h2 : DSt w2 w db2 mb2 room2 M2 Hs2) (s : ByteArray) (hs : s.size ≤ maxLen) :
    Calls Try.prog 26 #[.pointer (some ⟨db2, 0, none⟩), .string s] w fun e w' => ∃ v, e = .returned (.tuple #[v, .bool (mGet M2 s.data.toList).isSome]) ∧ DSt w0 w' db mb room M ((v, (mGet M2 s.data.toList).elim [] (·.b)) :: Hs) ∧ Tch No w w' := by
  obtain ⟨L, rfl, q2, q3, q4, q5⟩ := h2
  refine (dread_any db2 mb2 room2 L s w q2 hs).mono ?_
  rintro e w' ⟨v, rfl, r1, r2, r3⟩
  exact ⟨v, rfl, h.hold r3 r1 r2, r3⟩

/-- 'make([]byte, n)'. -/
theorem make_bytes (w : World) (n : Nat) (hn : n ≤ 1000000) :
    ∃ w', (Instr.makeSlice 22 (.int .i64 (n : Int)) (.int .i64 (n : Int))).run Try.prog w = .ok (.slice (some ⟨w.heap.size, 0, none⟩) n n) w' ∧ SlB w' (.slice (some ⟨w.heap.size, 0, none⟩) n n) (List.replicate n 0) ∧ Tch No w w' := by
  obtain ⟨i0, hi0, hz0, hz1, hz2⟩ := info_parts infoB
  obtain ⟨w', hr, h1, h2⟩ := run_make_full (P := Try.prog) w 0 22 5 i0 (.int .u8 0) 1 Try.underlying22 hi0 hz0 hz1 .i64 .i64 n (by rw [hz2]; omega) (by simp only [maxLen]; omega) (Nat.zero_le _)
  refine ⟨w', hr, ?_, Tch.grown h2 (fun k hk _ => by cases hk)⟩
  have e : (madeCells (Value.int .u8 0).cells (n * 1)).toList = u8s (List.replicate n 0) := by
    have : (Value.int IntKind.u8 0).cells = #[.int .u8 0] := rfl
    rw [this, toList_madeCells_one, Nat.mul_one]
    simp [u8s]
  rw [e] at h1
  exact SlB.ofRow h1 (by simp [lim]; omega)

theorem IsRow.tch0 {k : IntKind} {w w' : World} {a : Option Addr} {len cap : Nat} {zs : List Int} (h : IsRow k w a len cap zs) (ht : Tch No w w') : IsRow k w' a len cap zs := by
  rcases h with h | ⟨x, h1, h2, h3, h4, h5, h6⟩
  · exact .inl h
  · exact .inr ⟨x, h1, h2, h3, h4, fun i hi => ht.cell (h5 i hi) (fun h => h), h6⟩
theorem DSt.hvm (h : DSt w0 w db mb room M Hs) {v : Value} {bs : List UInt8} (hp : (v, bs) ∈ Hs) : ∀ k, v.ownBlock = some k → ¬ k = mb := by
  obtain ⟨L, h1, h2, h3, h4, h5⟩ := h
  intro k hk e
  exact (h5 _ hp).2 k hk (.inr (.inl e))
theorem dst_newH (n : Int) (w : World) (Hs : List (Value × List UInt8)) (hh : ∀ p ∈ Hs, SlB w p.1 p.2) : Calls Try.prog 23 #[.int .i64 n] w fun e w' => ∃ db mb, e = .returned (.pointer (some ⟨db, 0, none⟩)) ∧ DSt w w' db mb (roomOf n) [] Hs := by
  refine (new_any n w).mono ?_
  rintro e w' ⟨db, mb, rfl, h1, h2, h3, h4⟩
  have hD : ∀ k, DiskF db mb [] k → w.heap.size ≤ k := by
    rintro k (rfl | rfl | ⟨x, hx, _⟩)
    · exact h2
    · exact h3
    · simp at hx
  exact ⟨db, mb, rfl, [], rfl, h1, hD, h4, fun p hp => ⟨(hh p hp).tch0 h4, fun k hk hd => by have := (hh p hp).blt k hk; have := hD k hd; omega⟩⟩
theorem dst_appendH (h : DSt w0 w db mb room M Hs) (s : ByteArray) (v : Value) (bs : List UInt8) (hp : (v, bs) ∈ Hs) (hs : s.data.toList.length ≤ lim) (hcnt : M.length ≤ 999999) (hbl : bs.length ≤ 900000000) :
    Calls Try.prog 29 #[.pointer (some ⟨db, 0, none⟩), .string s, v] w fun e w' => e = .returned (.int .i64 ((mAppend M room s.data.toList bs).1 : Nat)) ∧ DSt w0 w' db mb room (mAppend M room s.data.toList bs).2 Hs :=
  dst_append h s v bs (h.held hp) (h.hvm hp) hs hcnt hbl
theorem str_eq {a b : List UInt8} (h : a = b) : (⟨a.toArray⟩ : ByteArray) = ⟨b.toArray⟩ := by rw [h]
theorem str_app (a b : List UInt8) : (⟨a.toArray⟩ : ByteArray) ++ ⟨b.toArray⟩ = ⟨(a ++ b).toArray⟩ := by
  apply ByteArray.ext; rw [ByteArray.data_append]; simp
theorem tch_drewN (w : World) (n : Nat) : Tch No w (w.drewN n) := ⟨rfl, rfl, rfl, Nat.le_refl _, fun _ _ _ => rfl⟩
theorem add_str {P : Program} (w : World) (a b : List UInt8) (ha : a.length ≤ 8388608) (hb : b.length ≤ 8388608) : (Op.stringOp .add ⟨a.toArray⟩ ⟨b.toArray⟩).run P w = .ok (.string ⟨(a ++ b).toArray⟩) w := by
  rw [run_string_add (P := P) (w := w) ⟨a.toArray⟩ ⟨b.toArray⟩ (by simp [ByteArray.size]; omega) (by simp [ByteArray.size]; omega), str_app]
end Go.Proofs.Ytcjlgdldhcbcjaa
