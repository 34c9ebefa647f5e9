/- A disk, and a log over it, in memory, and the blocks that are kept beside them. No condition. -/
import Derived.Test.YtcjlgdldhcbcjaaRead
import Derived.Test.YtcjlgdldhcbcjaaSegM
namespace Go.Proofs.Ytcjlgdldhcbcjaa
open Go.RowKit Go.Maps
set_option linter.unusedVariables false
set_option linter.unusedSimpArgs false

/-- The blocks of K stay as they are. -/
def KT (K : Nat → Prop) (w w' : World) : Prop := Tch (fun k => ¬ K k) w w'
variable {K K' : Nat → Prop} {w w' w2 : World}
theorem KT.refl (K : Nat → Prop) (w : World) : KT K w w := Tch.refl _ _
theorem KT.trans (h : KT K w w') (h2 : KT K w' w2) : KT K w w2 := Tch.trans h h2 (fun _ _ h => h)
theorem KT.of {F : Nat → Prop} (h : Tch F w w') (hF : ∀ k, F k → ¬ K k) : KT K w w' := h.mono (fun k _ hk => hF k hk)
theorem KT.of0 (h : Tch No w w') : KT K w w' := h.no
theorem KT.mono (h : KT K w w') (hK : ∀ k, k < w.heap.size → K' k → K k) : KT K' w w' := Tch.mono h (fun k hk hn hK' => hn (hK k hk hK'))
theorem KT.no (h : KT K w w') (hK : ∀ k, k < w.heap.size → K k) : Tch No w w' := Tch.mono h (fun k hk hn => hn (hK k hk))
theorem KT.blk (h : KT K w w') {b : Nat} {o : Obj} (hb : w.heap[b]? = some o) (hK : K b) : w'.heap[b]? = some o := blk_tch h hb (fun h => h hK)
theorem KT.cell (h : KT K w w') {p : Addr} {v : Value} (hc : w.cell? p = some v) (hK : K p.block) : w'.cell? p = some v := Tch.cell h hc (fun h => h hK)
theorem KT.slb (h : KT K w w') {v : Value} {bs : List UInt8} (hv : SlB w v bs) (hK : ∀ k, v.ownBlock = some k → K k) : SlB w' v bs := hv.tch h (fun k hk hn => hn (hK k hk))
theorem KT.own (h : KT K w w') {base : Nat} {e : TypeId} {size : Nat} {v : Value} {n : Nat} {xs : List Value} (hv : w.ownsRow base e size v n xs) (hK : ∀ k, v.ownBlock = some k → K k) : w'.ownsRow base e size v n xs := own_tch hv h (fun k hk hn => hn (hK k hk))
theorem KT.size (h : KT K w w') : w.heap.size ≤ w'.heap.size := Tch.size h

/-- A disk that holds the files M, beside the blocks of K. -/
def DK (w : World) (db mb room : Nat) (M : List FE) (K : Nat → Prop) : Prop :=
  ∃ L, L.map (·.f) = M ∧ IsDisk w db mb room L ∧ ∀ k, K k → k < w.heap.size ∧ ¬ DiskF db mb L k
variable {db mb room : Nat} {M : List FE}
theorem DK.gen {F : Nat → Prop} (h : DK w db mb room M K) (t : Tch F w w') (hF : ∀ k, F k → k < w.heap.size → K k) (hK : ∀ k, K' k → K k ∨ (w.heap.size ≤ k ∧ k < w'.heap.size)) : DK w' db mb room M K' := by
  obtain ⟨L, h1, h2, h3⟩ := h
  refine ⟨L, h1, h2.tch t (fun k hk hf => (h3 k (hF k hf (DiskF.lt h2 k hk))).2 hk), fun k hk => ?_⟩
  have hs := t.size
  rcases hK k hk with q | ⟨q1, q2⟩
  · exact ⟨Nat.lt_of_lt_of_le (h3 k q).1 hs, (h3 k q).2⟩
  · exact ⟨q2, fun hd => by have := DiskF.lt h2 k hd; omega⟩
theorem DK.more (h : DK w db mb room M K) (t : Tch No w w') (hK : ∀ k, K' k → K k ∨ (w.heap.size ≤ k ∧ k < w'.heap.size)) : DK w' db mb room M K' := h.gen t (fun _ h _ => h.elim) hK
theorem DK.keep (h : DK w db mb room M K) (t : Tch No w w') : DK w' db mb room M K := h.more t (fun k hk => .inl hk)
theorem DK.less (h : DK w db mb room M K) (hK : ∀ k, K' k → K k) : DK w db mb room M K' := h.more (Tch.refl _ _) (fun k hk => .inl (hK k hk))
/-- A write beside the disk. -/
theorem DK.beside {F : Nat → Prop} (h : DK w db mb room M K) (t : Tch F w w') (hF : ∀ k, F k → K k) : DK w' db mb room M K := h.gen t (fun k hk _ => hF k hk) (fun k hk => .inl hk)
theorem DK.lt (h : DK w db mb room M K) : ∀ k, K k → k < w.heap.size := by
  obtain ⟨L, h1, h2, h3⟩ := h; exact fun k hk => (h3 k hk).1
theorem DK.mbn (h : DK w db mb room M K) : ¬ K mb := by
  obtain ⟨L, h1, h2, h3⟩ := h; exact fun hk => (h3 mb hk).2 (.inr (.inl rfl))
theorem DK.nodup (h : DK w db mb room M K) : (names M).Nodup := by
  obtain ⟨L, rfl, h2, _⟩ := h
  obtain ⟨nn, D, _, hM⟩ := h2.map
  unfold names; rw [List.map_map]; exact hM.nodup
theorem DK.sure (h : DK w db mb room M K) : ∀ f ∈ M, f.sure ≤ f.b.length := by
  obtain ⟨L, rfl, h2, _⟩ := h
  intro f hf
  obtain ⟨x, hx, rfl⟩ := List.mem_map.1 hf
  exact h2.le x hx
theorem DK.sz (h : DK w db mb room M K) : mUsed M ≤ 1048576 ∧ room ≤ 1048576 := by
  obtain ⟨L, rfl, h2, _⟩ := h; exact h2.sz
theorem DK.post {L : List FL} (h2 : IsDisk w db mb room L) (h3 : ∀ k, K k → k < w.heap.size ∧ ¬ DiskF db mb L k) {res : Value} {M' : List FE} {e : Ending} (hp : DiskPost w db mb room L res M' e w') : e = .returned res ∧ DK w' db mb room M' K ∧ KT K w w' := by
  obtain ⟨rfl, L', q1, q2, q3, q4⟩ := hp
  refine ⟨rfl, ⟨L', q1, q2, fun k hk => ⟨Nat.lt_of_lt_of_le (h3 k hk).1 q3.size, fun hd => ?_⟩⟩, KT.of q3 (fun k hd hk => (h3 k hk).2 hd)⟩
  rcases q4 k hd with q | q
  · exact (h3 k hk).2 q
  · have := (h3 k hk).1; omega
theorem dk_new (n : Int) (w : World) (hK : ∀ k, K k → k < w.heap.size) : Calls Try.prog 23 #[.int .i64 n] w fun e w' => ∃ db mb, e = .returned (.pointer (some ⟨db, 0, none⟩)) ∧ DK w' db mb (roomOf n) [] K ∧ Tch No w w' := by
  refine (new_any n w).mono ?_
  rintro e w' ⟨db, mb, rfl, h1, h2, h3, h4⟩
  refine ⟨db, mb, rfl, ⟨[], rfl, h1, fun k hk => ⟨Nat.lt_of_lt_of_le (hK k hk) h4.size, ?_⟩⟩, h4⟩
  have := hK k hk
  rintro (rfl | rfl | ⟨x, hx, _⟩)
  · omega
  · omega
  · simp at hx
theorem dk_append (h : DK w db mb room M K) (s : ByteArray) (v : Value) (bs : List UInt8) (hv : SlB w v bs) (hvm : ∀ k, v.ownBlock = some k → K k) (hs : s.data.toList.length ≤ lim) (hcnt : M.length ≤ 999999) (hbl : bs.length ≤ 900000000) :
    Calls Try.prog 29 #[.pointer (some ⟨db, 0, none⟩), .string s, v] w fun e w' => e = .returned (.int .i64 ((mAppend M room s.data.toList bs).1 : Nat)) ∧ DK w' db mb room (mAppend M room s.data.toList bs).2 K ∧ KT K w w' := by
  have hmb := h.mbn
  obtain ⟨L, rfl, h2, h3⟩ := h
  refine (append_any db mb room L s v bs w h2 hv hs (by simpa using hcnt) hbl (fun k hk e => hmb (e ▸ hvm k hk))).mono ?_
  exact fun e w' hp => DK.post h2 h3 hp
theorem dk_sync (h : DK w db mb room M K) (s : ByteArray) (hs : s.size ≤ maxLen) :
    Calls Try.prog 53 #[.pointer (some ⟨db, 0, none⟩), .string s] w fun e w' => e = .returned (.int .i64 (if (mGet M s.data.toList).isSome then 0 else 6)) ∧ DK w' db mb room (mSync M s.data.toList) K ∧ KT K w w' := by
  obtain ⟨L, rfl, h2, h3⟩ := h
  exact (sync_any db mb room L s w h2 hs).mono fun e w' hp => DK.post h2 h3 hp
theorem dk_delete (h : DK w db mb room M K) (s : ByteArray) (hs : s.size ≤ maxLen) :
    Calls Try.prog 47 #[.pointer (some ⟨db, 0, none⟩), .string s] w fun e w' => e = .returned (.int .i64 (if (mGet M s.data.toList).isSome then 0 else 6)) ∧ DK w' db mb room (mDel M s.data.toList) K ∧ KT K w w' := by
  obtain ⟨L, rfl, h2, h3⟩ := h
  exact (delete_any db mb room L s w h2 hs).mono fun e w' hp => DK.post h2 h3 hp
theorem dk_rename (h : DK w db mb room M K) (s t : ByteArray) (hs : s.size ≤ maxLen) (ht : t.data.toList.length ≤ lim) (hcnt : M.length ≤ 999999) :
    Calls Try.prog 61 #[.pointer (some ⟨db, 0, none⟩), .string s, .string t] w fun e w' => e = .returned (.int .i64 ((mRename M s.data.toList t.data.toList).1 : Nat)) ∧ DK w' db mb room (mRename M s.data.toList t.data.toList).2 K ∧ KT K w w' := by
  obtain ⟨L, rfl, h2, h3⟩ := h
  exact (rename_any db mb room L s t w h2 hs ht (by simp at hcnt; omega)).mono fun e w' hp => DK.post h2 h3 hp
theorem dk_read (h : DK w db mb room M K) (s : ByteArray) (hs : s.size ≤ maxLen) :
    Calls Try.prog 26 #[.pointer (some ⟨db, 0, none⟩), .string s] w fun e w' => ∃ v, e = .returned (.tuple #[v, .bool (mGet M s.data.toList).isSome]) ∧ SlB w' v ((mGet M s.data.toList).elim [] (·.b)) ∧ (∀ k, v.ownBlock = some k → w.heap.size ≤ k) ∧ Tch No w w' ∧ w'.ownsRow 0 5 1 v ((mGet M s.data.toList).elim [] (·.b)).length (u8s ((mGet M s.data.toList).elim [] (·.b))) := by
  obtain ⟨L, rfl, h2, h3⟩ := h
  exact dread_own db mb room L s w h2 hs
theorem dk_sure (h : DK w db mb room M K) (s : ByteArray) (hs : s.size ≤ maxLen) :
    Calls Try.prog 27 #[.pointer (some ⟨db, 0, none⟩), .string s] w fun e w' => e = .returned (.int .i64 (mSure M s.data.toList : Nat)) ∧ w = w' := by
  obtain ⟨L, rfl, h2, h3⟩ := h
  exact sure_any db mb room L s w h2 hs
theorem dk_used (h : DK w db mb room M K) (hcnt : M.length ≤ 999999) :
    Calls Try.prog 35 #[.pointer (some ⟨db, 0, none⟩)] w fun e w' => e = .returned (.int .i64 (mUsed M : Nat)) ∧ Tch No w w' := by
  obtain ⟨L, rfl, h2, h3⟩ := h
  exact used_any db mb room L w h2 (by simp at hcnt; omega)
theorem dk_fall (h : DK w db mb room M K) (n : Int) (hn1 : -9223372036854775808 ≤ n) (hn2 : n ≤ 9223372036854775807) (hcnt : M.length ≤ 999999) :
    Calls Try.prog 33 #[.pointer (some ⟨db, 0, none⟩), .int .i64 n] w fun e w' => ∃ db' mb', e = .returned (.pointer (some ⟨db', 0, none⟩)) ∧ DK w' db' mb' room (mFall n M) (fun k => k < w.heap.size) ∧ Tch No w w' := by
  obtain ⟨L, rfl, h2, h3⟩ := h
  refine (fall_any db mb room L n w h2 (by simpa using hcnt) hn1 hn2).mono ?_
  rintro e w' ⟨db', mb', L', rfl, q1, q2, q3, q4⟩
  exact ⟨db', mb', rfl, ⟨L', q1, q2, fun k hk => ⟨Nat.lt_of_lt_of_le hk q4.size, fun hd => by have := q3 k hd; omega⟩⟩, q4⟩

/-- A text of a log, and the slice that holds it. -/
structure BE where
  b : List UInt8
  v : Value
/-- A row of slices of bytes. -/
structure IsRows (w : World) (v : Value) (R : List BE) : Prop where
  row : w.ownsRow 0 22 1 v R.length (R.map (·.v))
  bts : ∀ x ∈ R, SlB w x.v x.b
  ne : ∀ x ∈ R, ∀ k, x.v.ownBlock = some k → v.ownBlock ≠ some k
def RowsF (v : Value) (R : List BE) : Nat → Prop := fun k => v.ownBlock = some k ∨ ∃ x ∈ R, x.v.ownBlock = some k
theorem IsRows.tch {F : Nat → Prop} {v : Value} {R : List BE} (h : IsRows w v R) (t : Tch F w w') (hF : ∀ k, RowsF v R k → ¬ F k) : IsRows w' v R :=
  ⟨own_tch h.row t (fun k hk => hF k (.inl hk)), fun x hx => (h.bts x hx).tch t (fun k hk => hF k (.inr ⟨x, hx, hk⟩)), h.ne⟩
theorem IsRows.tch0 {v : Value} {R : List BE} (h : IsRows w v R) (t : Tch No w w') : IsRows w' v R := h.tch t (fun _ _ h => h)
theorem RowsF.lt {v : Value} {R : List BE} (h : IsRows w v R) : ∀ k, RowsF v R k → k < w.heap.size := by
  rintro k (hk | ⟨x, hx, hk⟩)
  · exact (h.row.lt k hk).2
  · exact (h.bts x hx).blt k hk
theorem IsRows.nil (w : World) : IsRows w (.slice none 0 0) [] := ⟨World.ownsRow_nil _ _ _ _, fun x hx => by simp at hx, fun x hx => by simp at hx⟩
/-- The row, as the walk reads it. -/
theorem IsRows.at_ {v : Value} {R : List BE} (h : IsRows w v R) {i : Nat} (hi : i < R.length) : ∃ g cap, v = .slice (some ⟨g, 0, none⟩) R.length cap ∧ w.cell? ⟨g, i, none⟩ = some R[i].v := by
  have hr := h.row
  rcases hr.2 with ⟨_, h0⟩ | ⟨g, cap, cur, hv, _⟩
  · omega
  · subst hv
    refine ⟨g, cap, rfl, ?_⟩
    have := hr.cellAt i (by omega)
    simpa [List.getElem?_eq_getElem, hi] using this
/-- An element more. -/
structure AppR (w : World) (v : Value) (n : Nat) (ys : List Value) (v' : Value) (w' : World) : Prop where
  own : w'.ownsRow 0 22 1 v' n ys
  grow : w.grownBy w' v.ownBlock
  loc : v'.ownBlock = v.ownBlock ∨ v'.ownBlock = some w.heap.size
theorem infoR : (Try.prog.info? 22).map (fun i => (i.zero, i.size, i.bytes)) = some (some (.slice none 0 0), 1, 24) := by kernel_rfl
theorem run_appR (w : World) (ty : TypeId) (v : Value) (n : Nat) (xs : List Value) (hown : w.ownsRow 0 22 1 v n xs) (ad : Addr) (c : Nat) (x : Value) (hx : w.cell? ad = some x) (hone : x.oneCell' = true) (hlen : n + 1 ≤ 2000000000) :
    ∃ v' w', (Builtin.append_ #[46, 46] ty #[v, .slice (some ad) 1 c]).run Try.prog w = .ok v' w' ∧ AppR w v (n + 1) (xs ++ [x]) v' w' := by
  obtain ⟨i0, hi0, hz0, hz1, hz2⟩ := info_parts infoR
  obtain ⟨v', w', hr, q1, q2, q3, q4⟩ := run_append_own_at (P := Try.prog) w 0 46 ty 22 i0 _ 1 24 Try.underlying46 hi0 hz0 hz1 hz2 (by rfl) (by omega) v n xs hown ad 1 c [x] rfl (fun j y hy => by
    match j with
    | 0 => simp at hy; subst hy; have : ad.add 0 = ad := by simp [Addr.add]
           rw [this]; exact hx
    | k + 1 => simp at hy) (fun y hy => by simp at hy; subst hy; exact hone) (by simp only [maxLen]; omega) (by omega) (Nat.zero_le _)
  exact ⟨v', w', hr, q1, q2, q4⟩
theorem wpList_appR {ops : Array Oper} {rest : List Oper} {o : Oper} {a : Act} {w : World} {Q : Exit → Act → World → Prop} (hgd : o.guard = none) (sl x : Operand)
    (ho : o.op = .call { callee := .builtin .append, args := #[sl, x], argTypes := #[46, 46] })
    (v : Value) (n : Nat) (xs : List Value) (hs : a.eval sl = v) (hown : w.ownsRow 0 22 1 v n xs) (ad : Addr) (c : Nat) (y : Value) (hx : a.eval x = .slice (some ad) 1 c) (hy : w.cell? ad = some y) (hone : y.oneCell' = true) (hlen : n + 1 ≤ 2000000000)
    (h : ∀ a' n' cap' w', AppR w v (n + 1) (xs ++ [y]) (.slice a' n' cap') w' → wpList Try.prog ops Q rest (a.put o.dst (.slice a' n' cap')) w') : wpList Try.prog ops Q (o :: rest) a w := by
  refine wpList_plain hgd fun K hK => ?_
  obtain ⟨v', w', hr, hA⟩ := run_appR w o.type v n xs hown ad c y hy hone hlen
  obtain ⟨a', cap', rfl, _, _⟩ := own_shape hA.own
  unfold Oper.wp execOp
  simp only [ho, resolve, invoke, builtin, Sem.run_bind, Sem.run_pure, Result.andThen_ok, List.map_toArray, List.map_cons, List.map_nil, hs, hx, hr]
  exact hK _ _ (h _ _ _ _ hA)
theorem step_appR {ops : Array Oper} {o : Oper} {a : Act} {w : World} {K : Act → World → Prop} {Q : Exit → Act → World → Prop} {E : Prop} (hgd : o.guard = none) (sl x : Operand)
    (ho : o.op = .call { callee := .builtin .append, args := #[sl, x], argTypes := #[46, 46] })
    (v : Value) (n : Nat) (xs : List Value) (hs : a.eval sl = v) (hown : w.ownsRow 0 22 1 v n xs) (ad : Addr) (c : Nat) (y : Value) (hx : a.eval x = .slice (some ad) 1 c) (hy : w.cell? ad = some y) (hone : y.oneCell' = true) (hlen : n + 1 ≤ 2000000000)
    (h : ∀ a' n' cap' w', AppR w v (n + 1) (xs ++ [y]) (.slice a' n' cap') w' → K (a.put o.dst (.slice a' n' cap')) w') :
    if Region.wanted o (yielded ops a.tmps) = true then Oper.wp Try.prog o a w K Q else E := by
  have hw : Region.wanted o (yielded ops a.tmps) = true := by simp [Region.wanted, hgd]
  rw [if_pos hw]
  obtain ⟨v', w', hr, hA⟩ := run_appR w o.type v n xs hown ad c y hy hone hlen
  obtain ⟨a', cap', rfl, _, _⟩ := own_shape hA.own
  unfold Oper.wp execOp
  simp only [ho, resolve, invoke, builtin, Sem.run_bind, Sem.run_pure, Result.andThen_ok, List.map_toArray, List.map_cons, List.map_nil, hs, hx, hr]
  exact h _ _ _ _ hA
/-- .. as rows. -/
theorem IsRows.app {v v1 : Value} {R : List BE} (h : IsRows w v R) {w1 : World} {x : BE} (hA : AppR w v (R.length + 1) (R.map (·.v) ++ [x.v]) v1 w1) (hx : SlB w x.v x.b) (hxn : ∀ k, x.v.ownBlock = some k → v.ownBlock ≠ some k) :
    IsRows w1 v1 (R ++ [x]) ∧ Tch (fun k => v.ownBlock = some k) w w1 ∧ (∀ k, RowsF v1 (R ++ [x]) k → RowsF v R k ∨ x.v.ownBlock = some k ∨ w.heap.size ≤ k) := by
  have t : Tch (fun k => v.ownBlock = some k) w w1 := Tch.grown hA.grow (fun k hk _ => hk)
  have hloc : ∀ k, v1.ownBlock = some k → v.ownBlock = some k ∨ k = w.heap.size := by
    intro k hk
    rcases hA.loc with e | e
    · exact .inl (by rw [← e]; exact hk)
    · rw [e] at hk; simp at hk; exact .inr hk.symm
  have hmem : ∀ y, y ∈ R ++ [x] → y ∈ R ∨ y = x := fun y hy => by simpa using hy
  refine ⟨⟨by have := hA.own; simpa using this, fun y hy => ?_, fun y hy k hk => ?_⟩, t, fun k hk => ?_⟩
  · rcases hmem y hy with hy | rfl
    · exact (h.bts y hy).tch t (fun k hk => h.ne y hy k hk)
    · exact hx.tch t (fun k hk => hxn k hk)
  · intro e
    rcases hloc k e with q | q
    · rcases hmem y hy with hy | rfl
      · exact h.ne y hy k hk q
      · exact hxn k hk q
    · rcases hmem y hy with hy | rfl
      · have := (h.bts y hy).blt k hk; omega
      · have := hx.blt k hk; omega
  · rcases hk with hk | ⟨y, hy, hk⟩
    · rcases hloc k hk with q | q
      · exact .inl (.inl q)
      · exact .inr (.inr (by omega))
    · rcases hmem y hy with hy | rfl
      · exact .inl (.inr ⟨y, hy, hk⟩)
      · exact .inr (.inl hk)

/-- Block lb is a log over disk db. -/
structure IsLog (w : World) (lb db last : Nat) (v : Value) (R : List BE) : Prop where
  log : w.heap[lb]? = some (.cells #[.pointer (some ⟨db, 0, none⟩), .int .i64 last, v] 73 (0, 0))
  rows : IsRows w v R
  ne : ¬ RowsF v R lb
def LogF (lb : Nat) (v : Value) (R : List BE) : Nat → Prop := fun k => k = lb ∨ RowsF v R k
theorem IsLog.tch {F : Nat → Prop} {lb db last : Nat} {v : Value} {R : List BE} (h : IsLog w lb db last v R) (t : Tch F w w') (hF : ∀ k, LogF lb v R k → ¬ F k) : IsLog w' lb db last v R :=
  ⟨blk_tch t h.log (hF lb (.inl rfl)), h.rows.tch t (fun k hk => hF k (.inr hk)), h.ne⟩
theorem LogF.lt {lb db last : Nat} {v : Value} {R : List BE} (h : IsLog w lb db last v R) : ∀ k, LogF lb v R k → k < w.heap.size := by
  rintro k (rfl | hk)
  · exact blk_lt h.log
  · exact RowsF.lt h.rows k hk
theorem IsLog.cell0 {lb db last : Nat} {v : Value} {R : List BE} (h : IsLog w lb db last v R) : w.cell? ⟨lb, 0, none⟩ = some (.pointer (some ⟨db, 0, none⟩)) := by simpa using blk_cell h.log 0
theorem IsLog.cell1 {lb db last : Nat} {v : Value} {R : List BE} (h : IsLog w lb db last v R) : w.cell? ⟨lb, 1, none⟩ = some (.int .i64 last) := by simpa using blk_cell h.log 1
theorem IsLog.cell2 {lb db last : Nat} {v : Value} {R : List BE} (h : IsLog w lb db last v R) : w.cell? ⟨lb, 2, none⟩ = some v := by simpa using blk_cell h.log 2

/-- A log over a disk, beside the blocks of K. -/
def LSt (w : World) (lb db mb room : Nat) (M : List FE) (last : Nat) (A : List (List UInt8)) (K : Nat → Prop) : Prop :=
  ∃ v R, R.map (·.b) = A ∧ IsLog w lb db last v R ∧ DK w db mb room M (fun k => K k ∨ LogF lb v R k) ∧ ∀ k, K k → ¬ LogF lb v R k
variable {lb last : Nat} {A : List (List UInt8)}
theorem LSt.more (h : LSt w lb db mb room M last A K) (t : Tch No w w') (hK : ∀ k, K' k → K k ∨ (w.heap.size ≤ k ∧ k < w'.heap.size)) : LSt w' lb db mb room M last A K' := by
  obtain ⟨v, R, h1, h2, h3, h4⟩ := h
  refine ⟨v, R, h1, h2.tch t (fun _ _ h => h), h3.more t (fun k hk => ?_), fun k hk hl => ?_⟩
  · rcases hk with hk | hk
    · rcases hK k hk with q | q
      · exact .inl (.inl q)
      · exact .inr q
    · exact .inl (.inr hk)
  · rcases hK k hk with q | q
    · exact h4 k q hl
    · have := LogF.lt h2 k hl; omega
theorem LSt.keep (h : LSt w lb db mb room M last A K) (t : Tch No w w') : LSt w' lb db mb room M last A K := h.more t (fun k hk => .inl hk)
theorem LSt.less (h : LSt w lb db mb room M last A K) (hK : ∀ k, K' k → K k) : LSt w lb db mb room M last A K' := h.more (Tch.refl _ _) (fun k hk => .inl (hK k hk))
theorem LSt.beside {F : Nat → Prop} (h : LSt w lb db mb room M last A K) (t : Tch F w w') (hF : ∀ k, F k → K k) : LSt w' lb db mb room M last A K := by
  obtain ⟨v, R, h1, h2, h3, h4⟩ := h
  exact ⟨v, R, h1, h2.tch t (fun k hk hf => h4 k (hF k hf) hk), h3.beside t (fun k hk => .inl (hF k hk)), h4⟩
theorem LSt.lt (h : LSt w lb db mb room M last A K) : ∀ k, K k → k < w.heap.size := by
  obtain ⟨v, R, h1, h2, h3, h4⟩ := h; exact fun k hk => h3.lt k (.inl hk)
theorem LSt.dk (h : LSt w lb db mb room M last A K) : DK w db mb room M K := by
  obtain ⟨v, R, h1, h2, h3, h4⟩ := h; exact h3.less (fun k hk => .inl hk)
/-- The disk is turned, the log is not. -/
theorem LSt.turn {v : Value} {R : List BE} (h1 : R.map (·.b) = A) (h2 : IsLog w lb db last v R) (h4 : ∀ k, K k → ¬ LogF lb v R k) {M' : List FE} (hd : DK w' db mb room M' (fun k => K k ∨ LogF lb v R k)) (t : KT (fun k => K k ∨ LogF lb v R k) w w') : LSt w' lb db mb room M' last A K ∧ KT K w w' :=
  ⟨⟨v, R, h1, h2.tch t (fun k hk hn => hn (.inr hk)), hd, h4⟩, t.mono (fun k _ hk => .inl hk)⟩
/-- A new log. -/
theorem LSt.new (h : DK w db mb room M K) (last : Nat) : LSt (w.alloc (.cells #[.pointer (some ⟨db, 0, none⟩), .int .i64 last, .slice none 0 0] 73)) w.heap.size db mb room M last [] K := by
  have hF : ∀ k, LogF w.heap.size (.slice none 0 0) [] k → k = w.heap.size := by
    rintro k (rfl | hk | ⟨x, hx, _⟩)
    · rfl
    · simp [Value.ownBlock] at hk
    · simp at hx
  refine ⟨.slice none 0 0, [], rfl, ⟨blk_new w _, IsRows.nil _, ?_⟩, h.more (Tch.alloc _ _) (fun k hk => ?_), fun k hk hl => ?_⟩
  · rintro (hk | ⟨x, hx, _⟩)
    · simp [Value.ownBlock] at hk
    · simp at hx
  · rcases hk with hk | hk
    · exact .inl hk
    · have := hF k hk; subst this; exact .inr ⟨Nat.le_refl _, by simp⟩
  · have := hF k hl; have := h.lt k hk; omega
/-- The last segment's number is turned. -/
theorem LSt.setLast (h : LSt w lb db mb room M last A K) (n : Nat) : LSt (w.setCell ⟨lb, 1, none⟩ (.int .i64 n)) lb db mb room M n A K ∧ KT K w (w.setCell ⟨lb, 1, none⟩ (.int .i64 n)) := by
  obtain ⟨v, R, h1, h2, h3, h4⟩ := h
  have t : Tch (fun k => k = lb) w (w.setCell ⟨lb, 1, none⟩ (.int .i64 n)) := Tch.setCell _ _ _ (fun _ => rfl)
  refine ⟨⟨v, R, h1, ⟨?_, h2.rows.tch t (fun k hk e => h2.ne (by rw [← show k = lb from e]; exact hk)), h2.ne⟩, h3.beside t (fun k hk => .inr (.inl hk)), h4⟩, KT.of t (fun k e hk => h4 k hk (.inl e))⟩
  have := blk_set h2.log 1 (.int .i64 n)
  simpa using this
/-- A text more. -/
theorem LSt.add {v v1 : Value} {R : List BE} (h1 : R.map (·.b) = A) (h2 : IsLog w lb db last v R) (h3 : DK w db mb room M (fun k => K k ∨ LogF lb v R k)) (h4 : ∀ k, K k → ¬ LogF lb v R k)
    {wA w1 : World} (tA : Tch No w wA) {x : BE} (hx : SlB wA x.v x.b) (hxf : ∀ k, x.v.ownBlock = some k → w.heap.size ≤ k) (hA : AppR wA v (R.length + 1) (R.map (·.v) ++ [x.v]) v1 w1) :
    LSt (w1.setCell ⟨lb, 2, none⟩ v1) lb db mb room M last (A ++ [x.b]) K ∧ KT K w (w1.setCell ⟨lb, 2, none⟩ v1) := by
  have hlb : lb < w.heap.size := blk_lt h2.log
  have hR := h2.rows.tch0 tA
  obtain ⟨q1, q2, q3⟩ := hR.app hA hx (fun k hk e => by have := hxf k hk; have := (h2.rows.row.lt k e).2; omega)
  have t4 : Tch (fun k => k = lb) w1 (w1.setCell ⟨lb, 2, none⟩ v1) := Tch.setCell _ _ _ (fun _ => rfl)
  have hsA := tA.size
  have hne : ¬ RowsF v1 (R ++ [x]) lb := fun hk => by
    rcases q3 lb hk with q | q | q
    · exact h2.ne q
    · have := hxf lb q; omega
    · omega
  have tt : Tch (fun k => k = lb ∨ v.ownBlock = some k) w (w1.setCell ⟨lb, 2, none⟩ v1) := (tA.no.trans (q2.mono (G := fun k => k = lb ∨ v.ownBlock = some k) (fun k _ e => .inr e)) (fun k _ h => h)).trans t4 (fun k _ e => .inl e)
  have hsz := tt.size
  refine ⟨⟨v1, R ++ [x], by rw [List.map_append, h1]; rfl, ⟨?_, q1.tch t4 (fun k hk e => hne (by rw [← show k = lb from e]; exact hk)), hne⟩, ?_, fun k hk hl => ?_⟩, KT.of tt (fun k e hk => ?_)⟩
  · have hb := blk_tch q2 (blk_tch tA h2.log (fun h => h)) (fun e => h2.ne (.inl e))
    have := blk_set hb 2 v1
    simpa using this
  · refine h3.gen tt (fun k hk _ => ?_) (fun k hk => ?_)
    · rcases hk with rfl | hk
      · exact .inr (.inl rfl)
      · exact .inr (.inr (.inl hk))
    · rcases hk with hk | rfl | hk
      · exact .inl (.inl hk)
      · exact .inl (.inr (.inl rfl))
      · have hlt := RowsF.lt (q1.tch t4 (fun k hk e => hne (by rw [← show k = lb from e]; exact hk))) k hk
        rcases q3 k hk with q | q | q
        · exact .inl (.inr (.inr q))
        · exact .inr ⟨hxf k q, hlt⟩
        · exact .inr ⟨by omega, hlt⟩
  · rcases hl with rfl | hl
    · exact h4 _ hk (.inl rfl)
    · rcases q3 k hl with q | q | q
      · exact h4 k hk (.inr q)
      · have := hxf k q; have := h3.lt k (.inl hk); omega
      · have := h3.lt k (.inl hk); omega
  · rcases e with rfl | e
    · exact h4 _ hk (.inl rfl)
    · exact h4 k hk (.inr (.inl e))
end Go.Proofs.Ytcjlgdldhcbcjaa
