import Derived.Test.YtcjlgdldhcbcjaaBeg3
namespace Go.Proofs.Ytcjlgdldhcbcjaa
open Go.RowKit Go.Maps
set_option linter.unusedVariables false
set_option linter.unusedSimpArgs false

/-- What Read gives, and that the row is the caller's own. -/
def ReadOwn (M : List FE) (n : Key) (w : World) (e : Ending) (w' : World) : Prop :=
  ∃ v, e = .returned (.tuple #[v, .bool (mGet M n).isSome]) ∧ SlB w' v ((mGet M n).elim [] (·.b)) ∧ (∀ k, v.ownBlock = some k → w.heap.size ≤ k) ∧ Tch No w w' ∧ w'.ownsRow 0 5 1 v ((mGet M n).elim [] (·.b)).length (u8s ((mGet M n).elim [] (·.b)))

set_option maxRecDepth 100000 in
set_option maxHeartbeats 1000000 in
theorem dread_own (db mb room : Nat) (L : List FL) (s : ByteArray) (w : World) (h : IsDisk w db mb room L) (hs : s.size ≤ maxLen) :
    Calls Try.prog 26 #[.pointer (some ⟨db, 0, none⟩), .string s] w (ReadOwn (L.map (·.f)) s.data.toList w) := by
  have hc := Lib.hid (get_any db mb room L s w h hs)
  have hg := Lib.hid (mGet_findL L s.data.toList)
  cases hf : findL L s.data.toList with
  | none =>
    rw [hf] at hc hg
    clear h hf
    go_enter Try.func26, Try.ntmps26
    go_wp2_with (go_at_call 50; go_must (refine hc.out.mono ?_); rintro e w1 ⟨rfl, rfl⟩; unfold ptrOf)
    go_ret2
    exact ⟨_, by rw [hg.out]; rfl, by rw [hg.out]; exact SlB.nil _, fun k hk => by simp [Value.ownBlock] at hk, Tch.refl _ _, by rw [hg.out]; exact World.ownsRow_nil _ _ _ _⟩
  | some x =>
    rw [hf] at hc hg
    have hx := findL_some hf
    have c0 := h.ent0 hx.1
    have B := Lib.hid (h.bts x hx.1)
    have hbl := B.out.1
    obtain ⟨a, m, cap, hv, hm⟩ := B.out.shape'
    have HV := Lib.hid hv
    rw [hv] at c0
    have c0' := cal c0
    obtain ⟨i0, hi0, hz0, hz1, hz2⟩ := info_parts infoB
    have hb' : Hid (SlB (w.alloc (.cells #[] 5)) (.slice a m cap) x.f.b) := by rw [← hv]; exact B.out.tch0 (Tch.alloc _ _)
    clear h hf hx hv
    go_enter Try.func26, Try.ntmps26
    go_wp2_with (first
      | (go_at_call 50; go_must (refine hc.out.mono ?_); rintro e w1 ⟨rfl, rfl⟩; unfold ptrOf)
      | (at_builtin; go_must (refine wpList_app _ rfl _ _ 22 rfl 5 i0 Try.underlying22 hi0 hz0 hz1 hz2 (.slice (some ⟨w.heap.size, 0, none⟩) 0 0) [] rfl (own_empty _ _) _ x.f.b rfl hb'.out (by simpa using hbl) x.f.b (by simp [Hid]) ?_); intro a1 n1 cap1 w1 hA hn1))
    go_ret2
    have hown := hA.own
    refine ⟨.slice a1 n1 cap1, by rw [hg.out]; rfl, by rw [hg.out]; exact SlB.ofRow hA.own hbl, fun k hk => ?_, (Tch.alloc w _).fresh (Tch.grown hA.grow (F := fun k => w.heap.size = k) (fun k hk _ => by simpa [Value.ownBlock] using hk)) (fun i hi => by omega), by rw [hg.out]; exact hown⟩
    rcases hA.loc with e | e
    · rw [e] at hk; simp [Value.ownBlock] at hk; omega
    · rw [e] at hk; simp at hk; omega


variable {w0 w : World} {db mb room : Nat} {M : List FE} {Hs : List (Value × List UInt8)}
theorem dst_readO (h : DSt w0 w db mb room M Hs) (s : ByteArray) (hs : s.size ≤ maxLen) :
    Calls Try.prog 26 #[.pointer (some ⟨db, 0, none⟩), .string s] w fun e w' => ∃ v, e = .returned (.tuple #[v, .bool (mGet M s.data.toList).isSome]) ∧ DSt w0 w' db mb room M ((v, (mGet M s.data.toList).elim [] (·.b)) :: Hs) ∧ (∀ k, v.ownBlock = some k → w.heap.size ≤ k) ∧ w'.ownsRow 0 5 1 v ((mGet M s.data.toList).elim [] (·.b)).length (u8s ((mGet M s.data.toList).elim [] (·.b))) := by
  have H := h
  obtain ⟨L, rfl, h2, h3, h4, h5⟩ := h
  refine (dread_own db mb room L s w h2 hs).mono ?_
  rintro e w' ⟨v, rfl, q1, q2, q3, q4⟩
  exact ⟨v, rfl, H.hold q3 q1 q2, q2, q4⟩
theorem DSt.rebase (h : DSt w0 w db mb room M Hs) {wb : World} (t : Tch No wb w0) : DSt wb w db mb room M Hs := by
  obtain ⟨L, h1, h2, h3, h4, h5⟩ := h
  exact ⟨L, h1, h2, fun k hk => by have := h3 k hk; have := t.size; omega, t.trans0 h4, h5⟩
/-- A slice beside the disk is written. -/
theorem DSt.write {v : Value} {bs : List UInt8} (h : DSt w0 w db mb room M ((v, bs) :: Hs)) {w' : World} (ht : Tch (fun k => v.ownBlock = some k) w w') (hb : ∀ k, v.ownBlock = some k → w0.heap.size ≤ k) (hs : ∀ p ∈ Hs, ∀ k, p.1.ownBlock = some k → ¬ v.ownBlock = some k) : DSt w0 w' db mb room M Hs := by
  obtain ⟨L, h1, h2, h3, h4, h5⟩ := h
  have hd := (h5 (v, bs) (by simp)).2
  exact ⟨L, h1, h2.tch ht (fun k hk e => hd k e hk), h3, h4.fresh ht hb, fun p hp => ⟨(h5 p (by simp [hp])).1.tch ht (fun k hk => hs p hp k hk), (h5 p (by simp [hp])).2⟩⟩

/-- A row of bytes, each of whatever value: a loop writes it. -/
def OwnU (w : World) (g n cap : Nat) : Prop := ∃ xs, w.ownsRow 0 5 1 (.slice (some ⟨g, 0, none⟩) n cap) n xs ∧ ∀ x ∈ xs, ∃ z, x = .int .u8 z
theorem OwnU.get {w : World} {g n cap : Nat} (h : OwnU w g n cap) {j : Nat} (hj : j < n) : ∃ z, w.cell? ⟨g, j, none⟩ = some (.int .u8 z) ∧ w.frozen? ⟨g, j, none⟩ = false := by
  obtain ⟨xs, h1, h2⟩ := h
  have hx := h1.1
  have hc := h1.cellAt j (by omega)
  rw [List.getElem?_eq_getElem (by omega)] at hc
  obtain ⟨z, hz⟩ := h2 _ (List.getElem_mem (l := xs) (n := j) (by omega))
  rw [hz] at hc
  exact ⟨z, hc, h1.frozenAt j⟩
theorem OwnU.set {w : World} {g n cap : Nat} (h : OwnU w g n cap) (j : Nat) (z : Int) : OwnU (w.setCell ⟨g, j, none⟩ (.int .u8 z)) g n cap := by
  obtain ⟨xs, h1, h2⟩ := h
  refine ⟨_, (h1.stored j _).1, fun x hx => ?_⟩
  rcases List.mem_or_eq_of_mem_set hx with h | h
  · exact h2 x h
  · exact ⟨z, h⟩
theorem OwnU.of {w : World} {g n cap : Nat} {bs : List UInt8} (h : w.ownsRow 0 5 1 (.slice (some ⟨g, 0, none⟩) n cap) n (u8s bs)) : OwnU w g n cap :=
  ⟨_, h, fun x hx => by simp [u8s] at hx; obtain ⟨c, _, rfl⟩ := hx; exact ⟨_, rfl⟩⟩
theorem own_keep {w w' : World} {base : Nat} {e : TypeId} {size : Nat} {v : Value} {n : Nat} {xs : List Value} (h : w.ownsRow base e size v n xs) (hk : ∀ k, v.ownBlock = some k → w'.heap[k]? = w.heap[k]?) : w'.ownsRow base e size v n xs := by
  refine ⟨h.1, ?_⟩
  rcases h.2 with hn | ⟨g, cap, cur, rfl, hb, hgg, r⟩
  · exact .inl hn
  · exact .inr ⟨g, cap, cur, rfl, hb, (hk g rfl).trans hgg, r⟩
theorem OwnU.keep {w w' : World} {g n cap : Nat} (h : OwnU w g n cap) (hk : w'.heap[g]? = w.heap[g]?) : OwnU w' g n cap := by
  obtain ⟨xs, h1, h2⟩ := h
  exact ⟨xs, own_keep h1 (fun k e => by simp [Value.ownBlock] at e; subst e; exact hk), h2⟩
def OwnV (w : World) (v : Value) (n : Nat) : Prop := n = 0 ∨ ∃ g cap, v = .slice (some ⟨g, 0, none⟩) n cap ∧ OwnU w g n cap
theorem OwnV.of {w : World} {v : Value} {bs : List UInt8} (h : w.ownsRow 0 5 1 v bs.length (u8s bs)) : OwnV w v bs.length := by
  rcases h.2 with ⟨_, h0⟩ | ⟨g, cap, cur, rfl, r⟩
  · exact .inl h0
  · exact .inr ⟨g, cap, rfl, OwnU.of h⟩
theorem OwnV.keep {w w' : World} {v : Value} {n : Nat} (h : OwnV w v n) (hk : ∀ k, v.ownBlock = some k → w'.heap[k]? = w.heap[k]?) : OwnV w' v n := by
  rcases h with h | ⟨g, cap, rfl, h⟩
  · exact .inl h
  · exact .inr ⟨g, cap, rfl, h.keep (hk g rfl)⟩
theorem dst_appendK (h : DSt w0 w db mb room M Hs) (s : ByteArray) (v : Value) (bs : List UInt8) (hp : (v, bs) ∈ Hs) (hs : s.data.toList.length ≤ lim) (hcnt : M.length ≤ 999999) (hbl : bs.length ≤ 900000000) :
    Calls Try.prog 29 #[.pointer (some ⟨db, 0, none⟩), .string s, v] w fun e w' => e = .returned (.int .i64 ((mAppend M room s.data.toList bs).1 : Nat)) ∧ DSt w0 w' db mb room (mAppend M room s.data.toList bs).2 Hs ∧ ∀ p ∈ Hs, ∀ k, p.1.ownBlock = some k → w'.heap[k]? = w.heap[k]? := by
  have hv := h.held hp
  have hvm := h.hvm hp
  have H := h
  obtain ⟨L, rfl, h2, h3, h4, h5⟩ := h
  refine (append_any db mb room L s v bs w h2 hv hs (by simpa using hcnt) hbl hvm).mono ?_
  intro e w' hp'
  obtain ⟨r1, r2⟩ := H.post rfl h2 h3 h4 h5 hp'
  obtain ⟨_, L', _, _, q3, _⟩ := hp'
  exact ⟨r1, r2, fun p hp k hk => q3.block k ((h5 p hp).1.blt k hk) ((h5 p hp).2 k hk)⟩
end Go.Proofs.Ytcjlgdldhcbcjaa
