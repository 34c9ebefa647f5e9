/- The reference's disk: gone, Delete. No condition. -/
import Derived.Test.YtbhemlddncmmfaaRef2
namespace Go.Proofs.Ytbhemlddncmmfaa
open Go.RowKit Go.Maps
set_option linter.unusedVariables false
set_option linter.unusedSimpArgs false

/-- What a call that turns a reference's disk leaves. -/
def RefPost (w : World) (rb room : Nat) (v : Value) (L : List RE) (res : Value) (M : List FE) (e : Ending) (w' : World) : Prop :=
  e = .returned res ∧ ∃ v' L', L'.map (·.f) = M ∧ IsRef w' rb room v' L' ∧ Tch (RefF rb v L) w w' ∧ ∀ k, RefF rb v' L' k → RefF rb v L k ∨ w.heap.size ≤ k
theorem RefPost.same {w : World} {rb room : Nat} {v : Value} {L : List RE} {res : Value} (h : IsRef w rb room v L) : RefPost w rb room v L res (L.map (·.f)) (.returned res) w :=
  ⟨rfl, v, L, rfl, h, Tch.refl _ _, fun _ hk => .inl hk⟩
theorem RefPost.same' {w w' : World} {rb room : Nat} {v : Value} {L : List RE} {res : Value} (h : IsRef w rb room v L) (ht : Tch No w w') : RefPost w rb room v L res (L.map (·.f)) (.returned res) w' :=
  ⟨rfl, v, L, rfl, h.tch0 ht, ht.no, fun _ hk => .inl hk⟩

theorem rcells_take (L : List RE) (k : Nat) : rcells (L.take k) = (rcells L).take (k * 4) := by
  have h : rcells L = rcells (L.take k) ++ rcells (L.drop k) := by rw [← rcells_append, List.take_append_drop]
  rcases Nat.le_total k L.length with hk | hk
  · rw [h, List.take_left' (by rw [rcells_length, List.length_take]; omega)]
  · rw [List.take_of_length_le hk, List.take_of_length_le (by rw [rcells_length]; omega)]
theorem rcells_drop (L : List RE) (k : Nat) : rcells (L.drop k) = (rcells L).drop (k * 4) := by
  have h : rcells L = rcells (L.take k) ++ rcells (L.drop k) := by rw [← rcells_append, List.take_append_drop]
  rcases Nat.le_total k L.length with hk | hk
  · rw [h, List.drop_left' (by rw [rcells_length, List.length_take]; omega)]
  · rw [List.drop_eq_nil_of_le hk, List.drop_eq_nil_of_le (by rw [rcells_length]; omega)]; rfl
theorem rcells_one (L : List RE) (h : ∀ x ∈ L, x.v.oneCell' = true) : ∀ u ∈ rcells L, u.oneCell' = true := by
  intro u hu
  obtain ⟨x, hx, hu⟩ := List.mem_flatMap.1 hu
  simp only [rcs, List.mem_cons, List.mem_nil_iff, or_false] at hu
  rcases hu with rfl | rfl | rfl | rfl
  · rfl
  · exact h x hx
  · rfl
  · rfl
theorem SlB.one' {w : World} {v : Value} {bs : List UInt8} (h : SlB w v bs) : v.oneCell' = true := by
  obtain ⟨a, cap, rfl, _⟩ := h.shape; rfl
theorem IsRef.ones {w : World} {rb room : Nat} {v : Value} {L : List RE} (h : IsRef w rb room v L) : ∀ u ∈ rcells L, u.oneCell' = true := rcells_one L (fun x hx => (h.bts x hx).one')

theorem src_take {w : World} {rb room : Nat} {g m cap : Nat} {L : List RE} (h : IsRef w rb room (.slice (some ⟨g, 0, none⟩) m cap) L) (k : Nat) (hk : k ≤ L.length) : SrcF w (.slice (some ⟨g, 0, none⟩) k cap) k (rcells (L.take k)) := by
  refine ⟨by rw [rcells_length, List.length_take]; omega, fun u hu => h.ones u ?_, .inr ⟨_, _, rfl, fun j x hx => ?_⟩⟩
  · rw [rcells_take] at hu; exact List.mem_of_mem_take hu
  · rw [rcells_take, List.getElem?_take] at hx
    split at hx
    · exact h.row.cells (g := g) rfl j x hx
    · cases hx
theorem src_drop {w : World} {rb room : Nat} {g m cap : Nat} {L : List RE} (h : IsRef w rb room (.slice (some ⟨g, 0, none⟩) m cap) L) (k o : Nat) (hk : k ≤ L.length) (ho : k < L.length → o = k * 4) (c n : Nat) (hn : n = L.length - k) : SrcF w (.slice (some ⟨g, o, none⟩) n c) n (rcells (L.drop k)) := by
  subst hn
  refine ⟨by rw [rcells_length, List.length_drop], fun u hu => h.ones u ?_, .inr ⟨_, _, rfl, fun j x hx => ?_⟩⟩
  · rw [rcells_drop] at hu; exact List.mem_of_mem_drop hu
  · have hj := (List.getElem?_eq_some_iff.1 hx).1
    rw [rcells_length, List.length_drop] at hj
    rw [rcells_drop, List.getElem?_drop] at hx
    rw [addr_add, ho (by omega)]
    have := h.row.cells (g := g) rfl (k * 4 + j) x hx
    rwa [addr_add, Nat.zero_add] at this
theorem AppF.tchNil {w w' : World} {n : Nat} {ys : List Value} {v' : Value} (h : AppF w (.slice none 0 0) n ys v' w') : Tch No w w' := Tch.grown h.grow (fun k hk _ => by simp [Value.ownBlock] at hk)
theorem AppF.tchOwn {w w' : World} {n : Nat} {ys : List Value} {v v' : Value} (h : AppF w v n ys v' w') {B : Nat} (hv : ∀ k, v.ownBlock = some k → B ≤ k) : Tch (fun k => B ≤ k) w w' := Tch.grown h.grow (fun k hk _ => hv k hk)

theorem AppF.two {w w1 w2 : World} {n1 n2 : Nat} {xs ys : List Value} {v1 v2 : Value} (h1 : AppF w (.slice none 0 0) n1 xs v1 w1) (h2 : AppF w1 v1 n2 ys v2 w2) : Tch No w w2 ∧ ∀ k, v2.ownBlock = some k → w.heap.size ≤ k := by
  have b1 : ∀ j, v1.ownBlock = some j → w.heap.size ≤ j := by
    intro j hj
    rcases h1.loc with e | e
    · rw [e] at hj; simp [Value.ownBlock] at hj
    · rw [e] at hj; simp at hj; omega
  refine ⟨h1.tchNil.fresh (h2.tchOwn b1) (fun i hi => hi), fun j hj => ?_⟩
  have := h1.tchNil.size
  rcases h2.loc with e | e
  · rw [e] at hj; exact b1 j hj
  · rw [e] at hj; simp at hj; omega
theorem eraseIdx_sub {α : Type} (L : List α) (k : Nat) : ∀ x ∈ L.eraseIdx k, x ∈ L := fun _ hx => List.mem_of_mem_eraseIdx hx
theorem map_erase {α β : Type} (f : α → β) (L : List α) (k : Nat) : (L.eraseIdx k).map f = (L.map f).eraseIdx k := by simp only [List.eraseIdx_eq_take_drop_succ, List.map_append, List.map_take, List.map_drop]
theorem used_erase (M : List FE) (k : Nat) : mUsed (M.eraseIdx k) ≤ mUsed M := by
  rcases Nat.lt_or_ge k M.length with h | h
  · rw [List.eraseIdx_eq_take_drop_succ, mUsed_append]
    have h1 : mUsed M = mUsed (M.take k) + mUsed (M.drop k) := by rw [← mUsed_append, List.take_append_drop]
    have h2 : mUsed (M.drop k) = M[k].b.length + mUsed (M.drop (k + 1)) := by rw [List.drop_eq_getElem_cons h]; unfold mUsed; rw [List.map_cons, List.sum_cons]
    omega
  · rw [List.eraseIdx_of_length_le h]; exact Nat.le_refl _
theorem erase_del {M : List FE} (hn : (names M).Nodup) {k : Nat} (hk : k < M.length) : M.eraseIdx k = mDel M M[k].name := by
  induction M generalizing k with
  | nil => simp at hk
  | cons x r ih =>
    simp only [names, List.map_cons, List.nodup_cons] at hn
    cases k with
    | zero =>
      simp only [List.eraseIdx_zero, List.tail_cons, List.getElem_cons_zero]
      unfold mDel
      rw [List.filter_cons]
      simp only [bne_self_eq_false, Bool.false_eq_true, if_false]
      rw [List.filter_eq_self.2]
      intro y hy
      have : y.name ≠ x.name := fun e => hn.1 (by rw [← e]; exact List.mem_map_of_mem (f := fun x : FE => x.name) hy)
      simpa using this
    | succ j =>
      have hj : j < r.length := by simpa using hk
      have := ih hn.2 hj
      simp only [List.eraseIdx_cons_succ, List.getElem_cons_succ]
      unfold mDel at this ⊢
      rw [List.filter_cons, if_pos, this]
      have : x.name ≠ r[j].name := fun e => hn.1 (by rw [e]; exact List.mem_map_of_mem (f := fun x : FE => x.name) (List.getElem_mem hj))
      simpa using this

theorem gone_close {w w1 w2 : World} {rb room : Nat} {v v1 v2 : Value} {L : List RE} (h : IsRef w rb room v L) (k : Nat) (hk : k < L.length) (t1 : Tch No w w1) {n1 : Nat} {xs : List Value} (h1 : AppF w1 (.slice none 0 0) n1 xs v1 w2) {w3 : World} {n2 : Nat}
    (h2 : AppF w2 v1 n2 (rcells (L.take k) ++ rcells (L.drop (k + 1))) v2 w3) (hn : n2 = L.length - 1) :
    IsRef (w3.setCell ⟨rb, 1, none⟩ v2) rb room v2 (L.eraseIdx k) ∧ Tch (RefF rb v L) w (w3.setCell ⟨rb, 1, none⟩ v2) ∧ ∀ j, RefF rb v2 (L.eraseIdx k) j → RefF rb v L j ∨ w.heap.size ≤ j := by
  have h12 := h1.two h2
  have b2 : ∀ j, v2.ownBlock = some j → w.heap.size ≤ j := fun j hj => Nat.le_trans t1.size (h12.2 j hj)
  have t3 : Tch No w w3 := t1.trans0 h12.1
  have hrb : rb < w.heap.size := blk_lt h.disk
  have t4 : Tch (fun j => j = rb) w3 (w3.setCell ⟨rb, 1, none⟩ v2) := Tch.setCell _ _ _ (fun _ => rfl)
  have hE : rcells (L.take k) ++ rcells (L.drop (k + 1)) = rcells (L.eraseIdx k) := by rw [← rcells_append, ← List.eraseIdx_eq_take_drop_succ]
  have hlen : (L.eraseIdx k).length = n2 := by rw [List.length_eraseIdx]; split <;> omega
  have hsub := eraseIdx_sub L k
  refine ⟨⟨?_, ?_, fun x hx => ((h.bts x (hsub x hx)).tch0 t3).tch t4 (fun j hj e => (h.bne x (hsub x hx)).1 (by rw [hj, e])), fun e => ?_, fun x hx => ⟨(h.bne x (hsub x hx)).1, fun j hj e => ?_⟩, fun x hx => h.le x (hsub x hx), ⟨?_, h.sz.2⟩, ?_, fun x hx => h.nlen x (hsub x hx)⟩, ?_, ?_⟩
  · have hd := blk_tch t3 h.disk (fun h => h)
    simpa using blk_set hd 1 v2
  · rw [hlen, ← hE]
    exact own_tch h2.own t4 (fun j hj e => by have := b2 j hj; have e' : j = rb := e; omega)
  · have := b2 _ e; omega
  · have := b2 _ e; have := (h.bts x (hsub x hx)).blt j hj; omega
  · rw [map_erase]; exact Nat.le_trans (used_erase _ _) h.sz.1
  · exact ((List.eraseIdx_sublist _ _).map _).nodup h.nodup
  · exact t3.no.trans t4 (fun j _ e => .inl e)
  · rintro j (rfl | hj | ⟨x, hx, hj⟩)
    · exact .inl (.inl rfl)
    · exact .inr (b2 j hj)
    · exact .inl (.inr (.inr ⟨x, hsub x hx, hj⟩))

set_option maxRecDepth 100000 in
set_option maxHeartbeats 2000000 in
theorem gone_any (rb room : Nat) (v : Value) (L : List RE) (k : Nat) (w : World) (h : IsRef w rb room v L) (hk : k < L.length) (hcnt : L.length ≤ 999999) :
    Calls Try.prog 43 #[.pointer (some ⟨rb, 0, none⟩), .int .i64 k] w (RefPost w rb room v L (.tuple #[]) ((L.map (·.f)).eraseIdx k)) := by
  have c1 := h.cell1
  have f1 := blk_free h.disk 1
  obtain ⟨g, cap, hv, _⟩ := h.at_ hk
  subst hv
  obtain ⟨m, hm⟩ : ∃ m, Hid (L.length = m) := ⟨_, rfl⟩
  rw [hm.out] at c1 h hcnt hk ⊢
  have hmc : m ≤ cap ∧ cap ≤ maxLen := by
    obtain ⟨a', c', e, h1, h2⟩ := own_shape h.row
    injection e with e1 e2 e3
    rw [hm.out] at h1
    subst e3
    exact ⟨h1, h2⟩
  obtain ⟨hm1, hm2⟩ := hmc
  unfold maxLen at hm2
  have H := Lib.hid h
  have S1 := Lib.hid (src_take h k (by rw [hm.out]; omega))
  have E1 : IntKind.i64.wrap ((k : Int) + 1) = (k : Int) + 1 := IntWalk.i64_in _ ⟨by omega, by omega⟩
  have p1 : (0 : Int) ≤ (k : Int) := by omega
  have p2 : (k : Int) ≤ (cap : Int) := by omega
  have p3 : (0 : Int) ≤ (k : Int) + 1 := by omega
  have p4 : (k : Int) + 1 ≤ (m : Int) := by omega
  have p5 : ((k : Int) + 1).toNat = k + 1 := by omega
  have hd1 := c1
  have hfree := f1
  clear f1 c1
  by_cases hcap : cap = k + 1
  · subst hcap
    have p8 : (k : Int) ≤ (k : Int) + 1 := by omega
    have S2 := Lib.hid (fun (W : World) (hW : Tch No w W) (c : Nat) => src_drop (h.tch0 hW) (k + 1) 0 (by rw [hm.out]; omega) (fun q => by rw [hm.out] at q; omega) c 0 (by rw [hm.out]; omega))
    clear h
    go_enter Try.func43, Try.ntmps43
    go_region_law ((first
        | (refine step_appF rfl _ (.tmp 10) rfl (.slice none 0 0) 0 [] rfl (World.ownsRow_nil _ _ _ _) (.slice (some ⟨g, 0, none⟩) k (k + 1)) k (rcells (L.take k)) rfl S1.out (by omega) ?_; intro a1 n1 cp1 w1 hA1; have T1 := hA1.tchNil; have j1 := T1.cell hd1 (fun h => h))
        | (refine step_appF rfl _ (.tmp 18) rfl _ _ _ rfl hA1.own _ _ _ rfl (S2.out _ ((Tch.drew w).trans0 T1) _) (by omega) ?_; intro a2 n2 cp2 w2 hA2; have T2 := (Tch.drew w).trans0 (hA1.two hA2).1; have j2 := T2.cell hd1 (fun h => h); have j3 := blk_free (blk_tch T2 H.out.disk (fun h => h)) 1)))
    all_goals
      go_wp2_with fail
      go_end0
      exact ⟨rfl, _, _, map_erase _ _ _, gone_close H.out k (by rw [hm.out]; exact hk) (Tch.drew w) hA1 hA2 (by rw [hm.out]; omega)⟩
  · have S2 := Lib.hid (fun (W : World) (hW : Tch No w W) => src_drop (h.tch0 hW) (k + 1) ((k + 1) * 4) (by rw [hm.out]; omega) (fun _ => rfl) (cap - (k + 1)) (m - (k + 1)) (by rw [hm.out]))
    clear h
    go_enter Try.func43, Try.ntmps43
    go_region_law ((first
        | (refine step_appF rfl _ (.tmp 10) rfl (.slice none 0 0) 0 [] rfl (World.ownsRow_nil _ _ _ _) (.slice (some ⟨g, 0, none⟩) k cap) k (rcells (L.take k)) rfl S1.out (by omega) ?_; intro a1 n1 cp1 w1 hA1; have T1 := hA1.tchNil; have j1 := T1.cell hd1 (fun h => h))
        | (refine step_appF rfl _ (.tmp 18) rfl _ _ _ rfl hA1.own _ _ _ rfl (S2.out _ ((Tch.drew w).trans0 T1)) (by omega) ?_; intro a2 n2 cp2 w2 hA2; have T2 := (Tch.drew w).trans0 (hA1.two hA2).1; have j2 := T2.cell hd1 (fun h => h); have j3 := blk_free (blk_tch T2 H.out.disk (fun h => h)) 1)))
    all_goals
      go_wp2_with fail
      go_end0
      exact ⟨rfl, _, _, map_erase _ _ _, gone_close H.out k (by rw [hm.out]; exact hk) (Tch.drew w) hA1 hA2 (by rw [hm.out]; omega)⟩
end Go.Proofs.Ytbhemlddncmmfaa
