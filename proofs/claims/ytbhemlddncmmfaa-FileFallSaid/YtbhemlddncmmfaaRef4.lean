/- The reference's disk: Delete, Sync, Rename, Append. No condition. -/
import Derived.Test.YtbhemlddncmmfaaRef3
namespace Go.Proofs.Ytbhemlddncmmfaa
open Go.RowKit Go.Maps
set_option linter.unusedVariables false
set_option linter.unusedSimpArgs false

theorem RefPost.drew {w w' : World} {rb room : Nat} {v : Value} {L : List RE} {res : Value} {M : List FE} {e : Ending} (h : RefPost w rb room v L res M e w') : RefPost w rb room v L res M e w'.drew := by
  obtain ⟨rfl, v', L', h1, h2, h3, h4⟩ := h
  exact ⟨rfl, v', L', h1, h2.tch0 (Tch.drew _), h3.trans0 (Tch.drew _), h4⟩
theorem rcells_set : ∀ (L : List RE) (i : Nat) (hi : i < L.length) (x' : RE) (j : Nat) (c : Value), j < 4 → (rcs L[i]).set j c = rcs x' → (rcells L).set (i * 4 + j) c = rcells (L.set i x')
  | [], i, hi, _, _, _, _, _ => by simp at hi
  | x :: r, 0, _, x', j, c, hj, h => by
    unfold rcells
    rw [List.flatMap_cons, Nat.zero_mul, Nat.zero_add, List.set_append_left _ _ (by simpa [rcs] using hj), List.set_cons_zero, List.flatMap_cons]
    rw [show (rcs x).set j c = rcs x' from h]
  | x :: r, i + 1, hi, x', j, c, hj, h => by
    have := rcells_set r i (by simpa using hi) x' j c hj (by simpa using h)
    unfold rcells at this ⊢
    rw [List.flatMap_cons, List.set_append_right _ _ (by simp [rcs]; omega), List.set_cons_succ, List.flatMap_cons, ← this]
    congr 2
    simp [rcs]; omega

theorem used_set : ∀ (M : List FE) (i : Nat) (hi : i < M.length) (y : FE), mUsed (M.set i y) + M[i].b.length = mUsed M + y.b.length
  | [], i, hi, _ => by simp at hi
  | x :: r, 0, _, y => by simp [mUsed]; omega
  | x :: r, i + 1, hi, y => by
    have := used_set r i (by simpa using hi) y
    simp only [List.set_cons_succ, List.getElem_cons_succ, mUsed, List.map_cons, List.sum_cons] at this ⊢
    omega
theorem map_at {M : List FE} (hn : (names M).Nodup) (g : FE → FE) {i : Nat} (hi : i < M.length) : M.map (fun x => if x.name = M[i].name then g x else x) = M.set i (g M[i]) := by
  induction M generalizing i with
  | nil => simp at hi
  | cons x r ih =>
    simp only [names, List.map_cons, List.nodup_cons] at hn
    cases i with
    | zero =>
      simp only [List.getElem_cons_zero, List.map_cons, if_true, List.set_cons_zero]
      congr 1
      refine (List.map_congr_left (g := id) fun y hy => ?_).trans (List.map_id _)
      rw [if_neg (fun e => hn.1 (by rw [← e]; exact List.mem_map_of_mem (f := fun x : FE => x.name) hy))]; rfl
    | succ j =>
      have hj : j < r.length := by simpa using hi
      simp only [List.getElem_cons_succ, List.map_cons, List.set_cons_succ]
      rw [ih hn.2 hj, if_neg (fun e : x.name = r[j].name => hn.1 (by rw [e]; exact List.mem_map_of_mem (f := fun x : FE => x.name) (List.getElem_mem hj)))]
theorem at_split : ∀ (M : List FE) (n : Key), (∃ i, ∃ hi : i < M.length, atI M n = (i : Int) ∧ M[i].name = n ∧ mGet M n = some M[i]) ∨ (atI M n = -1 ∧ mGet M n = none)
  | [], n => .inr ⟨by simp [atI], by simp [mGet]⟩
  | x :: r, n => by
    by_cases hx : x.name = n
    · refine .inl ⟨0, by simp, ?_, hx, ?_⟩
      · simp [atI, List.findIdx?_cons, hx]
      · simp [mGet, hx]
    · have hb : (x.name == n) = false := by simpa using hx
      rcases at_split r n with ⟨i, hi, h1, h2, h3⟩ | ⟨h1, h2⟩
      · refine .inl ⟨i + 1, by simpa using hi, ?_, by simpa using h2, ?_⟩
        · unfold atI at h1 ⊢
          rw [List.findIdx?_cons, hb]
          cases hf : r.findIdx? (fun x => x.name == n) with
          | none => rw [hf] at h1; simp at h1
          | some j => rw [hf] at h1; simp at h1 ⊢; exact h1
        · unfold mGet at h3 ⊢
          rw [List.find?_cons, hb, h3]; rfl
      · refine .inr ⟨?_, ?_⟩
        · unfold atI at h1 ⊢
          rw [List.findIdx?_cons, hb]
          cases hf : r.findIdx? (fun x => x.name == n) with
          | none => rfl
          | some j => rw [hf] at h1; simp at h1
        · unfold mGet at h2 ⊢
          rw [List.find?_cons, hb, h2]
theorem nd_map {L : List RE} (h : (L.map (·.f.name)).Nodup) : (names (L.map (·.f))).Nodup := by
  unfold names; rw [List.map_map]; exact h

/-- One cell of an entry is written. -/
theorem IsRef.setR {w : World} {rb room g m cap : Nat} {L : List RE} (h : IsRef w rb room (.slice (some ⟨g, 0, none⟩) m cap) L) {i : Nat} (hi : i < L.length) (x' : RE) {j : Nat} {c : Value} (hj : j < 4) (hc : (rcs L[i]).set j c = rcs x') (hx : SlB w x'.v x'.f.b)
    (hxf : ∀ k, x'.v.ownBlock = some k → k ≠ rb ∧ k ≠ g) (hle : x'.f.sure ≤ x'.f.b.length) (hus : mUsed (L.map (·.f)) + x'.f.b.length ≤ 1048576 + L[i].f.b.length) (hnd : ((L.set i x').map (·.f.name)).Nodup) (hnl : x'.f.name.length ≤ lim) :
    IsRef (w.setCell ⟨g, i * 4 + j, none⟩ c) rb room (.slice (some ⟨g, 0, none⟩) m cap) (L.set i x') := by
  have t : Tch (fun k => k = g) w (w.setCell ⟨g, i * 4 + j, none⟩ c) := Tch.setCell _ _ _ (fun _ => rfl)
  have hgr : rb ≠ g := fun e => h.vne (by rw [e]; rfl)
  have hmL : m = L.length := by
    rcases h.row.2 with ⟨h', _⟩ | ⟨g', cap', cur, h', _⟩
    · simp at h'
    · simp only [Value.slice.injEq] at h'; exact h'.2.1
  subst hmL
  have hmem : ∀ x ∈ L.set i x', x ∈ L ∨ x = x' := fun x hx => List.mem_or_eq_of_mem_set hx
  refine ⟨blk_tch t h.disk (fun e => hgr e), ?_, fun x hx => ?_, h.vne, fun x hx => ?_, fun x hx => ?_, ⟨?_, h.sz.2⟩, hnd, fun x hx => ?_⟩
  · have := (h.row.stored (i * 4 + j) c).1
    rw [rcells_set L i hi x' j c hj hc] at this
    rw [List.length_set]; exact this
  · rcases hmem x hx with hx | rfl
    · exact (h.bts x hx).tch t (fun k hk e => (h.bne x hx).2 k hk (by rw [e]; rfl))
    · exact SlB.tch (F := fun k => k = g) ‹_› t (fun k hk e => (hxf k hk).2 e)
  · rcases hmem x hx with hx | rfl
    · exact h.bne x hx
    · exact ⟨fun e => (hxf _ e).1 rfl, fun k hk e => (hxf k hk).2 (by simpa [Value.ownBlock] using e.symm)⟩
  · rcases hmem x hx with hx | rfl
    · exact h.le x hx
    · exact hle
  · have := used_set (L.map (·.f)) i (by simpa using hi) x'.f
    rw [← List.map_set (f := fun x : RE => x.f)] at this
    simp only [List.getElem_map] at this
    omega
  · rcases hmem x hx with hx | rfl
    · exact h.nlen x hx
    · exact hnl
theorem nodup_set {α : Type} {l : List α} {i : Nat} {a : α} (h : l.Nodup) (ha : a ∉ l) : (l.set i a).Nodup := by
  induction l generalizing i with
  | nil => simp
  | cons x r ih =>
    simp only [List.nodup_cons, List.mem_cons, not_or] at h ha
    cases i with
    | zero => simp only [List.set_cons_zero, List.nodup_cons]; exact ⟨ha.2, h.2⟩
    | succ j =>
      simp only [List.set_cons_succ, List.nodup_cons]
      refine ⟨fun q => ?_, ih h.2 ha.2⟩
      rcases List.mem_or_eq_of_mem_set q with q | q
      · exact h.1 q
      · exact ha.1 q.symm
theorem names_set {L : List RE} {i : Nat} (hi : i < L.length) (x' : RE) (hn : x'.f.name = L[i].f.name) : (L.set i x').map (·.f.name) = L.map (·.f.name) := by
  rw [List.map_set, hn]
  apply List.ext_getElem (by simp)
  intro j h1 h2
  rw [List.getElem_set]
  split
  · next e => subst e; simp
  · rfl
theorem set_f (L : List RE) (i : Nat) (x' : RE) : (L.set i x').map (·.f) = (L.map (·.f)).set i x'.f := List.map_set

set_option maxRecDepth 100000 in
set_option maxHeartbeats 1000000 in
theorem rdelete_any (rb room : Nat) (v : Value) (L : List RE) (s : ByteArray) (w : World) (h : IsRef w rb room v L) (hcnt : L.length ≤ 999999) :
    Calls Try.prog 35 #[.pointer (some ⟨rb, 0, none⟩), .string s] w (RefPost w rb room v L (.int .i64 (if (mGet (L.map (·.f)) s.data.toList).isSome then 0 else 6)) (mDel (L.map (·.f)) s.data.toList)) := by
  have hat := Lib.hid (at_any rb room v L s w h (by omega))
  rcases at_split (L.map (·.f)) s.data.toList with ⟨i, hi, h1, h2, h3⟩ | ⟨h1, h2⟩
  · have hiL : i < L.length := by simpa using hi
    rw [h1] at hat
    have hg := Lib.hid (gone_any rb room v L i w h hiL hcnt)
    have hr : Hid (mDel (L.map (·.f)) s.data.toList = (L.map (·.f)).eraseIdx i) := by rw [Hid, erase_del (nd_map h.nodup) hi, h2]
    rw [hr.out, h3]
    simp only [Option.isSome_some, if_true]
    clear h h1 h2 h3 hr hi hiL
    go_enter Try.func35, Try.ntmps35
    go_wp2_with (first
      | (go_at_call 37; go_must (refine hat.out.mono ?_); rintro e w1 ⟨rfl, rfl⟩)
      | (go_at_call 43; go_must (refine hg.out.mono ?_); rintro e w1 ⟨rfl, hp⟩; have HP := Lib.hid hp; clear hp))
    go_ret
    exact ⟨rfl, HP.out⟩
  · rw [h1] at hat
    have hr : Hid (mDel (L.map (·.f)) s.data.toList = L.map (·.f)) := by
      rw [Hid, mDel, List.filter_eq_self]
      intro y hy
      have hne := mGet_none h2
      have : y.name ≠ s.data.toList := fun e => hne (by rw [← e]; exact List.mem_map_of_mem (f := fun x : FE => x.name) hy)
      simpa using this
    rw [hr.out, h2]
    simp only [Option.isSome_none, Bool.false_eq_true, if_false]
    have H := Lib.hid h
    clear h h1 h2 hr
    go_enter Try.func35, Try.ntmps35
    go_wp2_with (go_at_call 37; go_must (refine hat.out.mono ?_); rintro e w1 ⟨rfl, rfl⟩)
    go_ret
    exact RefPost.same H.out

theorem ref_set {w w' : World} {rb room g m cap : Nat} {L : List RE} {i : Nat} (hi : i < L.length) {x' : RE} {res : Value} {M : List FE} (h' : IsRef w' rb room (.slice (some ⟨g, 0, none⟩) m cap) (L.set i x')) (hM : (L.set i x').map (·.f) = M) (ht : Tch (fun k => k = g) w w') (hxf : ∀ k, x'.v.ownBlock = some k → L[i].v.ownBlock = some k ∨ w.heap.size ≤ k) :
    RefPost w rb room (.slice (some ⟨g, 0, none⟩) m cap) L res M (.returned res) w' := by
  refine ⟨rfl, _, _, hM, h', ht.mono (fun k _ e => .inr (.inl (by rw [e]; rfl))), ?_⟩
  rintro k (rfl | hk | ⟨x, hx, hk⟩)
  · exact .inl (.inl rfl)
  · exact .inl (.inr (.inl hk))
  · rcases List.mem_or_eq_of_mem_set hx with hx | rfl
    · exact .inl (.inr (.inr ⟨x, hx, hk⟩))
    · rcases hxf k hk with q | q
      · exact .inl (.inr (.inr ⟨_, List.getElem_mem hi, q⟩))
      · exact .inr q

theorem sync_close {w : World} {rb room g m cap : Nat} {L : List RE} (h : IsRef w rb room (.slice (some ⟨g, 0, none⟩) m cap) L) {i : Nat} (hi : i < L.length) {n : Key} (hn : L[i].f.name = n) (mm : Nat) (hmm : mm = L[i].f.b.length) :
    RefPost w rb room (.slice (some ⟨g, 0, none⟩) m cap) L (.int .i64 0) (mSync (L.map (·.f)) n) (.returned (.int .i64 0)) ((w.setCell ⟨g, i * 4 + 2, none⟩ (.int .i64 (mm : Int))).setCell ⟨g, i * 4 + 3, none⟩ (.bool true)) := by
  subst hmm
  have hxf : ∀ k, L[i].v.ownBlock = some k → k ≠ rb ∧ k ≠ g := fun k hk => ⟨fun e => (h.bne _ (List.getElem_mem hi)).1 (by rw [hk, e]), fun e => (h.bne _ (List.getElem_mem hi)).2 k hk (by rw [e]; rfl)⟩
  have hb := h.bts _ (List.getElem_mem hi)
  have hnl := h.nlen _ (List.getElem_mem hi)
  have h1 := h.setR hi ⟨⟨L[i].f.name, L[i].f.b, L[i].f.b.length, L[i].f.named⟩, L[i].v⟩ (j := 2) (c := .int .i64 (L[i].f.b.length : Int)) (by omega) rfl hb hxf (Nat.le_refl _) (by have := h.sz.1; simp only; omega) (by rw [names_set hi ⟨⟨L[i].f.name, L[i].f.b, L[i].f.b.length, L[i].f.named⟩, L[i].v⟩ rfl]; exact h.nodup) hnl
  have t : Tch (fun k => k = g) w (w.setCell ⟨g, i * 4 + 2, none⟩ (.int .i64 (L[i].f.b.length : Int))) := Tch.setCell _ _ _ (fun _ => rfl)
  have e1 : (L.set i ⟨⟨L[i].f.name, L[i].f.b, L[i].f.b.length, L[i].f.named⟩, L[i].v⟩)[i]'(by simpa using hi) = ⟨⟨L[i].f.name, L[i].f.b, L[i].f.b.length, L[i].f.named⟩, L[i].v⟩ := by simp
  have h2 := h1.setR (i := i) (by simpa using hi) ⟨⟨L[i].f.name, L[i].f.b, L[i].f.b.length, true⟩, L[i].v⟩ (j := 3) (c := .bool true) (by omega) (by rw [e1]; rfl) (hb.tch t (fun k hk e => (hxf k hk).2 e)) hxf (Nat.le_refl _) (by rw [e1]; have := h1.sz.1; simp only; omega) (by rw [names_set (by simpa using hi) _ (by rw [e1])]; exact h1.nodup) hnl
  rw [List.set_set] at h2
  refine ref_set hi h2 ?_ (t.trans (Tch.setCell (F := fun k => k = g) _ _ _ (fun _ => rfl)) (fun _ _ e => e)) (fun k hk => .inl hk)
  rw [set_f]
  have := map_at (nd_map h.nodup) (fun x => { x with sure := x.b.length, named := true }) (i := i) (by simpa using hi)
  simp only [List.getElem_map, hn] at this
  rw [mSync, this, hn]

set_option maxRecDepth 100000 in
set_option maxHeartbeats 1000000 in
theorem rsync_any (rb room : Nat) (v : Value) (L : List RE) (s : ByteArray) (w : World) (h : IsRef w rb room v L) (hcnt : L.length ≤ 999999) :
    Calls Try.prog 34 #[.pointer (some ⟨rb, 0, none⟩), .string s] w (RefPost w rb room v L (.int .i64 (if (mGet (L.map (·.f)) s.data.toList).isSome then 0 else 6)) (mSync (L.map (·.f)) s.data.toList)) := by
  have hat := Lib.hid (at_any rb room v L s w h (by omega))
  rcases at_split (L.map (·.f)) s.data.toList with ⟨i, hi, h1, h2, h3⟩ | ⟨h1, h2⟩
  · have hiL : i < L.length := by simpa using hi
    rw [h1] at hat
    rw [h3]
    simp only [Option.isSome_some, if_true]
    have c1 := h.cell1
    obtain ⟨g, cap, hv, _, k1, k2, k3⟩ := h.at_ hiL
    subst hv
    obtain ⟨a0, m0, cap0, hv0, hm0⟩ := (h.bts _ (List.getElem_mem hiL)).shape'
    rw [hv0] at k1
    have f2 := h.row.frozenAt (i * 4 + 2)
    have f3 := h.row.frozenAt (i * 4 + 3)
    have HC := Lib.hid (sync_close h hiL (n := s.data.toList) (by simpa using h2) m0 hm0.out)
    obtain ⟨m, hm⟩ : ∃ m, Hid (L.length = m) := ⟨_, rfl⟩
    rw [hm.out] at c1 HC hiL hcnt ⊢
    obtain ⟨sv, hsv⟩ : ∃ sv : Int, (L[i].f.sure : Int) = sv := ⟨_, rfl⟩
    obtain ⟨nv, hnv⟩ : ∃ nv : Bool, L[i].f.named = nv := ⟨_, rfl⟩
    rw [hsv] at k2
    rw [hnv] at k3
    have hi1 : (i : Int) < (m : Int) := by omega
    have hi0 : (0 : Int) ≤ (i : Int) := by omega
    clear h h1 h2 h3 hi hv0 hm0 hm hsv hnv
    go_enter Try.func34, Try.ntmps34
    go_wp2_with (go_at_call 37; go_must (refine hat.out.mono ?_); rintro e w1 ⟨rfl, rfl⟩)
    go_region
    all_goals
      go_wp2_with fail
      go_ret
      exact HC.out.drew
  · rw [h1] at hat
    have hr : Hid (mSync (L.map (·.f)) s.data.toList = L.map (·.f)) := by
      rw [Hid, mSync]
      refine (List.map_congr_left (g := id) fun y hy => ?_).trans (List.map_id _)
      have hne := mGet_none h2
      rw [if_neg (fun e => hne (by rw [← e]; exact List.mem_map_of_mem (f := fun x : FE => x.name) hy))]; rfl
    rw [hr.out, h2]
    simp only [Option.isSome_none, Bool.false_eq_true, if_false]
    have H := Lib.hid h
    clear h h1 h2 hr
    go_enter Try.func34, Try.ntmps34
    go_wp2_with (go_at_call 37; go_must (refine hat.out.mono ?_); rintro e w1 ⟨rfl, rfl⟩)
    go_ret
    exact RefPost.same H.out

/-- A file is called otherwise. -/
theorem ren_close {w : World} {rb room g m cap : Nat} {L : List RE} (h : IsRef w rb room (.slice (some ⟨g, 0, none⟩) m cap) L) {i : Nat} (hi : i < L.length) (t : ByteArray) (hnew : ∀ x ∈ L, x.f.name ≠ t.data.toList) (htl : t.data.toList.length ≤ lim) :
    RefPost w rb room (.slice (some ⟨g, 0, none⟩) m cap) L (.int .i64 0) ((L.map (·.f)).map fun x => if x.name = L[i].f.name then { x with name := t.data.toList, named := true } else x) (.returned (.int .i64 0)) ((w.setCell ⟨g, i * 4, none⟩ (.string t)).setCell ⟨g, i * 4 + 3, none⟩ (.bool true)) := by
  have hxf : ∀ k, L[i].v.ownBlock = some k → k ≠ rb ∧ k ≠ g := fun k hk => ⟨fun e => (h.bne _ (List.getElem_mem hi)).1 (by rw [hk, e]), fun e => (h.bne _ (List.getElem_mem hi)).2 k hk (by rw [e]; rfl)⟩
  have hb := h.bts _ (List.getElem_mem hi)
  have hle := h.le _ (List.getElem_mem hi)
  have ets : (⟨t.data.toList.toArray⟩ : ByteArray) = t := by cases t; simp
  have hnd : ((L.set i ⟨⟨t.data.toList, L[i].f.b, L[i].f.sure, L[i].f.named⟩, L[i].v⟩).map (·.f.name)).Nodup := by
    rw [List.map_set]
    exact nodup_set h.nodup (fun q => by obtain ⟨x, hx, e⟩ := List.mem_map.1 q; exact hnew x hx e)
  have h1 := h.setR hi ⟨⟨t.data.toList, L[i].f.b, L[i].f.sure, L[i].f.named⟩, L[i].v⟩ (j := 0) (c := .string t) (by omega) (by simp only [rcs, ets]; rfl) hb hxf hle (by have := h.sz.1; simp only; omega) hnd htl
  rw [Nat.add_zero] at h1
  have tt : Tch (fun k => k = g) w (w.setCell ⟨g, i * 4, none⟩ (.string t)) := Tch.setCell _ _ _ (fun _ => rfl)
  have e1 : (L.set i ⟨⟨t.data.toList, L[i].f.b, L[i].f.sure, L[i].f.named⟩, L[i].v⟩)[i]'(by simpa using hi) = ⟨⟨t.data.toList, L[i].f.b, L[i].f.sure, L[i].f.named⟩, L[i].v⟩ := by simp
  have h2 := h1.setR (i := i) (by simpa using hi) ⟨⟨t.data.toList, L[i].f.b, L[i].f.sure, true⟩, L[i].v⟩ (j := 3) (c := .bool true) (by omega) (by rw [e1]; rfl) (hb.tch tt (fun k hk e => (hxf k hk).2 e)) hxf hle (by rw [e1]; have := h1.sz.1; simp only; omega) (by rw [names_set (by simpa using hi) _ (by rw [e1])]; exact h1.nodup) htl
  rw [List.set_set] at h2
  refine ref_set hi h2 ?_ (tt.trans (Tch.setCell (F := fun k => k = g) _ _ _ (fun _ => rfl)) (fun _ _ e => e)) (fun k hk => .inl hk)
  rw [set_f]
  have := map_at (nd_map h.nodup) (fun x => { x with name := t.data.toList, named := true }) (i := i) (by simpa using hi)
  simp only [List.getElem_map] at this
  rw [this]
theorem RefPost.trans {w w1 w2 : World} {rb room : Nat} {v v1 : Value} {L L1 : List RE} {res : Value} {M : List FE} {e : Ending} (t1 : Tch (RefF rb v L) w w1) (n1 : ∀ k, RefF rb v1 L1 k → RefF rb v L k ∨ w.heap.size ≤ k) (h2 : RefPost w1 rb room v1 L1 res M e w2) : RefPost w rb room v L res M e w2 := by
  obtain ⟨he, v2, L2, q1, q2, q3, q4⟩ := h2
  refine ⟨he, v2, L2, q1, q2, t1.trans q3 (fun i hi hf => ?_), fun k hk => ?_⟩
  · rcases n1 i hf with h | h
    · exact h
    · omega
  · rcases q4 k hk with h | h
    · exact n1 k h
    · exact .inr (Nat.le_trans t1.size h)

set_option maxRecDepth 100000 in
set_option maxHeartbeats 2000000 in
/-- The place of the name is there: it is called otherwise. -/
theorem rrename_end (rb room : Nat) (v : Value) (L : List RE) (t : ByteArray) (w : World) (h : IsRef w rb room v L) (hcnt : L.length ≤ 999999) (i : Nat) (hi : i < L.length) : True := trivial
end Go.Proofs.Ytbhemlddncmmfaa
