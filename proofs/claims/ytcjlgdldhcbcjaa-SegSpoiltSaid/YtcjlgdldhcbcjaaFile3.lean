import Derived.Test.YtcjlgdldhcbcjaaFile2
import Derived.Test.YtcjlgdldhcbcjaaIter
namespace Go.Proofs.Ytcjlgdldhcbcjaa
open Go.RowKit Go.Maps Go.Sort Go.Shelf
set_option linter.unusedVariables false
set_option linter.unusedSimpArgs false

def sortN (l : List Key) : List Key := l.mergeSort (fun x y => decide (x ≤ y))

/-- v is a slice of the strings ks, in memory of its own. -/
def StrRow (w : World) (base : Nat) (v : Value) (ks : List Key) : Prop := w.ownsRow base 9 1 v ks.length (ks.map encStr)

def NamesPost (M : List FE) (w : World) (e : Ending) (w' : World) : Prop :=
  ∃ v, e = .returned v ∧ StrRow w' w.heap.size v (sortN (names M)) ∧ Tch No w w'

set_option maxRecDepth 100000 in
set_option maxHeartbeats 1000000 in
theorem names_nil (w : World) : Calls Try.prog 37 #[.pointer none] w fun e w' => e = .returned (.slice none 0 0) ∧ w = w' := by
  go_enter Try.func37, Try.ntmps37
  go_wp2
  go_ret
  exact ⟨rfl, rfl⟩

set_option maxRecDepth 100000 in
set_option maxHeartbeats 1000000 in
theorem names_any (db mb room : Nat) (L : List FL) (w : World) (h : IsDisk w db mb room L) (hcnt : L.length ≤ 1000000) :
    Calls Try.prog 37 #[.pointer (some ⟨db, 0, none⟩)] w (NamesPost (L.map (·.f)) w) := by
  have c1 := h.cell1
  obtain ⟨nn, D, hown, hM⟩ := h.map
  have hsz := hM.size hown
  have hmax : Maps.size D ≤ maxLen := by rw [hsz]; simp only [maxLen]; omega
  have hbytes : Hid (Maps.size D * 16 ≤ 140737488355328) := by rw [Hid, hsz]; omega
  have hp := Lib.hid (hM.keys hown)
  clear h hsz hM
  refine (callsIn_wide (n := 6)).1 ?_
  have hfK : Fence.wide.fn 55 := trivial
  have hfS : Fence.wide.fn 54 := trivial
  refine callsIn_of_wp Try.func37 rfl trivial ?_ rfl
  simp only [Try.ntmps37, List.size_toArray, List.length_cons, List.length_nil, Nat.reduceAdd, Nat.reduceSub, Array.replicate_succ, Array.replicate_zero, List.push_toArray, List.append_toArray, List.nil_append, List.cons_append]
  gi_wp2_with (first
    | (gi_at_call 55; refine (Try.maps_Keys_55 _ _).mono ?_; rintro e w' ⟨rfl, rfl⟩)
    | (gi_at_call 54; refine (Try.slices_Sorted_keys_54_55 mb nn D ptrR w hown hmax hbytes.out).mono ?_; rintro e w' ⟨v, ss, rfl, hS, hrow, hnil, hb⟩))
  go_ret
  have e1 : ss.mergeSort (fun x y => decide (x ≤ y)) = sortN (names (L.map (·.f))) := by
    unfold sortN names
    rw [List.map_map]
    exact mergeSort_of_perm (hS.trans hp.out.symm)
  refine ⟨v, rfl, ?_, (Tch.alloc w _).trans0 (Tch.ofBelow hb)⟩
  unfold StrRow
  rw [← e1, List.length_mergeSort]
  exact ownsRow_base_a hrow (by simp)

def lenOf (M : List FE) (n : Key) : Nat := match mGet M n with
  | some x => x.b.length
  | none => 0
theorem mGet_mem {M : List FE} (hn : (names M).Nodup) {x : FE} (hx : x ∈ M) : mGet M x.name = some x := by
  induction M with
  | nil => cases hx
  | cons y r ih =>
    simp only [names, List.map_cons, List.nodup_cons] at hn
    unfold mGet
    rw [List.find?_cons]
    simp only [List.mem_cons] at hx
    rcases hx with rfl | hx
    · simp
    · have : (y.name == x.name) = false := by
        have := fun e : y.name = x.name => hn.1 (e ▸ List.mem_map_of_mem (f := fun x : FE => x.name) hx)
        simpa using this
      rw [this]
      exact ih hn.2 hx
theorem mGet_some {M : List FE} {n : Key} {x : FE} (h : mGet M n = some x) : x ∈ M ∧ x.name = n :=
  ⟨List.mem_of_find?_eq_some h, by have := List.find?_some h; simpa using this⟩
theorem mGet_none {M : List FE} {n : Key} (h : mGet M n = none) : n ∉ names M := by
  intro hn
  obtain ⟨x, hx, rfl⟩ := List.mem_map.1 hn
  have := List.find?_eq_none.1 h x hx
  simp at this
theorem sortN_perm (l : List Key) : (sortN l).Perm l := List.mergeSort_perm _ _
theorem used_sum {M : List FE} (hn : (names M).Nodup) : ((sortN (names M)).map (lenOf M)).sum = mUsed M := by
  rw [((sortN_perm (names M)).map (lenOf M)).sum_nat]
  unfold names mUsed
  rw [List.map_map]
  congr 1
  refine List.map_congr_left fun x hx => ?_
  simp [lenOf, mGet_mem hn hx]

theorem sum_take_le (l : List Nat) (k : Nat) : (l.take k).sum ≤ l.sum := by
  have := congrArg List.sum (List.take_append_drop k l)
  rw [List.sum_append_nat] at this
  omega
theorem sum_take_succ {l : List Nat} {k : Nat} (h : k < l.length) : (l.take (k + 1)).sum = (l.take k).sum + l[k] := by
  rw [List.take_succ_eq_append_getElem h, List.sum_append_nat]; simp

theorem StrRow.cell {w : World} {base : Nat} {v : Value} {ks : List Key} (h : StrRow w base v ks) {k : Nat} (hk : k < ks.length) : ∃ g cap, v = .slice (some ⟨g, 0, none⟩) ks.length cap ∧ w.cell? ⟨g, k, none⟩ = some (.string ⟨ks[k].toArray⟩) := by
  rcases h.2 with ⟨_, h0⟩ | ⟨g, cap, cur, rfl, _⟩
  · omega
  · refine ⟨g, cap, rfl, ?_⟩
    have := h.cells (g := g) rfl k (.string ⟨ks[k].toArray⟩) (by rw [List.getElem?_map, List.getElem?_eq_getElem hk]; rfl)
    rwa [addr_add, Nat.zero_add] at this

set_option maxRecDepth 100000 in
set_option maxHeartbeats 1000000 in
theorem used_nil (w : World) : Calls Try.prog 35 #[.pointer none] w fun e w' => e = .returned (.int .i64 0) ∧ Tch No w w' := by
  go_enter Try.func35, Try.ntmps35
  go_wp2_with (go_at_call 37; go_must (refine (names_nil w).mono ?_); rintro e w1 ⟨rfl, rfl⟩)
  refine wp_loop_rounds 1 ?_
  rw [rounds_succ]
  go_wp2
  go_ret
  exact ⟨rfl, Tch.refl _ _⟩

set_option maxRecDepth 100000 in
set_option maxHeartbeats 1000000 in
theorem used_any (db mb room : Nat) (L : List FL) (w : World) (h : IsDisk w db mb room L) (hcnt : L.length ≤ 1000000) :
    Calls Try.prog 35 #[.pointer (some ⟨db, 0, none⟩)] w fun e w' => e = .returned (.int .i64 (mUsed (L.map (·.f)) : Nat)) ∧ Tch No w w' := by
  have hc := Lib.hid (names_any db mb room L w h hcnt)
  have H := Lib.hid h
  have hnd : Hid ((names (L.map (·.f))).Nodup) := by
    obtain ⟨nn, D, _, hM⟩ := h.map
    have := hM.nodup
    rw [Hid, names, List.map_map]; exact this
  have hus := Lib.hid (used_sum hnd.out)
  have hmax := h.sz.1
  obtain ⟨u, hu⟩ : ∃ u, mUsed (L.map (·.f)) = u := ⟨_, rfl⟩
  rw [hu] at hus hmax ⊢
  have hcn := Lib.hid hcnt
  clear h hu hcnt
  go_enter Try.func35, Try.ntmps35
  go_wp2_with (go_at_call 37; go_must (refine hc.out.mono ?_); rintro e w1 ⟨v, rfl, q1, q2⟩; have Q1 := Lib.hid q1; clear q1; obtain ⟨a, m, cap, hv, hm⟩ := own_shape' Q1.out; subst hv)
  have H1 := Lib.hid (H.out.tch0 q2)
  obtain ⟨ks, hks⟩ : ∃ ks, sortN (names (L.map (·.f))) = ks := ⟨_, rfl⟩
  rw [hks] at Q1 hus hm
  have hin : Hid (∀ k (h : k < ks.length), ∃ x ∈ L, x.f.name = ks[k] ∧ lenOf (L.map (·.f)) ks[k] = x.f.b.length ∧ findL L ks[k] = some x) := by
    intro k hk
    have : ks[k] ∈ names (L.map (·.f)) := (sortN_perm _).mem_iff.1 (by rw [hks]; exact List.getElem_mem hk)
    unfold names at this
    rw [List.map_map] at this
    obtain ⟨x, hx, e⟩ := List.mem_map.1 this
    have e' : x.f.name = ks[k] := e
    have hg := mGet_mem hnd.out (List.mem_map_of_mem (f := fun x : FL => x.f) hx)
    rw [e'] at hg
    have hf := mGet_findL L ks[k]
    rw [hg] at hf
    cases hfl : findL L ks[k] with
    | none => rw [hfl] at hf; cases hf
    | some y =>
      have hy := findL_some hfl
      obtain ⟨nn, D, _, hM⟩ := H.out.map
      have : y = x := nodup_name hM.nodup hy.1 hx (by rw [hy.2, e'])
      subst this
      exact ⟨y, hx, e', by rw [lenOf, hg], rfl⟩
  have hkl : Hid (∀ x ∈ ks, x.length ≤ maxLen) := by
    intro x hx
    obtain ⟨nn, D, hown, hM⟩ := H.out.map
    have h1 : x ∈ names (L.map (·.f)) := (sortN_perm _).mem_iff.1 (by rw [hks]; exact hx)
    unfold names at h1
    rw [List.map_map] at h1
    exact strKeys_le hown Try.underlying9 x ((hM.keys hown).mem_iff.1 h1)
  have HK := Lib.hid hks
  clear hks
  have hml : m ≤ 1000000 := by
    have h1 : ks.length = L.length := by rw [← HK.out]; simp [sortN, names]
    have := hm.out; have := hcn.out; omega
  go_loop [3, 9] (fun s i => ∃ (k n : Nat), k ≤ m ∧ i = .int .i64 k ∧ s = .int .i64 n ∧ n ≤ u ∧ Hid (n = ((ks.map (lenOf (L.map (·.f)))).take k).sum)) (fun _ i => m - (intOf i).toNat)
  case atStart => exact ⟨0, 0, by omega, rfl, rfl, by omega, by simp [Hid]⟩
  case round =>
    obtain ⟨k, n, hk, rfl, rfl, hn, hsum⟩ := hrel
    by_cases hlt : k < m
    · have hkk : k < ks.length := by have := hm.out; omega
      obtain ⟨g, cap', hsl, hcell⟩ := Q1.out.cell hkk
      simp only [Value.slice.injEq] at hsl
      obtain ⟨rfl, _, rfl⟩ := hsl
      obtain ⟨x, hx, e1, e2, e3⟩ := hin.out k hkk
      have hlook := H1.out.look ⟨ks[k].toArray⟩ (by have := hkl.out ks[k] (List.getElem_mem hkk); simpa [ByteArray.size] using this)
      simp only [e3] at hlook
      have c1 := H1.out.cell1
      have c0 := H1.out.ent0 hx
      obtain ⟨a', m', cap'', hv', hm'⟩ := (H1.out.bts x hx).shape'
      rw [hv'] at c0
      have hstep : Hid (((ks.map (lenOf (L.map (·.f)))).take (k + 1)).sum = n + m') := by
        rw [Hid, sum_take_succ (by simpa using hkk), ← hsum.out, List.getElem_map, e2, hm'.out]
      have hle : n + m' ≤ u := by rw [← hstep.out, ← hus.out]; exact sum_take_le _ _
      obtain ⟨sk, hsk⟩ : ∃ sk, (⟨ks[k].toArray⟩ : ByteArray) = sk := ⟨_, rfl⟩
      rw [hsk] at hcell hlook
      clear e1 e2 e3 hx hv' hsk
      go_wp2
      exact ⟨⟨k + 1, n + m', by omega, by go_num, by go_num, hle, hstep.out.symm⟩, by simp [intOf]; omega⟩
    · have hr : Hid (u = n) := by
        rw [Hid, ← hus.out, hsum.out, List.take_of_length_le]; have := hm.out; simp; omega
      go_wp2
      go_ret
      exact ⟨ret_i (by rw [hr.out]), q2⟩
end Go.Proofs.Ytcjlgdldhcbcjaa
