/- The reference's disk (postillionref1.Disk) in memory; its small functions: may, At, Used, NewDisk. No condition. -/
import Derived.Test.YtbhemlddncmmfaaRead
import Derived.Test.YtbhemlddncmmfaaStr
import Derived.Laws.OwnMore
namespace Go.Proofs.Ytbhemlddncmmfaa
open Go.RowKit Go.Maps
set_option linter.unusedVariables false
set_option linter.unusedSimpArgs false

/-- A file of the reference's disk, and the slice that holds its bytes. -/
structure RE where
  f : FE
  v : Value
def rcs (x : RE) : List Value := [.string ⟨x.f.name.toArray⟩, x.v, .int .i64 (x.f.sure : Int), .bool x.f.named]
def rcells (L : List RE) : List Value := L.flatMap rcs
theorem rcells_length : ∀ L : List RE, (rcells L).length = L.length * 4
  | [] => rfl
  | x :: r => by
    have := rcells_length r
    unfold rcells at *
    rw [List.flatMap_cons, List.length_append, this, List.length_cons]
    simp [rcs]; omega
theorem rcells_append (a b : List RE) : rcells (a ++ b) = rcells a ++ rcells b := by simp [rcells, List.flatMap_append]
theorem rcells_at : ∀ (L : List RE) (i j : Nat) (hi : i < L.length), j < 4 → (rcells L)[i * 4 + j]? = (rcs L[i])[j]?
  | [], i, j, hi, _ => by simp at hi
  | x :: r, 0, j, _, hj => by
    unfold rcells
    rw [List.flatMap_cons, Nat.zero_mul, Nat.zero_add, List.getElem?_append_left (by simpa [rcs] using hj)]; rfl
  | x :: r, i + 1, j, hi, hj => by
    have := rcells_at r i j (by simpa using hi) hj
    unfold rcells at this ⊢
    rw [List.flatMap_cons, List.getElem?_append_right (by simp [rcs]; omega)]
    simp only [List.getElem_cons_succ]
    rw [← this]
    congr 1
    simp [rcs]; omega

/-- Block rb is a reference's disk; v: its files' slice. -/
structure IsRef (w : World) (rb : Nat) (room : Nat) (v : Value) (L : List RE) : Prop where
  disk : w.heap[rb]? = some (.cells #[.int .i64 room, v] 61 (0, 0))
  row : w.ownsRow 0 63 4 v L.length (rcells L)
  bts : ∀ x ∈ L, SlB w x.v x.f.b
  vne : v.ownBlock ≠ some rb
  bne : ∀ x ∈ L, x.v.ownBlock ≠ some rb ∧ ∀ k, x.v.ownBlock = some k → v.ownBlock ≠ some k
  le : ∀ x ∈ L, x.f.sure ≤ x.f.b.length
  sz : mUsed (L.map (·.f)) ≤ 1048576 ∧ room ≤ 1048576
  nodup : (L.map (·.f.name)).Nodup
  nlen : ∀ x ∈ L, x.f.name.length ≤ lim

def RefF (rb : Nat) (v : Value) (L : List RE) : Nat → Prop := fun k => k = rb ∨ v.ownBlock = some k ∨ ∃ x ∈ L, x.v.ownBlock = some k

theorem IsRef.tch {F : Nat → Prop} {w w' : World} {rb room : Nat} {v : Value} {L : List RE} (h : IsRef w rb room v L) (ht : Tch F w w') (hF : ∀ k, RefF rb v L k → ¬ F k) : IsRef w' rb room v L :=
  ⟨blk_tch ht h.disk (hF rb (.inl rfl)), own_tch h.row ht (fun k hk => hF k (.inr (.inl hk))), fun x hx => (h.bts x hx).tch ht (fun k hk => hF k (.inr (.inr ⟨x, hx, hk⟩))), h.vne, h.bne, h.le, h.sz, h.nodup, h.nlen⟩
theorem IsRef.tch0 {w w' : World} {rb room : Nat} {v : Value} {L : List RE} (h : IsRef w rb room v L) (ht : Tch No w w') : IsRef w' rb room v L := h.tch ht (fun _ _ h => h)
theorem RefF.lt {w : World} {rb room : Nat} {v : Value} {L : List RE} (h : IsRef w rb room v L) : ∀ k, RefF rb v L k → k < w.heap.size := by
  rintro k (rfl | hk | ⟨x, hx, hk⟩)
  · exact blk_lt h.disk
  · exact (h.row.lt k hk).2
  · exact (h.bts x hx).blt k hk
theorem IsRef.cell0 {w : World} {rb room : Nat} {v : Value} {L : List RE} (h : IsRef w rb room v L) : w.cell? ⟨rb, 0, none⟩ = some (.int .i64 room) := by simpa using blk_cell h.disk 0
theorem IsRef.cell1 {w : World} {rb room : Nat} {v : Value} {L : List RE} (h : IsRef w rb room v L) : w.cell? ⟨rb, 1, none⟩ = some v := by simpa using blk_cell h.disk 1
/-- The row, as the walk reads it. -/
theorem IsRef.at_ {w : World} {rb room : Nat} {v : Value} {L : List RE} (h : IsRef w rb room v L) {i : Nat} (hi : i < L.length) :
    ∃ g cap, v = .slice (some ⟨g, 0, none⟩) L.length cap ∧ w.cell? ⟨g, i * 4, none⟩ = some (.string ⟨L[i].f.name.toArray⟩) ∧ w.cell? ⟨g, i * 4 + 1, none⟩ = some L[i].v ∧ w.cell? ⟨g, i * 4 + 2, none⟩ = some (.int .i64 (L[i].f.sure : Int)) ∧ w.cell? ⟨g, i * 4 + 3, none⟩ = some (.bool L[i].f.named) := by
  have hr := h.row
  rcases hr.2 with ⟨_, h0⟩ | ⟨g, cap, cur, hv, _⟩
  · omega
  · subst hv
    refine ⟨g, cap, rfl, ?_, ?_, ?_, ?_⟩
    · have := hr.cellAt (i * 4 + 0) (by omega); rw [rcells_at L i 0 hi (by omega)] at this; exact this
    · have := hr.cellAt (i * 4 + 1) (by omega); rw [rcells_at L i 1 hi (by omega)] at this; exact this
    · have := hr.cellAt (i * 4 + 2) (by omega); rw [rcells_at L i 2 hi (by omega)] at this; exact this
    · have := hr.cellAt (i * 4 + 3) (by omega); rw [rcells_at L i 3 hi (by omega)] at this; exact this
theorem IsRef.shape {w : World} {rb room : Nat} {v : Value} {L : List RE} (h : IsRef w rb room v L) : ∃ a m cap, v = .slice a m cap ∧ Hid (m = L.length) := own_shape' h.row

/-- A name's place, counted from 0. -/
def atI (M : List FE) (n : Key) : Int := match M.findIdx? (fun x => x.name == n) with
  | some i => i
  | none => -1
theorem atI_found {M : List FE} {n : Key} {j : Nat} (hj : j < M.length) (h : ∀ i (hi : i < j), M[i].name ≠ n) (he : M[j].name = n) : atI M n = j := by
  have : M.findIdx? (fun x => x.name == n) = some j := by
    rw [List.findIdx?_eq_some_iff_getElem]
    refine ⟨hj, by simpa using he, fun i hi => by simpa using h i hi⟩
  unfold atI; rw [this]
theorem atI_none {M : List FE} {n : Key} (h : ∀ i (hi : i < M.length), M[i].name ≠ n) : atI M n = -1 := by
  have : M.findIdx? (fun x => x.name == n) = none := by
    rw [List.findIdx?_eq_none_iff]
    intro x hx
    obtain ⟨i, hi, rfl⟩ := List.getElem_of_mem hx
    simpa using h i hi
  unfold atI; rw [this]
theorem key_str (k : Key) (s : ByteArray) : (⟨k.toArray⟩ : ByteArray) = s ↔ k = s.data.toList := by
  constructor
  · rintro rfl; simp
  · rintro rfl; cases s; simp

set_option maxRecDepth 100000 in
set_option maxHeartbeats 1000000 in
theorem at_any (rb room : Nat) (v : Value) (L : List RE) (s : ByteArray) (w : World) (h : IsRef w rb room v L) (hcnt : L.length ≤ 1000000) :
    Calls Try.prog 37 #[.pointer (some ⟨rb, 0, none⟩), .string s] w fun e w' => e = .returned (.int .i64 (atI (L.map (·.f)) s.data.toList)) ∧ w = w' := by
  have c1 := h.cell1
  obtain ⟨a, m, cap, rfl, hm⟩ := h.shape
  have H := Lib.hid h
  have hml : m ≤ 1000000 := by rw [hm.out]; exact hcnt
  clear h hcnt
  go_enter Try.func37, Try.ntmps37
  go_wp2_with fail
  go_loop [5] (fun i => ∃ k : Nat, k ≤ m ∧ i = .int .i64 k ∧ Hid (∀ j (hj : j < L.length), j < k → L[j].f.name ≠ s.data.toList)) (fun i => m - (intOf i).toNat)
  case atStart => exact ⟨0, by omega, rfl, fun j _ h => by omega⟩
  case round =>
    obtain ⟨k, hk, rfl, hno⟩ := hrel
    by_cases hlt : k < m
    · have hkl : k < L.length := by rw [← hm.out]; exact hlt
      obtain ⟨g, cap', hsl, hc, _, _, _⟩ := H.out.at_ hkl
      simp only [Value.slice.injEq] at hsl
      obtain ⟨rfl, hq, rfl⟩ := hsl
      clear hq
      obtain ⟨nm, hnm⟩ : ∃ nm : ByteArray, (⟨L[k].f.name.toArray⟩ : ByteArray) = nm := ⟨_, rfl⟩
      rw [hnm] at hc
      by_cases he : nm = s
      · have hr : Hid (atI (L.map (·.f)) s.data.toList = (k : Int)) := by
          have h1 : L[k].f.name = s.data.toList := (key_str _ _).1 (hnm.trans he)
          exact atI_found (by simpa using hkl) (fun i hi => by simpa using hno.out i (by omega) hi) (by simpa using h1)
        have he' := he
        subst he'
        clear hnm he
        go_wp2
        go_ret
        exact ⟨ret_i hr.out.symm, rfl⟩
      · have hne : Hid (L[k].f.name ≠ s.data.toList) := fun q => he (hnm.symm.trans ((key_str _ _).2 q))
        have hb : (nm.toList == s.toList) = false := by
          rw [beq_eq_false_iff_ne]
          intro q
          rw [ByteArray.toList_eq, ByteArray.toList_eq] at q
          exact he (bytes_ext q)
        clear hnm
        go_wp2
        exact ⟨⟨k + 1, by omega, by go_num, fun j hj hjk => by
          rcases Nat.lt_or_ge j k with h1 | h1
          · exact hno.out j hj h1
          · have : j = k := by omega
            subst this; exact hne.out⟩, by simp [intOf]; omega⟩
    · have hr : Hid (atI (L.map (·.f)) s.data.toList = -1) := atI_none (fun i hi => by
        have hi' : i < L.length := by simpa using hi
        have := hm.out
        simpa using hno.out i hi' (by omega))
      go_wp2
      go_ret
      exact ⟨ret_i hr.out.symm, rfl⟩

theorem sum_take_map (M : List FE) (k : Nat) (hk : k < M.length) : mUsed (M.take (k + 1)) = mUsed (M.take k) + M[k].b.length := by
  rw [List.take_succ_eq_append_getElem hk, mUsed_append]; simp [mUsed]
theorem mUsed_take_le (M : List FE) (k : Nat) : mUsed (M.take k) ≤ mUsed M := by
  have h : mUsed (M.take k ++ M.drop k) = mUsed (M.take k) + mUsed (M.drop k) := mUsed_append _ _
  rw [List.take_append_drop] at h; omega

set_option maxRecDepth 100000 in
set_option maxHeartbeats 1000000 in
theorem rused_any (rb room : Nat) (v : Value) (L : List RE) (w : World) (h : IsRef w rb room v L) (hcnt : L.length ≤ 1000000) :
    Calls Try.prog 36 #[.pointer (some ⟨rb, 0, none⟩)] w fun e w' => e = .returned (.int .i64 (mUsed (L.map (·.f)) : Nat)) ∧ w = w' := by
  have c1 := h.cell1
  obtain ⟨a, m, cap, rfl, hm⟩ := h.shape
  have H := Lib.hid h
  have hml : m ≤ 1000000 := by rw [hm.out]; exact hcnt
  have hmax := h.sz.1
  obtain ⟨u, hu⟩ : ∃ u, Hid (mUsed (L.map (·.f)) = u) := ⟨_, rfl⟩
  rw [hu.out] at hmax ⊢
  clear h hcnt
  go_enter Try.func36, Try.ntmps36
  go_wp2_with fail
  go_loop [3, 4] (fun t i => ∃ (k n : Nat), k ≤ m ∧ i = .int .i64 k ∧ t = .int .i64 n ∧ n ≤ u ∧ Hid (n = mUsed ((L.map (·.f)).take k))) (fun _ i => m - (intOf i).toNat)
  case atStart => exact ⟨0, 0, by omega, rfl, rfl, by omega, by simp [Hid, mUsed]⟩
  case round =>
    obtain ⟨k, n, hk, rfl, rfl, hn, hsum⟩ := hrel
    by_cases hlt : k < m
    · have hkl : k < L.length := by rw [← hm.out]; exact hlt
      obtain ⟨g, cap', hsl, _, hc, _, _⟩ := H.out.at_ hkl
      simp only [Value.slice.injEq] at hsl
      obtain ⟨rfl, hq, rfl⟩ := hsl
      clear hq
      obtain ⟨a', m', cap'', hv', hm'⟩ := (H.out.bts L[k] (List.getElem_mem hkl)).shape'
      rw [hv'] at hc
      have hstep : Hid (n + m' = mUsed ((L.map (·.f)).take (k + 1))) := by
        rw [Hid, sum_take_map _ _ (by simpa using hkl), ← hsum.out, hm'.out]; simp
      have hle : n + m' ≤ u := by rw [hstep.out, ← hu.out]; exact mUsed_take_le _ _
      clear hv'
      go_wp2
      exact ⟨⟨k + 1, n + m', by omega, by go_num, by go_num, hle, hstep.out⟩, by simp [intOf]; omega⟩
    · have hr : Hid (u = n) := by
        rw [Hid, ← hu.out, hsum.out, List.take_of_length_le]; have := hm.out; simp; omega
      go_wp2
      go_ret
      exact ⟨ret_i (by rw [hr.out]), rfl⟩
end Go.Proofs.Ytbhemlddncmmfaa
