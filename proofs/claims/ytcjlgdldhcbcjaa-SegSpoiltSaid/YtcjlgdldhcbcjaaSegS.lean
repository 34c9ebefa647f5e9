/- Segments: a log of many segments, in plain lists. No condition. -/
import Derived.Test.YtcjlgdldhcbcjaaSegP
namespace Go.Proofs.Ytcjlgdldhcbcjaa
open Go.RowKit Go.Maps
set_option linter.unusedVariables false
set_option linter.unusedSimpArgs false

/-- The files of a log: S n are the texts of segment n. -/
structure Segs (M : List FE) (last : Nat) (S : Nat → List (List UInt8)) : Prop where
  no : ∀ n, n ≤ 999 → S n = [] → mGet M (segNm n) = none
  get : ∀ n, n ≤ 999 → S n ≠ [] → ∃ x, mGet M (segNm n) = some x ∧ x.b = framed (S n) ∧ (n < last → x.sure = x.b.length ∧ x.named = true)
  above : ∀ n, last < n → S n = []
  fit : ∀ n, ∀ b ∈ S n, fits b
  nms : ∀ x ∈ M, ∃ n, n ≤ last ∧ x.name = segNm n
def flatS (S : Nat → List (List UInt8)) (k : Nat) : List (List UInt8) := (List.range k).flatMap S
theorem flatS_succ (S : Nat → List (List UInt8)) (k : Nat) : flatS S (k + 1) = flatS S k ++ S k := by
  unfold flatS; rw [List.range_succ, List.flatMap_append]; simp
theorem flatS_congr {S T : Nat → List (List UInt8)} : ∀ k, (∀ n, n < k → S n = T n) → flatS S k = flatS T k
  | 0, _ => rfl
  | k + 1, h => by rw [flatS_succ, flatS_succ, flatS_congr k (fun n hn => h n (by omega)), h k (by omega)]
theorem flatS_more {S : Nat → List (List UInt8)} {a : Nat} : ∀ b, a ≤ b → (∀ n, a ≤ n → n < b → S n = []) → flatS S b = flatS S a
  | 0, h, _ => by have : a = 0 := by omega
                  subst this; rfl
  | b + 1, h, hs => by
    rcases Nat.lt_or_ge a (b + 1) with hlt | hge
    · rw [flatS_succ, hs b (by omega) (by omega), List.append_nil, flatS_more b (by omega) (fun n h1 h2 => hs n h1 (by omega))]
    · have : a = b + 1 := by omega
      subst this; rfl
theorem Segs.segB {M : List FE} {last : Nat} {S : Nat → List (List UInt8)} (h : Segs M last S) {n : Nat} (hn : n ≤ 999) : segB M n = framed (S n) := by
  unfold Proofs.Ytcjlgdldhcbcjaa.segB
  by_cases hs : S n = []
  · rw [h.no n hn hs, hs]; rfl
  · obtain ⟨x, h1, h2, _⟩ := h.get n hn hs
    rw [h1]; exact h2
theorem Segs.empty : Segs [] 0 (fun _ => []) := ⟨fun _ _ _ => rfl, fun _ _ h => absurd rfl h, fun _ _ => rfl, fun _ b hb => by simp at hb, fun x hx => by simp at hx⟩
def addS (S : Nat → List (List UInt8)) (last : Nat) (b : List UInt8) : Nat → List (List UInt8) := fun n => if n = last then S n ++ [b] else S n
theorem flatS_add (S : Nat → List (List UInt8)) (last : Nat) (b : List UInt8) : flatS (addS S last b) (last + 1) = flatS S (last + 1) ++ [b] := by
  rw [flatS_succ, flatS_succ, flatS_congr (S := addS S last b) (T := S) last (fun n hn => if_neg (by omega))]
  simp [addS]
theorem mem_appL {M : List FE} {n : Key} {bs : List UInt8} {x : FE} (h : x ∈ mAppL M n bs) : x.name = n ∨ ∃ y ∈ M, x.name = y.name := by
  unfold mAppL at h
  split at h
  · obtain ⟨y, hy, rfl⟩ := List.mem_map.1 h
    exact .inr ⟨y, hy, by split <;> rfl⟩
  · rcases List.mem_append.1 h with h | h
    · exact .inr ⟨x, h, rfl⟩
    · simp at h; subst h; exact .inl rfl
/-- A text more, in the segment that is written. -/
theorem Segs.add {M : List FE} {last : Nat} {S : Nat → List (List UInt8)} (h : Segs M last S) (hl : last ≤ 999) (A : List (List UInt8)) (b : List UInt8) (hb : fits b) (hs : (framed (S last)).length < 2000) (hu : mUsed M + (6 + b.length) ≤ 1048576) :
    addM 1048576 M last A b = ⟨0, mAppL M (segNm last) (frameM b), last, A ++ [b]⟩ ∧ Segs (mAppL M (segNm last) (frameM b)) last (addS S last b) := by
  have hsb := h.segB hl
  unfold Proofs.Ytcjlgdldhcbcjaa.segB at hsb
  refine ⟨?_, fun n hn hsn => ?_, fun n hn hsn => ?_, fun n hn => ?_, fun n c hc => ?_, fun x hx => ?_⟩
  · have e : mAppend M 1048576 (segNm last) (frameM b) = (0, mAppL M (segNm last) (frameM b)) := by
      unfold mAppend
      rw [good_seg last hl, if_neg (by simp), if_neg (by rw [frameM_length]; omega)]
    unfold addM
    rw [if_neg (fun q => q hb), hsb, if_neg (by omega)]
    unfold putM
    rw [e]; rfl
  · by_cases hnl : n = last
    · subst hnl; simp [addS] at hsn
    · rw [get_appL_ne _ _ _ _ (fun e => hnl (segNm_inj hn hl e))]
      exact h.no n hn (by simpa [addS, hnl] using hsn)
  · by_cases hnl : n = last
    · subst hnl
      refine ⟨_, get_appL_eq _ _ _, ?_, fun q => by omega⟩
      by_cases hs0 : S n = []
      · rw [h.no n hn hs0]
        simp [addS, hs0, framed_one]
      · obtain ⟨x, h1, h2, _⟩ := h.get n hn hs0
        rw [h1]
        simp [addS, framed_snoc, h2]
    · rw [get_appL_ne _ _ _ _ (fun e => hnl (segNm_inj hn hl e))]
      have e : addS S last b n = S n := if_neg hnl
      rw [e] at hsn ⊢
      exact h.get n hn hsn
  · have e : addS S last b n = S n := if_neg (by omega)
    rw [e]; exact h.above n hn
  · unfold addS at hc
    split at hc
    · rcases List.mem_append.1 hc with hc | hc
      · exact h.fit n c hc
      · simp at hc; subst hc; exact hb
    · exact h.fit n c hc
  · rcases mem_appL hx with e | ⟨y, hy, e⟩
    · exact ⟨last, Nat.le_refl _, e⟩
    · obtain ⟨n, h1, h2⟩ := h.nms y hy
      exact ⟨n, h1, e.trans h2⟩
theorem mem_sync {M : List FE} {n : Key} {x : FE} (h : x ∈ mSync M n) : ∃ y ∈ M, x.name = y.name := by
  obtain ⟨y, hy, rfl⟩ := List.mem_map.1 h
  exact ⟨y, hy, by split <;> rfl⟩
/-- The next segment begins. -/
theorem Segs.next {M : List FE} {last : Nat} {S : Nat → List (List UInt8)} (h : Segs M last S) (hl : last ≤ 999) (last' : Nat) (hl' : last' = last ∨ last' = last + 1) : Segs (mSync M (segNm last)) last' S := by
  refine ⟨fun n hn hs => ?_, fun n hn hs => ?_, fun n hn => h.above n (by omega), h.fit, fun x hx => ?_⟩
  · rw [get_sync, h.no n hn hs]; rfl
  · obtain ⟨x, h1, h2, h3⟩ := h.get n hn hs
    rw [get_sync, h1]
    by_cases e : segNm n = segNm last
    · refine ⟨_, rfl, ?_, fun _ => ?_⟩
      · simp [e, h2]
      · simp [e]
    · have hne : n ≠ last := fun q => e (by rw [q])
      have hlt : n < last := by
        rcases Nat.lt_or_ge last n with q | q
        · exact absurd (h.above n q) hs
        · omega
      refine ⟨x, by simp [e], h2, fun _ => h3 hlt⟩
  · obtain ⟨y, hy, e⟩ := mem_sync hx
    obtain ⟨n, h1, h2⟩ := h.nms y hy
    exact ⟨n, by omega, e.trans h2⟩
/-- All is sure. -/
def AllSure (M : List FE) : Prop := ∀ x ∈ M, x.sure = x.b.length ∧ x.named = true
theorem get_of_mem : ∀ {M : List FE}, (names M).Nodup → ∀ {x : FE}, x ∈ M → mGet M x.name = some x
  | [], _, x, h => by simp at h
  | y :: r, hnd, x, h => by
    simp only [names, List.map_cons, List.nodup_cons] at hnd
    unfold mGet
    rw [List.find?_cons]
    by_cases hy : y.name = x.name
    · rw [show (y.name == x.name) = true by simpa using hy]
      rcases List.mem_cons.1 h with e | h
      · rw [e]
      · exact absurd (by rw [hy]; exact List.mem_map_of_mem (f := fun x : FE => x.name) h) hnd.1
    · rw [show (y.name == x.name) = false by simpa using hy]
      rcases List.mem_cons.1 h with e | h
      · exact absurd (by rw [e]) hy
      · exact get_of_mem hnd.2 h
theorem Segs.sure {M : List FE} {last : Nat} {S : Nat → List (List UInt8)} (h : Segs M last S) (hl : last ≤ 999) (hnd : (names M).Nodup) : AllSure (mSync M (segNm last)) := by
  intro x hx
  have hnd' : (names (mSync M (segNm last))).Nodup := by
    have e : names (mSync M (segNm last)) = names M := by
      unfold names mSync
      rw [List.map_map]
      refine List.map_congr_left fun x _ => ?_
      simp only [Function.comp]
      split <;> rfl
    rw [e]; exact hnd
  have hn := h.next hl (last + 1) (.inr rfl)
  have hg := get_of_mem hnd' hx
  obtain ⟨y, hy, e⟩ := mem_sync hx
  obtain ⟨n, h1, h2⟩ := h.nms y hy
  have e2 : x.name = segNm n := e.trans h2
  rw [e2] at hg
  by_cases hs : S n = []
  · rw [hn.no n (by omega) hs] at hg; cases hg
  · obtain ⟨z, q1, q2, q3⟩ := hn.get n (by omega) hs
    rw [q1] at hg
    injection hg with hg
    subst hg
    exact q3 (by omega)
theorem fall_sure {M : List FE} (h : AllSure M) (n : Int) : mFall n M = M := by
  unfold mFall
  induction M with
  | nil => rfl
  | cons x r ih =>
    have hx := h x List.mem_cons_self
    have hst : stays n x = x.b.length := by
      unfold stays
      rw [hx.1, show ((x.b.length : Int) - (x.b.length : Int) + 1) = 1 by omega, Int.emod_one]
      simp
    have he : fallE n x = some x := by
      unfold fallE
      rw [hst, if_pos (.inr hx.2), List.take_length]
      have h1 := hx.1
      have h2 := hx.2
      cases x
      simp_all
    rw [List.filterMap_cons, he]
    simp only
    rw [ih (fun y hy => h y (List.mem_cons_of_mem _ hy))]
theorem topF_spec (M : List FE) (f : Nat) : ∀ n, (∀ m, n < m → m ≤ 999 → mGet M (segNm m) = none) → ∀ m, topF M f n < m → m ≤ 999 → f ≤ n → mGet M (segNm m) = none
  | 0, h, m, h1, h2, h3 => h m (by omega) h2
  | n + 1, h, m, h1, h2, h3 => by
    unfold topF at h1
    by_cases hf : n + 1 ≤ f
    · rw [if_pos hf] at h1; exact h m (by omega) h2
    · rw [if_neg hf] at h1
      by_cases hs : (mGet M (segNm (n + 1))).isSome
      · rw [if_pos hs] at h1; exact h m h1 h2
      · rw [if_neg hs] at h1
        refine topF_spec M f n (fun k hk1 hk2 => ?_) m h1 h2 (by omega)
        by_cases hk : k = n + 1
        · subst hk
          cases hg : mGet M (segNm (n + 1)) with
          | none => rfl
          | some _ => rw [hg] at hs; simp at hs
        · exact h k (by omega) hk2
theorem open_flat {M : List FE} {last : Nat} {S : Nat → List (List UInt8)} (h : Segs M last S) (room t : Nat) (ht : t ≤ 999) : ∀ (k n : Nat), n + k = t + 1 → ∀ A, openF room t k M n A = ⟨0, M, t, A ++ (List.range' n k).flatMap S⟩
  | 0, n, _, A => by simp [openF]
  | k + 1, n, hk, A => by
    have hfr : framesM (segB M n) = ⟨S n, (framed (S n)).length, false, 0⟩ := by rw [h.segB (by omega), framesM_framed _ (h.fit n)]
    unfold openF
    rw [hfr, if_neg (by simp), if_neg (by simp), if_pos rfl, open_flat h room t ht k (n + 1) (by omega)]
    rw [List.range'_succ, List.flatMap_cons, List.append_assoc]
/-- Opened it tells all. -/
theorem Segs.open_ {M : List FE} {last : Nat} {S : Nat → List (List UInt8)} (h : Segs M last S) (hl : last ≤ 999) (room : Nat) : ∃ t, t ≤ 999 ∧ openM room M 0 = ⟨0, M, t, flatS S (last + 1)⟩ := by
  have hd : mDel M newK = M := by
    unfold mDel
    rw [List.filter_eq_self]
    intro x hx
    obtain ⟨n, _, e⟩ := h.nms x hx
    rw [e]
    simpa using seg_ne_new n
  have ht := topF_le M 0 999
  obtain ⟨t, htt⟩ : ∃ t, topF M 0 999 = t := ⟨_, rfl⟩
  have hab : ∀ m, t < m → m ≤ 999 → mGet M (segNm m) = none := fun m h1 h2 => topF_spec M 0 999 (fun _ _ _ => by omega) m (by rw [htt]; exact h1) h2 (by omega)
  have hS : ∀ m, t < m → S m = [] := fun m hm => by
    by_cases hm9 : m ≤ 999
    · by_cases hs : S m = []
      · exact hs
      · obtain ⟨x, h1, _⟩ := h.get m hm9 hs
        rw [hab m hm hm9] at h1; cases h1
    · exact h.above m (by omega)
  refine ⟨t, by omega, ?_⟩
  unfold openM
  rw [hd, htt, open_flat h room t (by omega) (t + 1 - 0) 0 (by omega)]
  congr 1
  rw [List.nil_append, show (List.range' 0 (t + 1 - 0)).flatMap S = flatS S (t + 1) by unfold flatS; rw [List.range_eq_range']; rfl]
  rcases Nat.le_total t last with q | q
  · exact (flatS_more (last + 1) (by omega) (fun n h1 h2 => hS n (by omega))).symm
  · exact flatS_more (t + 1) (by omega) (fun n h1 h2 => h.above n (by omega))
end Go.Proofs.Ytcjlgdldhcbcjaa
