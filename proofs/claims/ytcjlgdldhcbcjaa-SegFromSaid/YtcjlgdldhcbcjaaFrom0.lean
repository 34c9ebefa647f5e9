/- From a segment on: what is told, how many files are left, in plain lists. No condition. -/
import Derived.Test.YtcjlgdldhcbcjaaSegS
namespace Go.Proofs.Ytcjlgdldhcbcjaa
open Go.RowKit Go.Maps
set_option linter.unusedVariables false
set_option linter.unusedSimpArgs false

theorem get_del (M : List FE) (n m : Key) : mGet (mDel M n) m = if m = n then none else mGet M m := by
  unfold mGet mDel
  rw [List.find?_filter]
  by_cases h : m = n
  · rw [if_pos h, List.find?_eq_none]
    intro x _
    simp [h]
  · rw [if_neg h]
    congr 1
    funext x
    by_cases hx : x.name = m
    · simp [hx, h]
    · simp [hx]
theorem get_forget (M : List FE) (n : Nat) (hn : n ≤ 999) : ∀ f, f ≤ 1000 → mGet (mForget f M) (segNm n) = if n < f then none else mGet M (segNm n)
  | 0, _ => by simp [mForget]
  | f + 1, hf => by
    rw [mForget_succ, get_del, get_forget M n hn f (by omega)]
    by_cases h : n = f
    · subst h; rw [if_pos rfl, if_pos (by omega)]
    · rw [if_neg (fun e => h (segNm_inj hn (by omega) e))]
      by_cases h2 : n < f
      · rw [if_pos h2, if_pos (by omega)]
      · rw [if_neg h2, if_neg (by omega)]
theorem mem_forget (M : List FE) (x : FE) : ∀ f, x ∈ mForget f M → x ∈ M ∧ ∀ k, k < f → x.name ≠ segNm k
  | 0, h => ⟨by simpa [mForget] using h, fun k hk => by omega⟩
  | f + 1, h => by
    rw [mForget_succ] at h
    obtain ⟨h1, h2⟩ := List.mem_filter.1 h
    obtain ⟨h3, h4⟩ := mem_forget M x f h1
    refine ⟨h3, fun k hk => ?_⟩
    by_cases e : k = f
    · subst e; simpa using h2
    · exact h4 k (by omega)
theorem Segs.forget {M : List FE} {last : Nat} {S : Nat → List (List UInt8)} (h : Segs M last S) (f : Nat) (hf : f ≤ 1000) : Segs (mForget f M) last (fun n => if n < f then [] else S n) := by
  refine ⟨fun n hn hs => ?_, fun n hn hs => ?_, fun n hn => ?_, fun n b hb => ?_, fun x hx => ?_⟩
  · rw [get_forget M n hn f hf]
    by_cases q : n < f
    · rw [if_pos q]
    · rw [if_neg q]; rw [if_neg q] at hs; exact h.no n hn hs
  · by_cases q : n < f
    · rw [if_pos q] at hs; exact absurd rfl hs
    · rw [if_neg q] at hs
      obtain ⟨x, h1, h2, h3⟩ := h.get n hn hs
      exact ⟨x, by rw [get_forget M n hn f hf, if_neg q]; exact h1, by rw [if_neg q]; exact h2, h3⟩
  · by_cases q : n < f
    · rw [if_pos q]
    · rw [if_neg q]; exact h.above n hn
  · by_cases q : n < f
    · rw [if_pos q] at hb; cases hb
    · rw [if_neg q] at hb; exact h.fit n b hb
  · exact h.nms x (mem_forget M x f hx).1
theorem flat_more (S : Nat → List (List UInt8)) (f a : Nat) : ∀ b, a ≤ b → (∀ n, f + a ≤ n → n < f + b → S n = []) → (List.range' f b).flatMap S = (List.range' f a).flatMap S
  | 0, h, _ => by have : a = 0 := by omega
                  subst this; rfl
  | b + 1, h, hs => by
    rcases Nat.lt_or_ge a (b + 1) with hlt | hge
    · rw [List.range'_concat, List.flatMap_append, Nat.one_mul]
      rw [flat_more S f a b (by omega) (fun n h1 h2 => hs n h1 (by omega))]
      simp [hs (f + b) (by omega) (by omega)]
    · have : a = b + 1 := by omega
      subst this; rfl
theorem Segs.open_from {M : List FE} {last : Nat} {S : Nat → List (List UInt8)} (h : Segs M last S) (f : Nat) (hf : f ≤ last) (hl : last ≤ 999) (room : Nat) : ∃ t, t ≤ 999 ∧ openM room M f = ⟨0, M, t, (List.range' f (last + 1 - f)).flatMap S⟩ := by
  have hd : mDel M newK = M := by
    unfold mDel
    rw [List.filter_eq_self]
    intro x hx
    obtain ⟨n, _, e⟩ := h.nms x hx
    rw [e]
    simpa using seg_ne_new n
  have ht := topF_le M f 999
  obtain ⟨t, htt⟩ : ∃ t, topF M f 999 = t := ⟨_, rfl⟩
  have hab : ∀ m, t < m → m ≤ 999 → mGet M (segNm m) = none := fun m h1 h2 => topF_spec M f 999 (fun _ _ _ => by omega) m (by rw [htt]; exact h1) h2 (by omega)
  have hS : ∀ m, t < m → S m = [] := fun m hm => by
    by_cases hm9 : m ≤ 999
    · by_cases hs : S m = []
      · exact hs
      · obtain ⟨x, h1, _⟩ := h.get m hm9 hs
        rw [hab m hm hm9] at h1; cases h1
    · exact h.above m (by omega)
  refine ⟨t, by omega, ?_⟩
  unfold openM
  rw [hd, htt, open_flat h room t (by omega) (t + 1 - f) f (by omega)]
  congr 1
  rw [List.nil_append]
  rcases Nat.le_total t last with q | q
  · exact (flat_more S f (t + 1 - f) (last + 1 - f) (by omega) (fun n h1 h2 => hS n (by omega))).symm
  · exact flat_more S f (last + 1 - f) (t + 1 - f) (by omega) (fun n h1 h2 => h.above n (by omega))
theorem nodup_len {α : Type} [DecidableEq α] : ∀ (l l2 : List α), l.Nodup → (∀ x ∈ l, x ∈ l2) → l.length ≤ l2.length
  | [], _, _, _ => by simp
  | a :: l, l2, hn, hs => by
    rw [List.nodup_cons] at hn
    have h1 := nodup_len l (l2.erase a) hn.2 (fun x hx => (List.mem_erase_of_ne (fun e => hn.1 (by rw [← e]; exact hx))).2 (hs x (List.mem_cons_of_mem _ hx)))
    rw [List.length_erase_of_mem (hs a List.mem_cons_self)] at h1
    have : 0 < l2.length := List.length_pos_of_mem (hs a List.mem_cons_self)
    simp only [List.length_cons]
    omega
theorem Segs.left {M : List FE} {last : Nat} {S : Nat → List (List UInt8)} (h : Segs M last S) (f : Nat) (hf : f ≤ last) (hnd : (names (mForget f M)).Nodup) : (mForget f M).length ≤ last + 1 - f := by
  have h1 := nodup_len (names (mForget f M)) ((List.range' f (last + 1 - f)).map segNm) hnd (fun x hx => by
    obtain ⟨y, hy, rfl⟩ := List.mem_map.1 hx
    obtain ⟨h2, h3⟩ := mem_forget M y f hy
    obtain ⟨n, h4, h5⟩ := h.nms y h2
    refine List.mem_map.2 ⟨n, ?_, h5.symm⟩
    rw [List.mem_range'_1]
    refine ⟨?_, by omega⟩
    rcases Nat.lt_or_ge n f with q | q
    · exact absurd h5 (h3 n q)
    · exact q)
  simpa [names] using h1
/-! ### What is wanted -/
def txt (i : Nat) : List UInt8 := [UInt8.ofNat i, 1]
def wantK (T : List Nat) (f i : Nat) : List (List UInt8) := ((List.range i).filter (fun i => decide (f ≤ T.getD i 0))).map txt
theorem wantK_succ (T : List Nat) (f i : Nat) : wantK T f (i + 1) = wantK T f i ++ (if f ≤ T.getD i 0 then [txt i] else []) := by
  unfold wantK
  rw [List.range_succ, List.filter_append, List.map_append]
  congr 1
  by_cases h : f ≤ T.getD i 0
  · rw [if_pos h]; simp only [List.filter, h, decide_true, List.map_cons, List.map_nil]
  · rw [if_neg h]; simp only [List.filter, h, decide_false, List.map_nil]
theorem wantK_app (T : List Nat) (a f i : Nat) (hi : i ≤ T.length) : wantK (T ++ [a]) f i = wantK T f i := by
  unfold wantK
  congr 1
  refine List.filter_congr fun k hk => ?_
  have := List.mem_range.1 hk
  have e : (T ++ [a]).getD k 0 = T.getD k 0 := by simp [List.getD, List.getElem?_append, show k < T.length by omega]
  rw [e]
theorem wantK_len (T : List Nat) (f i : Nat) : (wantK T f i).length ≤ i := by
  unfold wantK
  rw [List.length_map]
  exact Nat.le_trans (List.length_filter_le _ _) (by simp)
/-- What stands in the segments from f on is what is wanted, for each f. -/
def Tells (S : Nat → List (List UInt8)) (last : Nat) (T : List Nat) : Prop := ∀ f, (List.range' f (last + 1 - f)).flatMap S = wantK T f T.length
theorem Tells.empty : Tells (fun _ => []) 0 [] := fun f => by simp [wantK]
theorem Tells.add {S : Nat → List (List UInt8)} {last : Nat} {T : List Nat} (h : Tells S last T) : Tells (addS S last (txt T.length)) last (T ++ [last]) := by
  intro f
  have hg : (T ++ [last]).getD T.length 0 = last := by simp
  rw [List.length_append, List.length_singleton, wantK_succ, hg, wantK_app T last f T.length (Nat.le_refl _)]
  have h0 := h f
  by_cases hf : f ≤ last
  · rw [if_pos hf, ← h0]
    obtain ⟨d, hd⟩ : ∃ d, last = f + d := ⟨last - f, by omega⟩
    have e1 : last + 1 - f = d + 1 := by omega
    rw [e1, List.range'_concat, List.flatMap_append, List.flatMap_append, Nat.one_mul, ← hd]
    have e2 : (List.range' f d).flatMap (addS S last (txt T.length)) = (List.range' f d).flatMap S := by
      rw [List.flatMap_def, List.flatMap_def]
      congr 1
      refine List.map_congr_left fun n hn => ?_
      rw [List.mem_range'_1] at hn
      exact if_neg (by omega)
    rw [e2]
    simp [addS, List.append_assoc]
  · have e1 : last + 1 - f = 0 := by omega
    rw [if_neg hf, ← h0, e1]; simp
theorem Tells.next {S : Nat → List (List UInt8)} {last : Nat} {T : List Nat} (h : Tells S last T) (hs : ∀ n, last < n → S n = []) : Tells S (last + 1) T := by
  intro f
  rw [← h f]
  exact flat_more S f (last + 1 - f) (last + 1 + 1 - f) (by omega) (fun n h1 h2 => hs n (by omega))
end Go.Proofs.Ytcjlgdldhcbcjaa
