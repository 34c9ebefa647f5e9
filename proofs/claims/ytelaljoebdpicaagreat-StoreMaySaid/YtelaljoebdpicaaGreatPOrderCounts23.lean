/- Part 23 of what the proof of OrderCounts rests on. No condition. -/
import Derived.Test.YtelaljoebdpicaaGreatPOrderCounts22
namespace Go.Proofs.YtelaljoebdpicaaGreat
set_option maxRecDepth 100000
set_option maxHeartbeats 60000000
set_option linter.unusedVariables false
set_option linter.unusedSimpArgs false
set_option linter.unusedSectionVars false
section
open Go.RowKit Go.Maps
theorem pur_p {P : Value -> Prop} : Pur (fun x _ => P x) := fun x _ _ h => h
theorem flat_set {α : Type} (enc : α -> List Value) (m : Nat) (he : ∀ x, (enc x).length = m) : ∀ (l : List α) (i k : Nat) (u : Value) (x' : α) (hi : i < l.length), k < m -> enc x' = (enc l[i]).set k u -> (l.flatMap enc).set (i * m + k) u = (l.set i x').flatMap enc
 | a :: r, 0, k, u, x', _, hk, e => by
  rw [List.flatMap_cons, List.set_cons_zero, List.flatMap_cons, Nat.zero_mul, Nat.zero_add, List.set_append_left _ _ (by rw [he]; exact hk)]
  rw [e]; rfl
 | a :: r, i + 1, k, u, x', hi, hk, e => by
  have e1 : (i + 1) * m + k = (enc a).length + (i * m + k) := by rw [he, Nat.succ_mul]; omega
  rw [List.flatMap_cons, List.set_cons_succ, List.flatMap_cons, e1, List.set_append_right _ _ (by omega), Nat.add_sub_cancel_left]
  rw [flat_set enc m he r i k u x' (by simpa using hi) hk (by simpa using e)]
theorem own_set {w1 W : World} {e : TypeId} {m n c j g : Nat} {cs : List Value} {u : Value} (h : OwnN w1 e m n cs (.slice (some ⟨g, 0, none⟩) n c) W) (hj : j < n * m) : OwnN w1 e m n (cs.set j u) (.slice (some ⟨g, 0, none⟩) n c) (W.setCell ⟨g, j, none⟩ u) := by
 obtain ⟨g', cur, e0, h1, h2, h3, h4, h5, h6⟩ := own_get h.1
 injection e0 with e0 _
 subst e0
 refine ⟨own_mk (by rw [List.length_set]; exact h5) (blk_set h1 j u) h2 h3 (by rw [Array.size_setIfInBounds]; exact h4) (fun t ht => ?_), h.2⟩
 have hs : n * m <= cur.size := by rw [h4]; exact Nat.mul_le_mul_right _ h2
 rw [Array.getElem?_setIfInBounds, List.getElem?_set]
 by_cases hjt : j = t
 ·subst hjt
  rw [if_pos rfl, if_pos rfl, if_pos (by omega), if_pos (by omega)]
 ·rw [if_neg hjt, if_neg hjt]; exact h6 t ht
theorem own_take {w1 W : World} {e : TypeId} {m n c k : Nat} {a : Option Addr} {cs : List Value} (h : OwnN w1 e m n cs (.slice a n c) W) (hk : k <= n) : OwnN w1 e m k (cs.take (k * m)) (.slice a k c) W := by
 have hl : k * m <= n * m := Nat.mul_le_mul_right _ hk
 refine ⟨?_, fun b hb => h.2 b (by cases a with | none => simp [Value.ownBlock] at hb | some a => simpa [Value.ownBlock] using hb)⟩
 cases a with
 | none =>
  rcases h.1.2 with ⟨h1, h2⟩ | ⟨g, cap, cur, h1, _⟩
  ·injection h1 with _ _ h1
   have : k = 0 := by omega
   subst this; subst h1
   refine ⟨by simp, .inl ⟨rfl, rfl⟩⟩
  ·cases h1
 | some a =>
  obtain ⟨g, cur, rfl, h1, h2, h3, h4, h5, h6⟩ := own_get h.1
  refine own_mk (by rw [List.length_take]; omega) h1 (by omega) h3 h4 (fun t ht => ?_)
  rw [List.getElem?_take, if_pos ht]
  exact h6 t (by omega)
def RowI {α : Type} (enc : α -> List Value) (ok : Nat -> α -> Prop) (e : TypeId) (m n : Nat) (w1 : World) (v : Value) (W : World) : Prop :=
 ∃ l : List α, l.length = n /\ OwnN w1 e m n (l.flatMap enc) v W /\ ∀ i (h : i < l.length), ok i l[i]
theorem RowI.mono {α : Type} {enc : α -> List Value} {ok ok' : Nat -> α -> Prop} {e : TypeId} {m n : Nat} {w1 W : World} {v : Value} (h : RowI enc ok e m n w1 v W) (hk : ∀ i x, i < n -> ok i x -> ok' i x) : RowI enc ok' e m n w1 v W := by
 obtain ⟨l, h1, h2, h3⟩ := h
 exact ⟨l, h1, h2, fun i hi => hk i _ (by omega) (h3 i hi)⟩
theorem RowI.tch {α : Type} {enc : α -> List Value} {ok : Nat -> α -> Prop} {e : TypeId} {m n : Nat} {w1 W W' : World} {v : Value} {F : Nat -> Prop} (h : RowI enc ok e m n w1 v W) (t : Tch F W W') (hF : ∀ k, v.ownBlock = some k -> ¬ F k) : RowI enc ok e m n w1 v W' := by
 obtain ⟨l, h1, h2, h3⟩ := h
 exact ⟨l, h1, ⟨own_tch h2.1 t hF, h2.2⟩, h3⟩
theorem RowI.keep {α : Type} {enc : α -> List Value} {ok : Nat -> α -> Prop} {e : TypeId} {m n : Nat} {w1 W W' : World} {v : Value} (h : RowI enc ok e m n w1 v W) (t : Tch No W W') : RowI enc ok e m n w1 v W' := h.tch t (fun _ _ e => e)
theorem RowI.cut {α : Type} {enc : α -> List Value} {ok : Nat -> α -> Prop} {e : TypeId} {m n k c : Nat} {a : Option Addr} {w1 W : World} (h : RowI enc ok e m n w1 (.slice a n c) W) (he : ∀ x, (enc x).length = m) (hk : k <= n) : RowI enc ok e m k w1 (.slice a k c) W := by
 obtain ⟨l, h1, h2, h3⟩ := h
 refine ⟨l.take k, by rw [List.length_take]; omega, ?_, fun i hi => ?_⟩
 ·rw [<- flat_take he]; exact own_take h2 hk
 ·rw [List.getElem_take]; exact h3 i (by rw [List.length_take] at hi; omega)
theorem RowI.elem {α : Type} {enc : α -> List Value} {ok : Nat -> α -> Prop} {e : TypeId} {m n c i : Nat} {a : Option Addr} {w1 W : World} (h : RowI enc ok e m n w1 (.slice a n c) W) (he : ∀ x, (enc x).length = m) (hi : i < n) :
  ∃ g x, a = some ⟨g, 0, none⟩ /\ ok i x /\ w1.heap.size <= g /\ g < W.heap.size /\ (∀ k, k < m -> W.cell? ⟨g, i * m + k, none⟩ = (enc x)[k]?) /\ ∀ j, W.frozen? ⟨g, j, none⟩ = false := by
 obtain ⟨l, h1, h2, h3⟩ := h
 cases a with
 | none =>
  rcases h2.1.2 with ⟨_, h0⟩ | ⟨g, cap, cur, h1, _⟩
  ·omega
  ·cases h1
 | some a =>
  obtain ⟨g, cur, rfl, g1, g2, g3, g4, g5, g6⟩ := own_get h2.1
  refine ⟨g, l[i], rfl, h3 i (by omega), h2.2 g rfl, blk_lt g1, fun k hk => ?_, fun j => blk_free g1 j⟩
  have : i * m + k < n * m := by
   have : (i + 1) * m <= n * m := Nat.mul_le_mul_right _ hi
   rw [Nat.succ_mul] at this; omega
  rw [blk_cell g1, g6 _ this, flat_get enc m he l i k (by omega) hk]
theorem RowI.set {α : Type} {enc : α -> List Value} {ok ok' : Nat -> α -> Prop} {e : TypeId} {m n c i k g : Nat} {w1 W : World} {u : Value} (h : RowI enc ok e m n w1 (.slice (some ⟨g, 0, none⟩) n c) W) (he : ∀ x, (enc x).length = m) (hi : i < n) (hk : k < m)
  (f : α -> α) (hf : ∀ x, enc (f x) = (enc x).set k u) (h1 : ∀ x, ok i x -> ok' i (f x)) (h2 : ∀ j x, j ≠ i -> ok j x -> ok' j x) : RowI enc ok' e m n w1 (.slice (some ⟨g, 0, none⟩) n c) (W.setCell ⟨g, i * m + k, none⟩ u) := by
 obtain ⟨l, q1, q2, q3⟩ := h
 have hj : i * m + k < n * m := by
  have : (i + 1) * m <= n * m := Nat.mul_le_mul_right _ hi
  rw [Nat.succ_mul] at this; omega
 refine ⟨l.set i (f (l[i]'(by omega))), by simpa using q1, ?_, fun j hj2 => ?_⟩
 ·rw [<- flat_set enc m he l i k u _ (by omega) hk (hf _)]
  exact own_set q2 hj
 ·rw [List.getElem_set]
  split
  ·rename_i hij
   subst hij
   exact h1 _ (q3 _ _)
  ·rename_i hij
   exact h2 _ _ (fun e => hij e.symm) (q3 _ _)
theorem RowI.len {α : Type} {enc : α -> List Value} {ok : Nat -> α -> Prop} {e : TypeId} {m n : Nat} {w1 W : World} {v : Value} (h : RowI enc ok e m n w1 v W) : ∃ a c, v = .slice a n c /\ n <= c /\ c <= maxLen := by
 obtain ⟨l, q1, q2, q3⟩ := h
 exact own_shape q2.1
theorem RowI.lens {α : Type} {enc : α -> List Value} {ok : Nat -> α -> Prop} {e : TypeId} {m n c : Nat} {a : Option Addr} {w1 W : World} (h : RowI enc ok e m n w1 (.slice a n c) W) : n <= c /\ c <= maxLen := by
 obtain ⟨a', c', e1, h1, h2⟩ := h.len
 injection e1 with _ e2 e3
 first | (subst e3; exact ⟨h1, h2⟩) | (subst e2; exact ⟨h1, h2⟩)
def TxlV (n : Nat) (x : Value) : Prop := ∃ q : Txt, x = strV q /\ q.length <= n
def TxaV (x : Value) : Prop := ∃ q : Txt, x = strV q /\ TxtL q
end
end Go.Proofs.YtelaljoebdpicaaGreat
