/- Part 8 of what the proof of OrderHolds rests on. No condition. -/
import Derived.Test.YtelaljoebdpicaaGreatPOrderHolds07
namespace Go.Proofs.YtelaljoebdpicaaGreat
set_option maxRecDepth 100000
set_option maxHeartbeats 60000000
set_option linter.unusedVariables false
set_option linter.unusedSimpArgs false
set_option linter.unusedSectionVars false
section
open Go.RowKit Go.Maps
theorem flat_take {α : Type} {enc : α -> List Value} {m : Nat} (he : ∀ x, (enc x).length = m) : ∀ (l : List α) (k : Nat), (l.flatMap enc).take (k * m) = (l.take k).flatMap enc
 | [], k => by simp
 | a :: r, 0 => by simp
 | a :: r, k + 1 => by
  have e : (k + 1) * m = (enc a).length + k * m := by rw [he, Nat.succ_mul]; omega
  rw [List.flatMap_cons, List.take_succ_cons, List.flatMap_cons, e, List.take_length_add_append, flat_take he r k]
def IsL {α : Type} (enc : α -> List Value) (m : Nat) (w : World) (v : Value) (l : List α) : Prop := CellsAt w v l.length m (l.flatMap enc)
theorem IsL.keep {α : Type} {enc : α -> List Value} {m : Nat} {w w' : World} {v : Value} {l : List α} (h : IsL enc m w v l) (t : Tch No w w') : IsL enc m w' v l := CellsAt.keep h t
def encPr {α : Type} (f : α -> Int) (p : α × Value) : List Value := [.int .i64 (f p.1), p.2]
theorem zip_flat {α : Type} (f : α -> Int) : ∀ (l : List α) (vs : List Value), vs.length = l.length -> ((l.map f).zip vs).flatMap encTid = (l.zip vs).flatMap (encPr f)
 | [], _, _ => by simp
 | a :: r, [], h => by simp at h
 | a :: r, v :: vs, h => by
  rw [List.map_cons, List.zip_cons_cons, List.zip_cons_cons, List.flatMap_cons, List.flatMap_cons, zip_flat f r vs (by simpa using h)]
  rfl
theorem zip_unzip {α β : Type} : ∀ (l : List (α × β)), l = (l.map Prod.fst).zip (l.map Prod.snd)
 | [] => rfl
 | a :: r => by rw [List.map_cons, List.map_cons, List.zip_cons_cons, <- zip_unzip r]
theorem pends_pairs {w : World} {v : Value} {l : List PendM} : IsPends w v l ↔ ∃ prs : List (PendM × Value), prs.map Prod.fst = l /\ IsL (encPr (·.tid)) 2 w v prs /\ ∀ p ∈ prs, IsInts w p.2 p.1.parts := by
 constructor
 ·rintro ⟨vs, h1, h2, h3⟩
  have hz : (l.zip vs).length = l.length := by rw [List.length_zip, h1, Nat.min_self]
  refine ⟨l.zip vs, List.map_fst_zip (by omega), ?_, fun p hp => ?_⟩
  ·unfold IsL
   rw [hz, <- zip_flat _ l vs h1]
   exact h2
  ·obtain ⟨i, hi, rfl⟩ := List.getElem_of_mem hp
   rw [List.getElem_zip]
   exact h3 i (by omega) (by omega)
 ·rintro ⟨prs, rfl, h2, h3⟩
  refine ⟨prs.map Prod.snd, by simp, ?_, fun i h h' => ?_⟩
  ·have e := zip_unzip prs
   rw [zip_flat _ _ _ (by simp), List.length_map]
   rw [<- e]
   exact h2
  ·rw [List.getElem_map, List.getElem_map]
   exact h3 _ (List.getElem_mem _)
theorem brs_pairs {w : World} {v : Value} {l : List BrM} : IsBrs w v l ↔ ∃ prs : List (BrM × Value), prs.map Prod.fst = l /\ IsL (encPr (·.tid)) 2 w v prs /\ ∀ p ∈ prs, IsPuts w p.2 p.1.puts := by
 constructor
 ·rintro ⟨vs, h1, h2, h3⟩
  have hz : (l.zip vs).length = l.length := by rw [List.length_zip, h1, Nat.min_self]
  refine ⟨l.zip vs, List.map_fst_zip (by omega), ?_, fun p hp => ?_⟩
  ·unfold IsL
   rw [hz, <- zip_flat _ l vs h1]
   exact h2
  ·obtain ⟨i, hi, rfl⟩ := List.getElem_of_mem hp
   rw [List.getElem_zip]
   exact h3 i (by omega) (by omega)
 ·rintro ⟨prs, rfl, h2, h3⟩
  refine ⟨prs.map Prod.snd, by simp, ?_, fun i h h' => ?_⟩
  ·have e := zip_unzip prs
   rw [zip_flat _ _ _ (by simp), List.length_map]
   rw [<- e]
   exact h2
  ·rw [List.getElem_map, List.getElem_map]
   exact h3 _ (List.getElem_mem _)
theorem ones_pr {α : Type} {f : α -> Int} {l : List (α × Value)} (h : ∀ p ∈ l, p.2.oneCell' = true) : Ones (l.flatMap (encPr f)) := fun u hu => by
 obtain ⟨x, hx, hu⟩ := List.mem_flatMap.1 hu
 simp only [encPr, List.mem_cons, List.not_mem_nil, or_false] at hu
 rcases hu with rfl | rfl
 ·rfl
 ·exact h x hx
end
end Go.Proofs.YtelaljoebdpicaaGreat
