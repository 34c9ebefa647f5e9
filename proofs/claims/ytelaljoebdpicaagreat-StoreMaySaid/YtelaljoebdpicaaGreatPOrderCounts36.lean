/- Part 36 of what the proof of OrderCounts rests on. No condition. -/
import Derived.Test.YtelaljoebdpicaaGreatPOrderCounts35
namespace Go.Proofs.YtelaljoebdpicaaGreat
set_option maxRecDepth 100000
set_option maxHeartbeats 60000000
set_option linter.unusedVariables false
set_option linter.unusedSimpArgs false
set_option linter.unusedSectionVars false
namespace Ev
open Go Go.RowKit Go.Maps
def dps (ops : Array Oper) (i : Nat) : List Nat := ((ops[i]?).map fun o => (o.after.toList.filter (Region.binds .any)).map (·.on)).getD []
theorem dps_mem {ops : Array Oper} {i k : Nat} {o : Oper} (ho : ops[i]? = some o) : k ∈ dps ops i ↔ ∃ e ∈ o.after, Region.binds .any e = true /\ e.on = k := by
 unfold dps
 rw [ho]
 simp only [Option.map_some, Option.getD_some, List.mem_map, List.mem_filter, Array.mem_toList_iff]
 exact ⟨fun ⟨e, ⟨h1, h2⟩, h3⟩ => ⟨e, h1, h2, h3⟩, fun ⟨e, h1, h2, h3⟩ => ⟨e, ⟨h1, h2⟩, h3⟩⟩
theorem any_gen {P : Program} {ops : Array Oper} {Q : Exit -> Act -> World -> Prop} (hless : ∀ i, i < ops.size -> ∀ e ∈ dps ops i, e < i) (J : (Nat -> Bool) -> Act -> World -> Prop)
  (hstep : ∀ (S : Nat -> Bool) i o a w, ops[i]? = some o -> J S a w -> S i = false -> (∀ k, k < ops.size -> S k = true -> ∀ e ∈ dps ops k, S e = true) -> (∀ e ∈ dps ops i, S e = true) -> ∀ K : Act -> World -> Prop,
   (∀ a' w', J (fun k => S k || k == i) a' w' -> K a' w') -> if Region.wanted o (yielded ops a.tmps) = true then Oper.wp P o a w K Q else K (a.put o.dst undef) w)
  (hend : ∀ S a w, J S a w -> (∀ i, i < ops.size -> S i = true) -> Q .normal a w) :
  ∀ (m : Nat) (listed : Array Bool) (a : Act) (w : World), listed.size = ops.size -> (∀ i, i < ops.size -> listed.getD i true = true -> ∀ e ∈ dps ops i, listed.getD e true = true) ->
   (List.range ops.size).countP (fun i => !listed.getD i true) = m -> J (fun i => listed.getD i true) a w -> wpAny P .any ops Q m listed a w := by
 have hready : ∀ (listed : Array Bool) i, listed.size = ops.size -> i < ops.size -> listed.getD i true = false -> (∀ e ∈ dps ops i, listed.getD e true = true) -> i ∈ Region.ready .any ops listed := by
  intro listed i hs hi h1 h2
  obtain ⟨o, ho⟩ : ∃ o, ops[i]? = some o := ⟨_, Array.getElem?_eq_getElem hi⟩
  unfold Region.ready
  rw [List.mem_filter]
  refine ⟨List.mem_range.2 hi, ?_⟩
  rw [h1, ho]
  simp only [Option.map_some, Option.getD_some, Bool.not_false, Bool.true_and, Array.all_eq_true_iff_forall_mem]
  intro e he
  cases hb : Region.binds .any e with
  | false => rfl
  | true =>
   have hm : e.on ∈ dps ops i := (dps_mem ho).2 ⟨e, he, hb, rfl⟩
   have h3 := h2 _ hm
   have h4 := hless i hi _ hm
   rw [Array.getD_eq_getD_getElem?, Array.getElem?_eq_getElem (by omega)] at h3 ⊢
   simpa using h3
 have hready2 : ∀ (listed : Array Bool) i, listed.size = ops.size -> i ∈ Region.ready .any ops listed -> i < ops.size /\ listed.getD i true = false /\ ∀ e ∈ dps ops i, listed.getD e true = true := by
  intro listed i hs hi
  unfold Region.ready at hi
  rw [List.mem_filter] at hi
  obtain ⟨h1, h2⟩ := hi
  have h1 := List.mem_range.1 h1
  obtain ⟨o, ho⟩ : ∃ o, ops[i]? = some o := ⟨_, Array.getElem?_eq_getElem h1⟩
  rw [ho] at h2
  simp only [Option.map_some, Option.getD_some, Bool.and_eq_true, Bool.not_eq_true', Array.all_eq_true_iff_forall_mem] at h2
  refine ⟨h1, h2.1, fun e he => ?_⟩
  have h5 := hless i h1 e he
  obtain ⟨ed, hed, hb, rfl⟩ := (dps_mem ho).1 he
  have h3 := h2.2 ed hed
  rw [hb] at h3
  rw [Array.getD_eq_getD_getElem?, Array.getElem?_eq_getElem (by omega)] at h3 ⊢
  simpa using h3
 intro m
 induction m with
 | zero =>
  intro listed a w hs hcl hm hJ
  rw [List.countP_eq_zero] at hm
  have hall : ∀ i, i < ops.size -> listed.getD i true = true := fun i hi => by simpa using hm i (List.mem_range.2 hi)
  have h0 : Region.ready .any ops listed = [] := by
   cases hr : Region.ready .any ops listed with
   | nil => rfl
   | cons x xs =>
    obtain ⟨g1, g2, _⟩ := hready2 listed x hs (by rw [hr]; exact List.mem_cons_self)
    rw [hall x g1] at g2; cases g2
  exact ⟨h0, hend _ a w hJ hall⟩
 | succ m ih =>
  intro listed a w hs hcl hm hJ
  refine ⟨fun h0 => ?_, fun i hi => ?_⟩
  ·exfalso
   have hex : ∃ i, i < ops.size /\ listed.getD i true = false := by
    have hp : 0 < (List.range ops.size).countP (fun i => !listed.getD i true) := by omega
    obtain ⟨i, h1, h2⟩ := List.countP_pos_iff.1 hp
    exact ⟨i, List.mem_range.1 h1, by simpa using h2⟩
   have hmin : ∀ n i, i <= n -> i < ops.size -> listed.getD i true = false -> False := by
    intro n
    induction n with
    | zero =>
     intro i hi hio hl
     have := hready listed i hs hio hl (fun e he => by have := hless i hio e he; omega)
     rw [h0] at this; cases this
    | succ n ihn =>
     intro i hi hio hl
     have := hready listed i hs hio hl (fun e he => by
      have hlt := hless i hio e he
      cases hle : listed.getD e true with
      | true => rfl
      | false => exact (ihn e (by omega) (by omega) hle).elim)
     rw [h0] at this; cases this
   obtain ⟨i, h1, h2⟩ := hex
   exact hmin i i (Nat.le_refl _) h1 h2
  ·obtain ⟨h1, h2, h3⟩ := hready2 listed i hs hi
   obtain ⟨o, ho⟩ : ∃ o, ops[i]? = some o := ⟨_, Array.getElem?_eq_getElem h1⟩
   refine wpOp_step ho (fun K hK => ?_)
   have hget : ∀ j, j ≠ i -> (listed.setIfInBounds i true).getD j true = listed.getD j true := fun j hj => by
    rw [Array.getD_eq_getD_getElem?, Array.getD_eq_getD_getElem?, Array.getElem?_setIfInBounds_ne (fun e => hj e.symm)]
   have hgeti : (listed.setIfInBounds i true).getD i true = true := by
    rw [Array.getD_eq_getD_getElem?, Array.getElem?_setIfInBounds]; simp [hs, h1]
   have hfun : (fun k => listed.getD k true || k == i) = fun k => (listed.setIfInBounds i true).getD k true := by
    funext k
    by_cases e : k = i
    ·subst e; rw [hgeti]; simp
    ·rw [hget k e]; simp [e]
   refine hstep _ i o a w ho hJ h2 hcl h3 K (fun a' w' hJ' => hK _ _ ?_)
   refine ih (listed.setIfInBounds i true) _ w' (by simpa using hs) ?_ ?_ (by rw [<- hfun]; exact hJ')
   ·intro j hj hlj e he
    by_cases hji : j = i
    ·subst hji
     have hne : e ≠ j := fun e2 => by have := hless j hj e he; omega
     rw [hget e hne]; exact h3 e he
    ·rw [hget j hji] at hlj
     by_cases hei : e = i
     ·subst hei; exact hgeti
     ·rw [hget e hei]; exact hcl j hj hlj e he
   ·have hc : (List.range ops.size).countP (fun k => !listed.getD k true) = (List.range ops.size).countP (fun k => !(listed.setIfInBounds i true).getD k true) + 1 := by
     have : ∀ (l : List Nat), l.Nodup -> i ∈ l -> l.countP (fun k => !listed.getD k true) = l.countP (fun k => !(listed.setIfInBounds i true).getD k true) + 1 := by
      intro l hn hil
      induction l with
      | nil => cases hil
      | cons x r ihl =>
       rw [List.nodup_cons] at hn
       rw [List.countP_cons, List.countP_cons]
       by_cases hx : x = i
       ·subst hx
        rw [h2, hgeti]
        have : r.countP (fun k => !listed.getD k true) = r.countP (fun k => !(listed.setIfInBounds x true).getD k true) := List.countP_congr (fun k hk => by
         have hne : k ≠ x := fun e => hn.1 (by subst e; exact hk)
         rw [hget k hne])
        rw [this]; simp
       ·rw [hget x hx]
        have := ihl hn.2 ((List.mem_cons.1 hil).resolve_left (fun e => hx e.symm))
        omega
     exact this _ List.nodup_range (List.mem_range.2 h1)
    omega
def cmb {α : Type} (aff : Nat -> Nat -> Bool) (f : Nat -> Nat -> α) (S : Nat -> Bool) : Nat -> Nat -> α
 | 0, x => f 0 x
 | k + 1, x => if S k && aff k x then f (k + 1) x else cmb aff f S k x
theorem cmb_low {α : Type} {aff : Nat -> Nat -> Bool} {f : Nat -> Nat -> α} {S : Nat -> Bool} {x : Nat} : ∀ {i : Nat}, (∀ k, k < i -> aff k x = false -> f (k + 1) x = f k x) -> (∀ k, k < i -> aff k x = true -> S k = true) -> cmb aff f S i x = f i x
 | 0, _, _ => rfl
 | i + 1, hn, hS => by
  rw [cmb]
  have ih := cmb_low (fun k hk => hn k (Nat.lt_succ_of_lt hk)) (fun k hk => hS k (Nat.lt_succ_of_lt hk))
  cases h : aff i x with
  | true => rw [hS i (Nat.lt_succ_self i) h]; rfl
  | false => rw [Bool.and_false, if_neg (by simp), ih, hn i (Nat.lt_succ_self i) h]
theorem cmb_high {α : Type} {aff : Nat -> Nat -> Bool} {f : Nat -> Nat -> α} {S : Nat -> Bool} {x i : Nat} : ∀ {m : Nat}, i <= m -> (∀ k, i <= k -> k < m -> aff k x = true -> S k = false) -> cmb aff f S m x = cmb aff f S i x
 | 0, h, _ => by rw [Nat.le_zero.1 h]
 | m + 1, h, hS => by
  by_cases e : i = m + 1
  ·rw [e]
  ·rw [cmb]
   have hm : i <= m := by omega
   rw [if_neg, cmb_high hm (fun k h1 h2 => hS k h1 (Nat.lt_succ_of_lt h2))]
   cases ha : aff m x with
   | true => rw [hS m hm (Nat.lt_succ_self m) ha]; simp
   | false => simp
theorem cmb_eq {α : Type} {aff : Nat -> Nat -> Bool} {f : Nat -> Nat -> α} {S : Nat -> Bool} {x i m : Nat} (him : i <= m) (hn : ∀ k, k < m -> aff k x = false -> f (k + 1) x = f k x) (hlo : ∀ k, k < i -> aff k x = true -> S k = true) (hhi : ∀ k, i <= k -> k < m -> aff k x = true -> S k = false) : cmb aff f S m x = f i x := by
 rw [cmb_high him hhi, cmb_low (fun k hk => hn k (Nat.lt_of_lt_of_le hk him)) hlo]
theorem cmb_other {α : Type} {aff : Nat -> Nat -> Bool} {f : Nat -> Nat -> α} {S : Nat -> Bool} {x i : Nat} (hi : aff i x = false) : ∀ m, cmb aff f (fun k => S k || k == i) m x = cmb aff f S m x
 | 0 => rfl
 | m + 1 => by
  rw [cmb, cmb, cmb_other hi m]
  by_cases e : m = i
  ·subst e; rw [hi]; simp
  ·simp [e]
structure OutP (σ : Nat -> Blk) (D : Nat -> Prop) (w : World) (h h' : Heap) (N W : Nat -> Prop) (σ' : Nat -> Blk) (w' : World) : Prop where
 same : ∀ i, ¬ N i -> σ' i = σ i
 sat : Sat σ' (fun i => D i ∨ N i) h' w'
 tch : Tch (fun k => ∃ i, W i /\ (h i).isSome = true /\ k = (σ i).b) w w'
 old : ∀ i, ¬ N i -> (h' i).isSome = true -> (h i).isSome = true
 new : ∀ i, N i -> (h' i).isSome = true -> w.heap.size <= (σ' i).b ∨ ∃ j, W j /\ (h j).isSome = true /\ h' j = none /\ (σ' i).b = (σ j).b
theorem Out.toP {σ σ' : Nat -> Blk} {D : Nat -> Prop} {w w' : World} {h h' : Heap} {n n' : Nat} {W : Nat -> Bool} (a : Out σ D w h h' n n' W σ' w') : OutP σ D w h h' (fun i => n <= i /\ i < n') (fun i => W i = true) σ' w' :=
 ⟨a.same, a.sat, a.tch, a.old, fun i ⟨h1, h2⟩ hh => a.new i h1 h2 hh⟩
theorem OutP.trans {σ σ1 σ2 : Nat -> Blk} {D : Nat -> Prop} {w w1 w2 : World} {h h1 h2 : Heap} {N1 N2 W1 W2 : Nat -> Prop} (hs : Sat σ D h w) (hD : ∀ i, N1 i ∨ N2 i -> ¬ D i)
  (a : OutP σ D w h h1 N1 W1 σ1 w1) (b : OutP σ1 (fun i => D i ∨ N1 i) w1 h1 h2 N2 W2 σ2 w2) (hdis : ∀ i, N1 i -> ¬ N2 i) : OutP σ D w h h2 (fun i => N1 i ∨ N2 i) (fun i => W1 i ∨ W2 i) σ2 w2 := by
 have hne : ∀ i, (h i).isSome = true -> ¬ (N1 i ∨ N2 i) := fun i hh q => by
  obtain ⟨o, ho⟩ := Option.isSome_iff_exists.1 hh
  exact hD i q (hs.obj i o ho).1
 have dead : ∀ j, (h j).isSome = true -> h1 j = none -> h2 j = none := fun j hj e => by
  cases e2 : h2 j with
  | none => rfl
  | some x =>
   have := b.old j (fun q => hne j hj (.inr q)) (some_of e2)
   rw [e] at this; cases this
 have place : ∀ j, (h1 j).isSome = true -> (w.heap.size <= (σ1 j).b) ∨ (∃ i, W1 i /\ (h i).isSome = true /\ h1 i = none /\ (σ1 j).b = (σ i).b) ∨ (¬ N1 j /\ (h j).isSome = true /\ σ1 j = σ j) := fun j hj => by
  by_cases c : N1 j
  ·rcases a.new j c hj with g | ⟨i, g1, g2, g3, g4⟩
   ·exact .inl g
   ·exact .inr (.inl ⟨i, g1, g2, g3, g4⟩)
  ·exact .inr (.inr ⟨c, a.old j c hj, a.same j c⟩)
 refine ⟨fun i hi => ?_, ?_, ?_, fun i hi hh => ?_, fun i hi hh => ?_⟩
 ·rw [b.same i (fun q => hi (.inr q)), a.same i (fun q => hi (.inl q))]
 ·have := b.sat
  have e : (fun i => (D i ∨ N1 i) ∨ N2 i) = fun i => D i ∨ N1 i ∨ N2 i := by funext i; exact propext or_assoc
  rwa [e] at this
 ·refine (a.tch.mono (G := fun k => ∃ i, (W1 i ∨ W2 i) /\ (h i).isSome = true /\ k = (σ i).b) (fun k _ ⟨i, g1, g2, g3⟩ => ⟨i, .inl g1, g2, g3⟩)).trans b.tch (fun k hk ⟨i, g1, g2, g3⟩ => ?_)
  rcases place i g2 with c | ⟨j, c1, c2, c3, c4⟩ | ⟨c1, c2, c3⟩
  ·omega
  ·exact ⟨j, .inl c1, c2, by rw [g3, c4]⟩
  ·exact ⟨i, .inr g1, c2, by rw [g3, c3]⟩
 ·exact a.old i (fun q => hi (.inl q)) (b.old i (fun q => hi (.inr q)) hh)
 ·by_cases c : N2 i
  ·rcases b.new i c hh with g | ⟨j, g1, g2, g3, g4⟩
   ·exact .inl (Nat.le_trans a.tch.size g)
   ·rcases place j g2 with c | ⟨j', c1, c2, c3, c4⟩ | ⟨c1, c2, c3⟩
    ·exact .inl (by rw [g4]; exact c)
    ·exact .inr ⟨j', .inl c1, c2, dead j' c2 c3, by rw [g4, c4]⟩
    ·exact .inr ⟨j, .inr g1, c2, g3, by rw [g4, c3]⟩
  ·have hn1 : N1 i := hi.resolve_right c
   rcases a.new i hn1 (b.old i c hh) with g | ⟨j, g1, g2, g3, g4⟩
   ·exact .inl (by rw [b.same i c]; exact g)
   ·exact .inr ⟨j, .inl g1, g2, dead j g2 g3, by rw [b.same i c]; exact g4⟩
end Ev
end Go.Proofs.YtelaljoebdpicaaGreat
