/- Part 27 of what the proof of OrderCounts rests on. No condition. -/
import Derived.Test.YtelaljoebdpicaaGreatPOrderCounts26
namespace Go.Proofs.YtelaljoebdpicaaGreat
set_option maxRecDepth 100000
set_option maxHeartbeats 60000000
set_option linter.unusedVariables false
set_option linter.unusedSimpArgs false
set_option linter.unusedSectionVars false
namespace Ev
open Go Go.RowKit Go.Maps
inductive Ef
 | no (F : Nat) | new (F : Nat) (o : AO) | set (F i : Nat) (o : AO) | mv (F i : Nat) (o : AO)
def tb (m : Nat) : Nat -> Bool := fun i => m.testBit i
def Ef.F : Ef -> Nat | .no F => F | .new F _ => F | .set F _ _ => F | .mv F _ _ => F
def Ef.W : Ef -> Nat -> Bool | .no _, _ => false | .new _ _, _ => false | .set _ i _, j => j == i | .mv _ i _, j => j == i
def Ef.n' (n : Nat) : Ef -> Nat | .no _ => n | .new _ _ => n + 1 | .set _ _ _ => n | .mv _ _ _ => n + 1
def Ef.ap (n : Nat) (H : Heap) : Ef -> Heap
 | .no _ => H
 | .new _ o => fun j => if j = n then some o else H j
 | .set _ i o => fun j => if j = i then some o else H j
 | .mv _ i o => fun j => if j = n then some o else if j = i then none else H j
def aft (F : Nat -> Bool) (n n' : Nat) (g : Heap) : Heap := fun j => if F j = true ∨ (n <= j /\ j < n') then g j else none
theorem aft_some {F : Nat -> Bool} {n n' : Nat} {g : Heap} {i : Nat} {x : AO} : aft F n n' g i = some x ↔ (F i = true ∨ (n <= i /\ i < n')) /\ g i = some x := by
 unfold aft; split
 ·rename_i h; exact ⟨fun e => ⟨h, e⟩, fun e => e.2⟩
 ·rename_i h; exact ⟨fun e => (by cases e), fun e => absurd e.1 h⟩
theorem rst_some {F : Nat -> Bool} {g : Heap} {i : Nat} {x : AO} : rst F g i = some x ↔ F i = true /\ g i = some x := by
 unfold rst; split
 ·rename_i h; exact ⟨fun e => ⟨h, e⟩, fun e => e.2⟩
 ·rename_i h; exact ⟨fun e => (by cases e), fun e => absurd e.1 h⟩
theorem some_of {a : Option AO} {x : AO} (h : a = some x) : a.isSome = true := by rw [h]; rfl
structure Did (P : Program) (ρ : Operand -> Value) (o : Oper) (σ : Nat -> Blk) (D : Nat -> Prop) (w : World) (H : Heap) (n : Nat) (s : S) (e : Ef) (nx : Next) (v : Value) (σ' : Nat -> Blk) (w' : World) : Prop where
 run : (execOp ρ o).run P w = .ok nx w'
 nx : nx = .value v ∨ (nx = .skip /\ v = undef)
 val : RS σ' (more D n (e.n' n)) s v
 out : Out σ D w (rst (tb e.F) H) (aft (tb e.F) n (e.n' n) (e.ap n H)) n (e.n' n) e.W σ' w'
def at_ (σ : Nat -> Blk) (n : Nat) (k : Blk) : Nat -> Blk := fun i => if i = n then k else σ i
theorem at_same {σ : Nat -> Blk} {n : Nat} {k : Blk} : at_ σ n k n = k := if_pos rfl
theorem at_other {σ : Nat -> Blk} {n i : Nat} {k : Blk} (h : i ≠ n) : at_ σ n k i = σ i := if_neg h
section
variable {P : Program} {ρ : Operand -> Value} {o : Oper} {σ : Nat -> Blk} {D : Nat -> Prop} {w : World} {H : Heap} {n : Nat}
theorem did_no {F : Nat} {s : S} {v : Value} {nx : Next} (hs : Sat σ D (rst (tb F) H) w) (hr : (execOp ρ o).run P w = .ok nx w) (hn : nx = .value v ∨ (nx = .skip /\ v = undef)) (hv : RS σ D s v) :
  Did P ρ o σ D w H n s (.no F) nx v σ w := by
 have key : ∀ i x, aft (tb F) n n H i = some x -> rst (tb F) H i = some x := fun i x e => by
  obtain ⟨h1, h2⟩ := aft_some.1 e
  exact rst_some.2 ⟨h1.resolve_right (by omega), h2⟩
 refine ⟨hr, hn, hv.ext (fun _ _ => rfl) (fun _ h => .inl h), ⟨fun _ _ => rfl, ⟨fun i ob e => ?_, fun i j hi hj e => ?_⟩, Tch.refl _ _, fun i _ hh => ?_, fun i h1 h2 => ?_⟩⟩
 ·obtain ⟨h1, h2⟩ := hs.obj i ob (key i ob e)
  exact ⟨.inl h1, h2.ext rfl rfl (fun _ _ => rfl) (fun _ h => .inl h)⟩
 ·obtain ⟨x, hx⟩ := Option.isSome_iff_exists.1 hi
  obtain ⟨y, hy⟩ := Option.isSome_iff_exists.1 hj
  exact hs.inj i j (some_of (key i x hx)) (some_of (key j y hy)) e
 ·obtain ⟨x, hx⟩ := Option.isSome_iff_exists.1 hh
  exact some_of (key i x hx)
 ·simp only [Ef.n'] at h2; omega
theorem did_new {F : Nat} {s : S} {v : Value} {w' : World} {nx : Next} {ob : AO} {k : Blk} (hs : Sat σ D (rst (tb F) H) w) (hD : ¬ D n) (hr : (execOp ρ o).run P w = .ok nx w') (hn : nx = .value v ∨ (nx = .skip /\ v = undef))
  (hv : RS (at_ σ n k) (more D n (n + 1)) s v) (ht : Tch No w w') (hk : w.heap.size <= k.b) (ho : ObjAt (at_ σ n k) (more D n (n + 1)) n ob w') : Did P ρ o σ D w H n s (.new F ob) nx v (at_ σ n k) w' := by
 have hsm : ∀ i, D i -> at_ σ n k i = σ i := fun i hi => at_other (fun e => by subst e; exact hD hi)
 have key : ∀ i, i ≠ n -> ∀ x, aft (tb F) n (n + 1) ((Ef.new F ob).ap n H) i = some x -> rst (tb F) H i = some x := fun i hi x e => by
  obtain ⟨h1, h2⟩ := aft_some.1 e
  simp only [Ef.ap, if_neg hi] at h2
  exact rst_some.2 ⟨h1.resolve_right (by omega), h2⟩
 have keyn : aft (tb F) n (n + 1) ((Ef.new F ob).ap n H) n = some ob := aft_some.2 ⟨.inr ⟨Nat.le_refl _, Nat.lt_succ_self _⟩, by simp [Ef.ap]⟩
 refine ⟨hr, hn, hv, ⟨fun i hi => at_other (fun e => hi (by subst e; simp only [Ef.n']; omega)), ⟨fun i x e => ?_, fun i j hi hj e => ?_⟩, ht.mono (fun _ _ h => h.elim), fun i hi hh => ?_, fun i h1 h2 _ => ?_⟩⟩
 ·by_cases c : i = n
  ·subst c
   have e2 := keyn.symm.trans e
   cases e2
   exact ⟨.inr ⟨Nat.le_refl _, Nat.lt_succ_self _⟩, ho⟩
  ·obtain ⟨h1, h2⟩ := hs.obj i x (key i c x e)
   exact ⟨.inl h1, h2.ext (hsm i h1) (ht.block _ h2.lt (fun h => h)) hsm (fun _ h => .inl h)⟩
 ·have f : ∀ i j, i = n -> j ≠ n -> (aft (tb F) n (n + 1) ((Ef.new F ob).ap n H) j).isSome = true -> (at_ σ n k i).b = (at_ σ n k j).b -> False := fun i j hi hj hh e => by
   subst hi
   obtain ⟨x, hx⟩ := Option.isSome_iff_exists.1 hh
   obtain ⟨h1, h2⟩ := hs.obj j x (key j hj x hx)
   rw [at_same, at_other hj] at e
   have := h2.lt; omega
  by_cases ci : i = n
  ·by_cases cj : j = n
   ·rw [ci, cj]
   ·exact (f i j ci cj hj e).elim
  ·by_cases cj : j = n
   ·exact (f j i cj ci hi e.symm).elim
   ·obtain ⟨x, hx⟩ := Option.isSome_iff_exists.1 hi
    obtain ⟨y, hy⟩ := Option.isSome_iff_exists.1 hj
    rw [at_other ci, at_other cj] at e
    exact hs.inj i j (by rw [key i ci x hx]; rfl) (by rw [key j cj y hy]; rfl) e
 ·obtain ⟨x, hx⟩ := Option.isSome_iff_exists.1 hh
  exact some_of (key i (fun e => hi (by subst e; simp only [Ef.n']; omega)) x hx)
 ·obtain rfl : i = n := by simp only [Ef.n'] at h2; omega
  rw [at_same]; exact .inl hk
theorem did_set {F i : Nat} {s : S} {v : Value} {w' : World} {nx : Next} {ob : AO} (hs : Sat σ D (rst (tb F) H) w) (hF : tb F i = true) (hi0 : (H i).isSome = true) (hr : (execOp ρ o).run P w = .ok nx w') (hn : nx = .value v ∨ (nx = .skip /\ v = undef))
  (hv : RS σ D s v) (ht : Tch (fun k => k = (σ i).b) w w') (ho : ObjAt σ D i ob w') : Did P ρ o σ D w H n s (.set F i ob) nx v σ w' := by
 have key : ∀ j, j ≠ i -> ∀ x, aft (tb F) n n ((Ef.set F i ob).ap n H) j = some x -> rst (tb F) H j = some x := fun j hj x e => by
  obtain ⟨h1, h2⟩ := aft_some.1 e
  simp only [Ef.ap, if_neg hj] at h2
  exact rst_some.2 ⟨h1.resolve_right (by omega), h2⟩
 have hgi : (rst (tb F) H i).isSome = true := by unfold rst; rw [if_pos hF]; exact hi0
 have hDi : D i := by
  obtain ⟨x, hx⟩ := Option.isSome_iff_exists.1 hgi
  exact (hs.obj i x hx).1
 have alive : ∀ j, (aft (tb F) n (n) ((Ef.set F i ob).ap n H) j).isSome = true -> (rst (tb F) H j).isSome = true := fun j hh => by
  by_cases c : j = i
  ·rw [c]; exact hgi
  ·obtain ⟨x, hx⟩ := Option.isSome_iff_exists.1 hh
   rw [key j c x hx]; rfl
 refine ⟨hr, hn, hv.ext (fun _ _ => rfl) (fun _ h => .inl h), ⟨fun _ _ => rfl, ⟨fun j x e => ?_, fun j k hj hk e => hs.inj j k (alive j hj) (alive k hk) e⟩, ht.mono (fun k _ h => ⟨i, by simp [Ef.W], hgi, h⟩), fun j _ hh => alive j hh, fun j h1 h2 => by simp only [Ef.n'] at h2; omega⟩⟩
 by_cases c : j = i
 ·subst c
  have e2 := (aft_some.1 e).2
  simp only [Ef.ap, if_true] at e2
  cases e2
  exact ⟨.inl hDi, ho.ext rfl rfl (fun _ _ => rfl) (fun _ h => .inl h)⟩
 ·obtain ⟨h1, h2⟩ := hs.obj j x (key j c x e)
  refine ⟨.inl h1, h2.ext rfl (ht.block _ h2.lt (fun h => c ?_)) (fun _ _ => rfl) (fun _ h => .inl h)⟩
  exact hs.inj j i (by rw [key j c x e]; rfl) hgi h
theorem out_mv {F i : Nat} {w' : World} {ob : AO} {k : Blk} (hs : Sat σ D (rst (tb F) H) w) (hD : ¬ D n) (hF : tb F i = true) (hi0 : (H i).isSome = true)
  (ht : Tch (fun b => b = (σ i).b) w w') (hk : w.heap.size <= k.b ∨ k.b = (σ i).b) (ho : ObjAt (at_ σ n k) (more D n (n + 1)) n ob w') : Out σ D w (rst (tb F) H) (aft (tb F) n (n + 1) ((Ef.mv F i ob).ap n H)) n (n + 1) (Ef.mv F i ob).W (at_ σ n k) w' := by
 have hsm : ∀ i, D i -> at_ σ n k i = σ i := fun i hi => at_other (fun e => by subst e; exact hD hi)
 have hgi : (rst (tb F) H i).isSome = true := by unfold rst; rw [if_pos hF]; exact hi0
 have hDi : D i := by
  obtain ⟨x, hx⟩ := Option.isSome_iff_exists.1 hgi
  exact (hs.obj i x hx).1
 have hin : i ≠ n := fun e => by subst e; exact hD hDi
 have key : ∀ j, j ≠ n -> ∀ x, aft (tb F) n (n + 1) ((Ef.mv F i ob).ap n H) j = some x -> rst (tb F) H j = some x /\ j ≠ i := fun j hj x e => by
  obtain ⟨h1, h2⟩ := aft_some.1 e
  simp only [Ef.ap, if_neg hj] at h2
  by_cases c : j = i
  ·rw [if_pos c] at h2; cases h2
  ·rw [if_neg c] at h2
   exact ⟨rst_some.2 ⟨h1.resolve_right (by omega), h2⟩, c⟩
 have keyn : aft (tb F) n (n + 1) ((Ef.mv F i ob).ap n H) n = some ob := aft_some.2 ⟨.inr ⟨Nat.le_refl _, Nat.lt_succ_self _⟩, by simp [Ef.ap]⟩
 have keyi : aft (tb F) n (n + 1) ((Ef.mv F i ob).ap n H) i = none := by
  cases e : aft (tb F) n (n + 1) ((Ef.mv F i ob).ap n H) i with
  | none => rfl
  | some x =>
   obtain ⟨_, h2⟩ := aft_some.1 e
   simp [Ef.ap, hin] at h2
 refine ⟨fun j hj => at_other (fun e => hj (by subst e; omega)), ⟨fun j x e => ?_, fun j l hj hl e => ?_⟩, ht.mono (fun b _ h => ⟨i, by simp [Ef.W], hgi, h⟩), fun j hj hh => ?_, fun j h1 h2 _ => ?_⟩
 ·by_cases c : j = n
  ·subst c
   have e2 := keyn.symm.trans e
   cases e2
   exact ⟨.inr ⟨Nat.le_refl _, Nat.lt_succ_self _⟩, ho⟩
  ·obtain ⟨g1, g2⟩ := key j c x e
   obtain ⟨h1, h2⟩ := hs.obj j x g1
   refine ⟨.inl h1, h2.ext (hsm j h1) (ht.block _ h2.lt (fun h => g2 ?_)) hsm (fun _ h => .inl h)⟩
   exact hs.inj j i (by rw [g1]; rfl) hgi h
 ·have f : ∀ a b, a = n -> b ≠ n -> (aft (tb F) n (n + 1) ((Ef.mv F i ob).ap n H) b).isSome = true -> (at_ σ n k a).b = (at_ σ n k b).b -> False := fun a b ha hb hh e => by
   subst ha
   obtain ⟨x, hx⟩ := Option.isSome_iff_exists.1 hh
   obtain ⟨g1, g2⟩ := key b hb x hx
   obtain ⟨h1, h2⟩ := hs.obj b x g1
   rw [at_same, at_other hb] at e
   rcases hk with hk | hk
   ·have := h2.lt; omega
   ·exact g2 (hs.inj b i (by rw [g1]; rfl) hgi (by rw [<- e, hk]))
  by_cases ci : j = n
  ·by_cases cj : l = n
   ·rw [ci, cj]
   ·exact (f j l ci cj hl e).elim
  ·by_cases cj : l = n
   ·exact (f l j cj ci hj e.symm).elim
   ·obtain ⟨x, hx⟩ := Option.isSome_iff_exists.1 hj
    obtain ⟨y, hy⟩ := Option.isSome_iff_exists.1 hl
    rw [at_other ci, at_other cj] at e
    exact hs.inj j l (by rw [(key j ci x hx).1]; rfl) (by rw [(key l cj y hy).1]; rfl) e
 ·obtain ⟨x, hx⟩ := Option.isSome_iff_exists.1 hh
  exact some_of (key j (fun e => hj (by subst e; omega)) x hx).1
 ·obtain rfl : j = n := by omega
  rw [at_same]
  rcases hk with hk | hk
  ·exact .inl hk
  ·exact .inr ⟨i, by simp [Ef.W], hgi, keyi, hk⟩
theorem did_mv {F i : Nat} {s : S} {v : Value} {w' : World} {nx : Next} {ob : AO} {k : Blk} (hs : Sat σ D (rst (tb F) H) w) (hD : ¬ D n) (hF : tb F i = true) (hi0 : (H i).isSome = true) (hr : (execOp ρ o).run P w = .ok nx w') (hn : nx = .value v ∨ (nx = .skip /\ v = undef))
  (hv : RS (at_ σ n k) (more D n (n + 1)) s v) (ht : Tch (fun b => b = (σ i).b) w w') (hk : w.heap.size <= k.b ∨ k.b = (σ i).b) (ho : ObjAt (at_ σ n k) (more D n (n + 1)) n ob w') : Did P ρ o σ D w H n s (.mv F i ob) nx v (at_ σ n k) w' :=
 ⟨hr, hn, hv, out_mv hs hD hF hi0 ht hk ho⟩
end
end Ev
end Go.Proofs.YtelaljoebdpicaaGreat
