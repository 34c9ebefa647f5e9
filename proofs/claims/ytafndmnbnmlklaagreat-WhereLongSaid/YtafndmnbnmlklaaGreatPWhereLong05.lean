/- Part 5 of what the proof of WhereLong rests on. No condition. -/
import Derived.Test.YtafndmnbnmlklaaGreatPWhereLong04
namespace Go.Proofs.YtafndmnbnmlklaaGreat
set_option maxRecDepth 100000
set_option maxHeartbeats 60000000
set_option linter.unusedVariables false
set_option linter.unusedSimpArgs false
set_option linter.unusedSectionVars false
namespace Ev
open Go Go.RowKit Go.Maps
inductive Ef
 | no (F : Nat) | new (F : Nat) (o : AO) | set (F i : Nat) (o : AO) | mv (F i : Nat) (o : AO)
def tb (m : Nat) : Nat -> Bool := fun i => m.testBit i
def Ef.F : Ef -> Nat | .no F => F | .new F _ => F | .set F _ _ => F | .mv F _ _ => F
def Ef.W : Ef -> Nat -> Bool | .no _, _ => false | .new _ _, _ => false | .set _ i _, j => j == i | .mv _ i _, j => j == i
def Ef.n' (n : Nat) : Ef -> Nat | .no _ => n | .new _ _ => n + 1 | .set _ _ _ => n | .mv _ _ _ => n + 1
def Ef.ap (n : Nat) (H : Heap) : Ef -> Heap
 | .no _ => H
 | .new _ o => fun j => if j = n then some o else H j
 | .set _ i o => fun j => if j = i then some o else H j
 | .mv _ i o => fun j => if j = n then some o else if j = i then none else H j
def aft (F : Nat -> Bool) (n n' : Nat) (g : Heap) : Heap := fun j => if F j = true ∨ (n <= j /\ j < n') then g j else none
theorem aft_some {F : Nat -> Bool} {n n' : Nat} {g : Heap} {i : Nat} {x : AO} : aft F n n' g i = some x ↔ (F i = true ∨ (n <= i /\ i < n')) /\ g i = some x := by
 unfold aft; split
 ·rename_i h; exact ⟨fun e => ⟨h, e⟩, fun e => e.2⟩
 ·rename_i h; exact ⟨fun e => (by cases e), fun e => absurd e.1 h⟩
theorem rst_some {F : Nat -> Bool} {g : Heap} {i : Nat} {x : AO} : rst F g i = some x ↔ F i = true /\ g i = some x := by
 unfold rst; split
 ·rename_i h; exact ⟨fun e => ⟨h, e⟩, fun e => e.2⟩
 ·rename_i h; exact ⟨fun e => (by cases e), fun e => absurd e.1 h⟩
theorem some_of {a : Option AO} {x : AO} (h : a = some x) : a.isSome = true := by rw [h]; rfl
structure Did (P : Program) (ρ : Operand -> Value) (o : Oper) (σ : Nat -> Blk) (D : Nat -> Prop) (w : World) (H : Heap) (n : Nat) (s : S) (e : Ef) (nx : Next) (v : Value) (σ' : Nat -> Blk) (w' : World) : Prop where
 run : (execOp ρ o).run P w = .ok nx w'
 nx : nx = .value v ∨ (nx = .skip /\ v = undef)
 val : RS σ' (more D n (e.n' n)) s v
 out : Out σ D w (rst (tb e.F) H) (aft (tb e.F) n (e.n' n) (e.ap n H)) n (e.n' n) e.W σ' w'
def at_ (σ : Nat -> Blk) (n : Nat) (k : Blk) : Nat -> Blk := fun i => if i = n then k else σ i
theorem at_same {σ : Nat -> Blk} {n : Nat} {k : Blk} : at_ σ n k n = k := if_pos rfl
theorem at_other {σ : Nat -> Blk} {n i : Nat} {k : Blk} (h : i ≠ n) : at_ σ n k i = σ i := if_neg h
section
variable {P : Program} {ρ : Operand -> Value} {o : Oper} {σ : Nat -> Blk} {D : Nat -> Prop} {w : World} {H : Heap} {n : Nat}
theorem did_no {F : Nat} {s : S} {v : Value} {nx : Next} (hs : Sat σ D (rst (tb F) H) w) (hr : (execOp ρ o).run P w = .ok nx w) (hn : nx = .value v ∨ (nx = .skip /\ v = undef)) (hv : RS σ D s v) :
  Did P ρ o σ D w H n s (.no F) nx v σ w := by
 have key : ∀ i x, aft (tb F) n n H i = some x -> rst (tb F) H i = some x := fun i x e => by
  obtain ⟨h1, h2⟩ := aft_some.1 e
  exact rst_some.2 ⟨h1.resolve_right (by omega), h2⟩
 refine ⟨hr, hn, hv.ext (fun _ _ => rfl) (fun _ h => .inl h), ⟨fun _ _ => rfl, ⟨fun i ob e => ?_, fun i j hi hj e => ?_⟩, Tch.refl _ _, fun i _ hh => ?_, fun i h1 h2 => ?_⟩⟩
 ·obtain ⟨h1, h2⟩ := hs.obj i ob (key i ob e)
  exact ⟨.inl h1, h2.ext rfl rfl (fun _ _ => rfl) (fun _ h => .inl h)⟩
 ·obtain ⟨x, hx⟩ := Option.isSome_iff_exists.1 hi
  obtain ⟨y, hy⟩ := Option.isSome_iff_exists.1 hj
  exact hs.inj i j (some_of (key i x hx)) (some_of (key j y hy)) e
 ·obtain ⟨x, hx⟩ := Option.isSome_iff_exists.1 hh
  exact some_of (key i x hx)
 ·simp only [Ef.n'] at h2; omega
theorem did_new {F : Nat} {s : S} {v : Value} {w' : World} {nx : Next} {ob : AO} {k : Blk} (hs : Sat σ D (rst (tb F) H) w) (hD : ¬ D n) (hr : (execOp ρ o).run P w = .ok nx w') (hn : nx = .value v ∨ (nx = .skip /\ v = undef))
  (hv : RS (at_ σ n k) (more D n (n + 1)) s v) (ht : Tch No w w') (hk : w.heap.size <= k.b) (ho : ObjAt (at_ σ n k) (more D n (n + 1)) n ob w') : Did P ρ o σ D w H n s (.new F ob) nx v (at_ σ n k) w' := by
 have hsm : ∀ i, D i -> at_ σ n k i = σ i := fun i hi => at_other (fun e => by subst e; exact hD hi)
 have key : ∀ i, i ≠ n -> ∀ x, aft (tb F) n (n + 1) ((Ef.new F ob).ap n H) i = some x -> rst (tb F) H i = some x := fun i hi x e => by
  obtain ⟨h1, h2⟩ := aft_some.1 e
  simp only [Ef.ap, if_neg hi] at h2
  exact rst_some.2 ⟨h1.resolve_right (by omega), h2⟩
 have keyn : aft (tb F) n (n + 1) ((Ef.new F ob).ap n H) n = some ob := aft_some.2 ⟨.inr ⟨Nat.le_refl _, Nat.lt_succ_self _⟩, by simp [Ef.ap]⟩
 refine ⟨hr, hn, hv, ⟨fun i hi => at_other (fun e => hi (by subst e; simp only [Ef.n']; omega)), ⟨fun i x e => ?_, fun i j hi hj e => ?_⟩, ht.mono (fun _ _ h => h.elim), fun i hi hh => ?_, fun i h1 h2 _ => ?_⟩⟩
 ·by_cases c : i = n
  ·subst c
   have e2 := keyn.symm.trans e
   cases e2
   exact ⟨.inr ⟨Nat.le_refl _, Nat.lt_succ_self _⟩, ho⟩
  ·obtain ⟨h1, h2⟩ := hs.obj i x (key i c x e)
   exact ⟨.inl h1, h2.ext (hsm i h1) (ht.block _ h2.lt (fun h => h)) hsm (fun _ h => .inl h)⟩
 ·have f : ∀ i j, i = n -> j ≠ n -> (aft (tb F) n (n + 1) ((Ef.new F ob).ap n H) j).isSome = true -> (at_ σ n k i).b = (at_ σ n k j).b -> False := fun i j hi hj hh e => by
   subst hi
   obtain ⟨x, hx⟩ := Option.isSome_iff_exists.1 hh
   obtain ⟨h1, h2⟩ := hs.obj j x (key j hj x hx)
   rw [at_same, at_other hj] at e
   have := h2.lt; omega
  by_cases ci : i = n
  ·by_cases cj : j = n
   ·rw [ci, cj]
   ·exact (f i j ci cj hj e).elim
  ·by_cases cj : j = n
   ·exact (f j i cj ci hi e.symm).elim
   ·obtain ⟨x, hx⟩ := Option.isSome_iff_exists.1 hi
    obtain ⟨y, hy⟩ := Option.isSome_iff_exists.1 hj
    rw [at_other ci, at_other cj] at e
    exact hs.inj i j (by rw [key i ci x hx]; rfl) (by rw [key j cj y hy]; rfl) e
 ·obtain ⟨x, hx⟩ := Option.isSome_iff_exists.1 hh
  exact some_of (key i (fun e => hi (by subst e; simp only [Ef.n']; omega)) x hx)
 ·obtain rfl : i = n := by simp only [Ef.n'] at h2; omega
  rw [at_same]; exact .inl hk
theorem did_set {F i : Nat} {s : S} {v : Value} {w' : World} {nx : Next} {ob : AO} (hs : Sat σ D (rst (tb F) H) w) (hF : tb F i = true) (hi0 : (H i).isSome = true) (hr : (execOp ρ o).run P w = .ok nx w') (hn : nx = .value v ∨ (nx = .skip /\ v = undef))
  (hv : RS σ D s v) (ht : Tch (fun k => k = (σ i).b) w w') (ho : ObjAt σ D i ob w') : Did P ρ o σ D w H n s (.set F i ob) nx v σ w' := by
 have key : ∀ j, j ≠ i -> ∀ x, aft (tb F) n n ((Ef.set F i ob).ap n H) j = some x -> rst (tb F) H j = some x := fun j hj x e => by
  obtain ⟨h1, h2⟩ := aft_some.1 e
  simp only [Ef.ap, if_neg hj] at h2
  exact rst_some.2 ⟨h1.resolve_right (by omega), h2⟩
 have hgi : (rst (tb F) H i).isSome = true := by unfold rst; rw [if_pos hF]; exact hi0
 have hDi : D i := by
  obtain ⟨x, hx⟩ := Option.isSome_iff_exists.1 hgi
  exact (hs.obj i x hx).1
 have alive : ∀ j, (aft (tb F) n (n) ((Ef.set F i ob).ap n H) j).isSome = true -> (rst (tb F) H j).isSome = true := fun j hh => by
  by_cases c : j = i
  ·rw [c]; exact hgi
  ·obtain ⟨x, hx⟩ := Option.isSome_iff_exists.1 hh
   rw [key j c x hx]; rfl
 refine ⟨hr, hn, hv.ext (fun _ _ => rfl) (fun _ h => .inl h), ⟨fun _ _ => rfl, ⟨fun j x e => ?_, fun j k hj hk e => hs.inj j k (alive j hj) (alive k hk) e⟩, ht.mono (fun k _ h => ⟨i, by simp [Ef.W], hgi, h⟩), fun j _ hh => alive j hh, fun j h1 h2 => by simp only [Ef.n'] at h2; omega⟩⟩
 by_cases c : j = i
 ·subst c
  have e2 := (aft_some.1 e).2
  simp only [Ef.ap, if_true] at e2
  cases e2
  exact ⟨.inl hDi, ho.ext rfl rfl (fun _ _ => rfl) (fun _ h => .inl h)⟩
 ·obtain ⟨h1, h2⟩ := hs.obj j x (key j c x e)
  refine ⟨.inl h1, h2.ext rfl (ht.block _ h2.lt (fun h => c ?_)) (fun _ _ => rfl) (fun _ h => .inl h)⟩
  exact hs.inj j i (by rw [key j c x e]; rfl) hgi h
theorem out_mv {F i : Nat} {w' : World} {ob : AO} {k : Blk} (hs : Sat σ D (rst (tb F) H) w) (hD : ¬ D n) (hF : tb F i = true) (hi0 : (H i).isSome = true)
  (ht : Tch (fun b => b = (σ i).b) w w') (hk : w.heap.size <= k.b ∨ k.b = (σ i).b) (ho : ObjAt (at_ σ n k) (more D n (n + 1)) n ob w') : Out σ D w (rst (tb F) H) (aft (tb F) n (n + 1) ((Ef.mv F i ob).ap n H)) n (n + 1) (Ef.mv F i ob).W (at_ σ n k) w' := by
 have hsm : ∀ i, D i -> at_ σ n k i = σ i := fun i hi => at_other (fun e => by subst e; exact hD hi)
 have hgi : (rst (tb F) H i).isSome = true := by unfold rst; rw [if_pos hF]; exact hi0
 have hDi : D i := by
  obtain ⟨x, hx⟩ := Option.isSome_iff_exists.1 hgi
  exact (hs.obj i x hx).1
 have hin : i ≠ n := fun e => by subst e; exact hD hDi
 have key : ∀ j, j ≠ n -> ∀ x, aft (tb F) n (n + 1) ((Ef.mv F i ob).ap n H) j = some x -> rst (tb F) H j = some x /\ j ≠ i := fun j hj x e => by
  obtain ⟨h1, h2⟩ := aft_some.1 e
  simp only [Ef.ap, if_neg hj] at h2
  by_cases c : j = i
  ·rw [if_pos c] at h2; cases h2
  ·rw [if_neg c] at h2
   exact ⟨rst_some.2 ⟨h1.resolve_right (by omega), h2⟩, c⟩
 have keyn : aft (tb F) n (n + 1) ((Ef.mv F i ob).ap n H) n = some ob := aft_some.2 ⟨.inr ⟨Nat.le_refl _, Nat.lt_succ_self _⟩, by simp [Ef.ap]⟩
 have keyi : aft (tb F) n (n + 1) ((Ef.mv F i ob).ap n H) i = none := by
  cases e : aft (tb F) n (n + 1) ((Ef.mv F i ob).ap n H) i with
  | none => rfl
  | some x =>
   obtain ⟨_, h2⟩ := aft_some.1 e
   simp [Ef.ap, hin] at h2
 refine ⟨fun j hj => at_other (fun e => hj (by subst e; omega)), ⟨fun j x e => ?_, fun j l hj hl e => ?_⟩, ht.mono (fun b _ h => ⟨i, by simp [Ef.W], hgi, h⟩), fun j hj hh => ?_, fun j h1 h2 _ => ?_⟩
 ·by_cases c : j = n
  ·subst c
   have e2 := keyn.symm.trans e
   cases e2
   exact ⟨.inr ⟨Nat.le_refl _, Nat.lt_succ_self _⟩, ho⟩
  ·obtain ⟨g1, g2⟩ := key j c x e
   obtain ⟨h1, h2⟩ := hs.obj j x g1
   refine ⟨.inl h1, h2.ext (hsm j h1) (ht.block _ h2.lt (fun h => g2 ?_)) hsm (fun _ h => .inl h)⟩
   exact hs.inj j i (by rw [g1]; rfl) hgi h
 ·have f : ∀ a b, a = n -> b ≠ n -> (aft (tb F) n (n + 1) ((Ef.mv F i ob).ap n H) b).isSome = true -> (at_ σ n k a).b = (at_ σ n k b).b -> False := fun a b ha hb hh e => by
   subst ha
   obtain ⟨x, hx⟩ := Option.isSome_iff_exists.1 hh
   obtain ⟨g1, g2⟩ := key b hb x hx
   obtain ⟨h1, h2⟩ := hs.obj b x g1
   rw [at_same, at_other hb] at e
   rcases hk with hk | hk
   ·have := h2.lt; omega
   ·exact g2 (hs.inj b i (by rw [g1]; rfl) hgi (by rw [<- e, hk]))
  by_cases ci : j = n
  ·by_cases cj : l = n
   ·rw [ci, cj]
   ·exact (f j l ci cj hl e).elim
  ·by_cases cj : l = n
   ·exact (f l j cj ci hj e.symm).elim
   ·obtain ⟨x, hx⟩ := Option.isSome_iff_exists.1 hj
    obtain ⟨y, hy⟩ := Option.isSome_iff_exists.1 hl
    rw [at_other ci, at_other cj] at e
    exact hs.inj j l (by rw [(key j ci x hx).1]; rfl) (by rw [(key l cj y hy).1]; rfl) e
 ·obtain ⟨x, hx⟩ := Option.isSome_iff_exists.1 hh
  exact some_of (key j (fun e => hj (by subst e; omega)) x hx).1
 ·obtain rfl : j = n := by omega
  rw [at_same]
  rcases hk with hk | hk
  ·exact .inl hk
  ·exact .inr ⟨i, by simp [Ef.W], hgi, keyi, hk⟩
theorem did_mv {F i : Nat} {s : S} {v : Value} {w' : World} {nx : Next} {ob : AO} {k : Blk} (hs : Sat σ D (rst (tb F) H) w) (hD : ¬ D n) (hF : tb F i = true) (hi0 : (H i).isSome = true) (hr : (execOp ρ o).run P w = .ok nx w') (hn : nx = .value v ∨ (nx = .skip /\ v = undef))
  (hv : RS (at_ σ n k) (more D n (n + 1)) s v) (ht : Tch (fun b => b = (σ i).b) w w') (hk : w.heap.size <= k.b ∨ k.b = (σ i).b) (ho : ObjAt (at_ σ n k) (more D n (n + 1)) n ob w') : Did P ρ o σ D w H n s (.mv F i ob) nx v (at_ σ n k) w' :=
 ⟨hr, hn, hv, out_mv hs hD hF hi0 ht hk ho⟩
end
end Ev
namespace Ev
open Go Go.RowKit Go.Maps
def one (i : Nat) : Nat := 2 ^ i
theorem tb_one {i : Nat} : tb (one i) i = true := by simp [tb, one]
theorem tb_or {a b i : Nat} : tb (a ||| b) i = (tb a i || tb b i) := by simp [tb]
def AOK (P : Program) (ρ : Operand -> Value) (o : Oper) (σ : Nat -> Blk) (D : Nat -> Prop) (w : World) (H : Heap) (n : Nat) (s : S) (e : Ef) : Prop := ∃ nx v σ' w', Did P ρ o σ D w H n s e nx v σ' w'
def S.c? : Option S -> Option C | some (.v (.c x)) => some x | _ => none
def S.v? : Option S -> Option V | some (.v x) => some x | _ => none
theorem c?_some {a : Option S} {x : C} (h : S.c? a = some x) : a = some (.v (.c x)) := by
 unfold S.c? at h; split at h <;> simp_all
theorem v?_some {a : Option S} {x : V} (h : S.v? a = some x) : a = some (.v x) := by
 unfold S.v? at h; split at h <;> simp_all
def Eqv (σ : Nat -> Blk) (D : Nat -> Prop) (A : Operand -> Option S) (ρ : Operand -> Value) : Prop := ∀ x s, A x = some s -> RS σ D s (ρ x)
theorem Eqv.c {σ : Nat -> Blk} {D : Nat -> Prop} {A : Operand -> Option S} {ρ : Operand -> Value} (h : Eqv σ D A ρ) {x : Operand} {c : C} (hx : S.c? (A x) = some c) : RC σ D c (ρ x) := h x _ (c?_some hx)
theorem Eqv.v {σ : Nat -> Blk} {D : Nat -> Prop} {A : Operand -> Option S} {ρ : Operand -> Value} (h : Eqv σ D A ρ) {x : Operand} {c : V} (hx : S.v? (A x) = some c) : RV σ D c (ρ x) := h x _ (v?_some hx)
def absC : Value -> Option C
 | .bool b => some (.bool b) | .int k n => some (.int k n) | .string s => some (.str s.data.toList) | .pointer none => some .nilp
 | .slice none 0 0 => some .snil | .map none => some .mapn | .nilFunc => some .nilf | .nilIface => some .nilI | .func (.func f) ⟨[]⟩ ⟨[]⟩ => some (.fn f []) | _ => none
def absL : List Value -> Option (List C)
 | [] => some []
 | v :: l => match absC v, absL l with | some c, some m => some (c :: m) | _, _ => none
def absV : Value -> Option V
 | .agg cs => (absL cs.toList).map .agg
 | v => (absC v).map .c
def V.cells : V -> List C | .c x => [x] | .agg l => l
theorem absC_ok {σ : Nat -> Blk} {D : Nat -> Prop} {v : Value} {c : C} (h : absC v = some c) : RC σ D c v := by
 unfold absC at h
 split at h <;> first | (cases h; done) | (cases h; simp [RC])
theorem absL_ok {σ : Nat -> Blk} {D : Nat -> Prop} : ∀ {l : List Value} {m : List C}, absL l = some m -> RL σ D m l
 | [], m, h => by simp only [absL, Option.some.injEq] at h; subst h; trivial
 | v :: l, m, h => by
  simp only [absL] at h
  split at h
  ·rename_i c m' h1 h2
   simp only [Option.some.injEq] at h; subst h
   exact ⟨absC_ok h1, absL_ok h2⟩
  ·cases h
theorem absV_ok {σ : Nat -> Blk} {D : Nat -> Prop} {v : Value} {x : V} (h : absV v = some x) : RV σ D x v := by
 unfold absV at h
 split at h
 ·rename_i cs
  rw [Option.map_eq_some_iff] at h
  obtain ⟨m, h1, rfl⟩ := h
  exact ⟨_, absL_ok h1, by simp⟩
 ·rw [Option.map_eq_some_iff] at h
  obtain ⟨m, h1, rfl⟩ := h
  exact absC_ok h1
theorem RV.cells {σ : Nat -> Blk} {D : Nat -> Prop} {x : V} {v : Value} (h : RV σ D x v) : RL σ D x.cells v.cells.toList := by
 cases x with
 | c x =>
  have h1 := RC.one h
  have : v.cells = #[v] := by cases v <;> first | rfl | (simp [Value.oneCell'] at h1)
  rw [this]; exact ⟨h, trivial⟩
 | agg l =>
  obtain ⟨m, h1, rfl⟩ := h
  simpa [Value.cells, V.cells] using h1
theorem RL.ones {σ : Nat -> Blk} {D : Nat -> Prop} : ∀ {l : List C} {m : List Value}, RL σ D l m -> ∀ u ∈ m, u.oneCell' = true
 | [], [], _, u, hu => by cases hu
 | _ :: _, _ :: _, h, u, hu => by
  rcases List.mem_cons.1 hu with rfl | hu
  ·exact h.1.one
  ·exact h.2.ones u hu
theorem RL.append {σ : Nat -> Blk} {D : Nat -> Prop} : ∀ {l l' : List C} {m m' : List Value}, RL σ D l m -> RL σ D l' m' -> RL σ D (l ++ l') (m ++ m')
 | [], _, [], _, _, h => h
 | _ :: _, _, _ :: _, _, h, k => ⟨h.1, h.2.append k⟩
theorem RL.take {σ : Nat -> Blk} {D : Nat -> Prop} : ∀ {l : List C} {m : List Value} (k : Nat), RL σ D l m -> RL σ D (l.take k) (m.take k)
 | [], [], _, _ => by simp [RL]
 | _ :: _, _ :: _, 0, _ => trivial
 | _ :: _, _ :: _, k + 1, h => ⟨h.1, h.2.take k⟩
theorem RL.drop {σ : Nat -> Blk} {D : Nat -> Prop} : ∀ {l : List C} {m : List Value} (k : Nat), RL σ D l m -> RL σ D (l.drop k) (m.drop k)
 | [], [], _, _ => by simp [RL]
 | _ :: _, _ :: _, 0, h => h
 | _ :: _, _ :: _, k + 1, h => h.2.drop k
section
variable {P : Program} {ρ : Operand -> Value} {o : Oper} {σ : Nat -> Blk} {D : Nat -> Prop} {w : World} {H : Heap} {n : Nat} {A : Operand -> Option S}
theorem obj_of {F i : Nat} {ob : AO} (hs : Sat σ D (rst (tb F) H) w) (hF : tb F i = true) (ho : H i = some ob) : D i /\ ObjAt σ D i ob w := hs.obj i ob (rst_some.2 ⟨hF, ho⟩)
theorem cell_of {i j : Nat} {ob : AO} {c : C} (h : ObjAt σ D i ob w) (hc : ob.cs[j]? = some c) : ∃ v, w.cell? ⟨(σ i).b, j, none⟩ = some v /\ RC σ D c v := by
 rcases h.either with h | h
 ·rw [h] at hc; cases hc
 obtain ⟨cur, fr, h1, h0, h2, h3, h4, h5⟩ := h
 obtain ⟨v, g1, g2⟩ := h5 j c hc
 exact ⟨v, by rw [cell_of_row w _ j cur ob.ty fr h1]; exact g1, g2⟩
def ldC (ob : AO) (off k : Nat) : Option (List C) := if off + k <= ob.cs.length then some ((ob.cs.drop off).take k) else none
theorem ldC_ok {i off k : Nat} {ob : AO} {l : List C} (h : ObjAt σ D i ob w) (hl : ldC ob off k = some l) : ∃ m : List Value, m.length = k /\ RL σ D l m /\ ∀ j v, m[j]? = some v -> w.cell? ((adr (σ i) off).add j) = some v := by
 unfold ldC at hl
 split at hl
 ·rename_i hle
  cases hl
  rcases h.either with h | h
  ·rw [h] at hle ⊢
   obtain rfl : k = 0 := by simp at hle; omega
   exact ⟨[], rfl, by simp [RL], fun j v e => by simp at e⟩
  obtain ⟨cur, fr, h1, h0, h2, h3, h4, h5⟩ := h
  refine ⟨(cur.toList.drop off).take k, by simp; omega, RL.of (by simp; omega) (fun j c e => ?_), fun j v e => ?_⟩
  ·rw [List.getElem?_take] at e
   split at e
   ·rename_i hj
    rw [List.getElem?_drop] at e
    obtain ⟨v, g1, g2⟩ := h5 _ c e
    exact ⟨v, by rw [List.getElem?_take, if_pos hj, List.getElem?_drop]; simpa using g1, g2⟩
   ·cases e
  ·rw [List.getElem?_take] at e
   split at e
   ·rw [List.getElem?_drop] at e
    unfold adr
    rw [addr_add, cell_of_row w _ _ cur ob.ty fr h1]
    simpa using e
   ·cases e
 ·cases hl
theorem run_ldC {i off k : Nat} {ob : AO} {l : List C} (h : ObjAt σ D i ob w) (hl : ldC ob off k = some l) : ∃ m : List Value, RL σ D l m /\ (loadCells (adr (σ i) off) k).run P w = .ok m.toArray w := by
 obtain ⟨m, h1, h2, h3⟩ := ldC_ok h hl
 refine ⟨m, h2, ?_⟩
 have := run_loadCells_list (P := P) w (adr (σ i) off) m h3
 rwa [h1] at this
theorem move_ok {x : Operand} {s : S} (ho : o.op = .move x) (hA : Eqv σ D A ρ) (hx : A x = some s) (hs : Sat σ D (rst (tb 0) H) w) : AOK P ρ o σ D w H n s (.no 0) :=
 ⟨_, _, _, _, did_no hs (by unfold execOp; rw [ho]; rfl) (.inl rfl) (hA x s hx)⟩
theorem assign_ok {x : Operand} {s : S} (ho : o.op = .assign x) (hA : Eqv σ D A ρ) (hx : A x = some s) (hs : Sat σ D (rst (tb 0) H) w) : AOK P ρ o σ D w H n s (.no 0) :=
 ⟨_, _, _, _, did_no hs (by unfold execOp; rw [ho]; rfl) (.inl rfl) (hA x s hx)⟩
def aPick (A : Operand -> Option S) (c x y : Operand) : Option (S × Ef) := match S.c? (A c) with
 | some (.bool b) => (if b then A x else A y).map fun s => (s, .no 0)
 | _ => none
theorem pick_ok {c x y : Operand} {s : S} {e : Ef} (ho : o.op = .pick c x y) (hA : Eqv σ D A ρ) (h : aPick A c x y = some (s, e)) (hs : Sat σ D (rst (tb e.F) H) w) : AOK P ρ o σ D w H n s e := by
 unfold aPick at h
 split at h
 ·rename_i b hb
  rw [Option.map_eq_some_iff] at h
  obtain ⟨s', h1, h2⟩ := h
  cases h2
  have hc := hA.c hb
  refine ⟨_, (if b then ρ x else ρ y), _, _, did_no hs (by unfold execOp; rw [ho]; simp [show ρ c = .bool b from hc, asBool]) (.inl rfl) ?_⟩
  cases b
  ·exact hA y s h1
  ·exact hA x s h1
 ·cases h
def aExt (A : Operand -> Option S) (x : Operand) (i : Nat) : Option (S × Ef) := match A x with
 | some (.tup l) => (l[i]?).map fun v => (.v v, .no 0)
 | _ => none
theorem RVL.get {σ : Nat -> Blk} {D : Nat -> Prop} : ∀ {l : List V} {m : List Value} {j : Nat} {c : V}, RVL σ D l m -> l[j]? = some c -> ∃ v, m[j]? = some v /\ RV σ D c v
 | [], [], _, _, _, e => by cases e
 | a :: l, v :: m, 0, c, h, e => by
  rw [List.getElem?_cons_zero] at e
  cases e
  exact ⟨v, rfl, h.1⟩
 | a :: l, v :: m, j + 1, c, h, e => h.2.get (by simpa using e)
theorem ext_ok {x : Operand} {i : Nat} {s : S} {e : Ef} (ho : o.op = .extract x i) (hA : Eqv σ D A ρ) (h : aExt A x i = some (s, e)) (hs : Sat σ D (rst (tb e.F) H) w) : AOK P ρ o σ D w H n s e := by
 unfold aExt at h
 split at h
 ·rename_i l hl
  rw [Option.map_eq_some_iff] at h
  obtain ⟨v, h1, h2⟩ := h
  cases h2
  obtain ⟨m, g1, g2⟩ := hA x _ hl
  obtain ⟨u, k1, k2⟩ := g1.get h1
  refine ⟨.value u, u, _, _, did_no hs (by unfold execOp; rw [ho]; simp [g2, Instr.extract, k1]) (.inl rfl) k2⟩
 ·cases h
theorem new_ok {s : S} {ty : TypeId} {x : V} {v : Value} (hs : Sat σ D (rst (tb 0) H) w) (hD : ¬ D n) (hv : RV σ D x v)
  (hr : (execOp ρ o).run P w = .ok (.value (.pointer (some ⟨w.heap.size, 0, none⟩))) (w.alloc (.cells v.cells ty))) : AOK P ρ o σ D w H n (.v (.c (.ptr n 0))) (.new 0 ⟨ty, x.cells, false, .ok⟩) := by
 have hl := hv.cells
 have hsm : ∀ i, D i -> at_ σ n ⟨w.heap.size, v.cells.size⟩ i = σ i := fun i hi => at_other (fun e => by subst e; exact hD hi)
 have hlen := hl.length
 rw [Array.length_toList] at hlen
 refine ⟨_, _, _, _, did_new (k := ⟨w.heap.size, v.cells.size⟩) hs hD hr (.inl rfl) ⟨.inr ⟨Nat.le_refl _, Nat.lt_succ_self _⟩, by rw [at_same]; rfl⟩ (Tch.alloc _ _) (Nat.le_refl _) ?_⟩
 refine ⟨v.cells, (0, 0), by rw [at_same]; exact heap_alloc_new _ _, fun _ => rfl, by rw [at_same], by rw [at_same]; exact Nat.le_of_eq hlen.symm, fun _ => by rw [at_same]; exact hlen.symm, fun j c e => ?_⟩
 obtain ⟨u, h1, h2⟩ := hl.get e
 exact ⟨u, by simpa using h1, h2.ext hsm (fun _ h => .inl h)⟩
def aAlloc (P : Program) (n : Nat) (t : TypeId) : Option (S × Ef) := match (P.info? t).bind (·.zero) with
 | some z => (absV z).map fun x => (.v (.c (.ptr n 0)), .new 0 ⟨t, x.cells, false, .ok⟩)
 | none => none
theorem alloc_ok {t : TypeId} {s : S} {e : Ef} (ho : o.op = .alloc t) (hD : n < e.n' n -> ¬ D n) (h : aAlloc P n t = some (s, e)) (hs : Sat σ D (rst (tb e.F) H) w) : AOK P ρ o σ D w H n s e := by
 unfold aAlloc at h
 split at h
 ·rename_i z hz
  rw [Option.map_eq_some_iff] at h
  obtain ⟨x, h1, h2⟩ := h
  cases h2
  cases hi : P.info? t with
  | none => rw [hi] at hz; cases hz
  | some i =>
   rw [hi] at hz
   have hz' : i.zero = some z := hz
   refine new_ok (s := .v (.c (.ptr n 0))) hs (hD (Nat.lt_succ_self n)) (absV_ok h1) ?_
   unfold execOp; rw [ho]
   simp [Instr.alloc, zeroValue, typeInfo, hi, hz', newVar, newRow]
 ·cases h
theorem box_ok {t : TypeId} {x : Operand} {v : V} (ho : o.op = .box t x) (hA : Eqv σ D A ρ) (hD : ¬ D n) (h : S.v? (A x) = some v) (hs : Sat σ D (rst (tb 0) H) w) :
  AOK P ρ o σ D w H n (.v (.c (.ptr n 0))) (.new 0 ⟨t, v.cells, false, .ok⟩) := by
 refine new_ok (s := .v (.c (.ptr n 0))) hs hD (hA.v h) ?_
 unfold execOp; rw [ho]
 simp [Instr.box, newVar, newRow]
def szOf (P : Program) (t : TypeId) : Option Nat := (P.info? t).map (·.size)
def isAg (P : Program) (t : TypeId) : Option Bool := (P.underlying t).map fun | .struct _ => true | .array _ _ => true | _ => false
theorem run_sz {t : TypeId} {k : Nat} (h : szOf P t = some k) (w : World) : (sizeOf t).run P w = .ok k w := by
 unfold szOf at h
 rw [Option.map_eq_some_iff] at h
 obtain ⟨i, h1, h2⟩ := h
 simp [sizeOf, typeInfo, h1, h2]
theorem run_isAg {t : TypeId} {b : Bool} (h : isAg P t = some b) (w : World) : (isAgg t).run P w = .ok b w := by
 unfold isAg at h
 rw [Option.map_eq_some_iff] at h
 obtain ⟨d, h1, h2⟩ := h
 unfold isAgg
 rw [Sem.run_bind, run_underlying h1 w]
 rw [<- h2]
 cases d <;> rfl
def aLd (P : Program) (H : Heap) (t : TypeId) (i off : Nat) : Option V := match H i with
 | some ob => match isAg P t with
  | some true => match szOf P t with
   | some k => (ldC ob off k).map .agg
   | none => none
  | some false => (ob.cs[off]?).map .c
  | none => none
 | none => none
theorem aLd_ok {F i off : Nat} {t : TypeId} {x : V} (hs : Sat σ D (rst (tb F) H) w) (hF : tb F i = true) (h : aLd P H t i off = some x) : ∃ v, RV σ D x v /\ (loadVar t (adr (σ i) off)).run P w = .ok v w := by
 unfold aLd at h
 split at h
 ·rename_i ob hob
  have hO := (obj_of hs hF hob).2
  split at h
  ·rename_i hag
   split at h
   ·rename_i k hk
    rw [Option.map_eq_some_iff] at h
    obtain ⟨l, h1, rfl⟩ := h
    obtain ⟨m, g1, g2⟩ := run_ldC (P := P) hO h1
    refine ⟨.agg m.toArray, ⟨m, g1, rfl⟩, ?_⟩
    simp [loadVar, Sem.run_bind, run_isAg hag, run_sz hk, g2]
   ·cases h
  ·rename_i hag
   rw [Option.map_eq_some_iff] at h
   obtain ⟨c, h1, rfl⟩ := h
   obtain ⟨v, g1, g2⟩ := cell_of hO h1
   refine ⟨v, g2, ?_⟩
   simp [loadVar, Sem.run_bind, run_isAg hag, adr, g1]
  ·cases h
 ·cases h
def aLoad (P : Program) (H : Heap) (A : Operand -> Option S) (t : TypeId) (x : Operand) : Option (S × Ef) := match S.c? (A x) with
 | some (.ptr i off) => (aLd P H t i off).map fun v => (.v v, .no (one i))
 | _ => none
theorem load_ok {t : TypeId} {x : Operand} {s : S} {e : Ef} (ho : o.op = .load t x) (hA : Eqv σ D A ρ) (h : aLoad P H A t x = some (s, e)) (hs : Sat σ D (rst (tb e.F) H) w) : AOK P ρ o σ D w H n s e := by
 unfold aLoad at h
 split at h
 ·rename_i i off hx
  rw [Option.map_eq_some_iff] at h
  obtain ⟨v, h1, h2⟩ := h
  cases h2
  obtain ⟨u, g1, g2⟩ := aLd_ok hs tb_one h1
  have hp := (hA.c hx).2
  refine ⟨.value u, u, _, _, did_no hs ?_ (.inl rfl) g1⟩
  unfold execOp; rw [ho]
  simp [hp, Instr.loadAt, Instr.sureAddr, g2]
 ·cases h
def wrC (ob : AO) (off : Nat) (l : List C) : Option AO := if off + l.length <= ob.cs.length /\ ob.fz = false then some { ob with cs := ob.cs.take off ++ l ++ ob.cs.drop (off + l.length) } else none
theorem wrC_ok {i off : Nat} {ob ob' : AO} {l : List C} {m : List Value} (h : ObjAt σ D i ob w) (hw : wrC ob off l = some ob') (hl : RL σ D l m) :
  ∃ w', (storeCells (adr (σ i) off) m).run P w = .ok () w' /\ ObjAt σ D i ob' w' /\ Tch (fun k => k = (σ i).b) w w' := by
 unfold wrC at hw
 split at hw
 ·rename_i hc
  cases hw
  obtain ⟨hle, hfz⟩ := hc
  have hk : ob.k = .ok := by unfold AO.fz at hfz; split at hfz <;> first | assumption | cases hfz
  obtain ⟨cur, fr, h1, h0, h2, h3, h4, h5⟩ := h.ok hfz
  have hfr := h0 hfz
  subst hfr
  have hml := hl.length
  have hst := run_storeCells_at P (σ i).b off ob.ty m 0 cur w h1 (by omega) hl.ones
  simp only [Nat.add_zero] at hst
  refine ⟨_, hst, ?_, ⟨rfl, rfl, rfl, by simp, fun k hk hn => setRow_other w _ k _ hn⟩⟩
  unfold ObjAt
  simp only [hk]
  refine ⟨_, (0, 0), setRow_heap w _ cur _ ob.ty _ h1, fun _ => rfl, by simp; omega, by simp; omega, fun e => by have := h4 e; simp; omega, fun j c e => ?_⟩
  have hcs : ∀ j c, ob.cs[j]? = some c -> ∃ v, cur.toList[j]? = some v /\ RC σ D c v := fun j c e => by
   obtain ⟨v, g1, g2⟩ := h5 j c e
   exact ⟨v, by rw [Array.getElem?_toList]; exact g1, g2⟩
  rw [List.append_assoc] at e
  rw [List.getElem?_toArray, List.append_assoc]
  have hlt : (ob.cs.take off).length = off := by simp; omega
  have hlt2 : (cur.toList.take off).length = off := by simp; omega
  by_cases hj : j < off
  ·rw [List.getElem?_append_left (by omega), List.getElem?_take, if_pos hj] at e
   obtain ⟨v, g1, g2⟩ := hcs j c e
   exact ⟨v, by rw [List.getElem?_append_left (by omega), List.getElem?_take, if_pos hj]; exact g1, g2⟩
  ·rw [List.getElem?_append_right (by omega), hlt] at e
   rw [List.getElem?_append_right (by omega), hlt2]
   by_cases hj2 : j - off < l.length
   ·rw [List.getElem?_append_left hj2] at e
    rw [List.getElem?_append_left (by omega)]
    exact hl.get e
   ·rw [List.getElem?_append_right (by omega), List.getElem?_drop] at e
    rw [List.getElem?_append_right (by omega), List.getElem?_drop, hml]
    exact hcs _ c e
 ·cases hw
def aStore (P : Program) (H : Heap) (A : Operand -> Option S) (t : TypeId) (x y : Operand) : Option (S × Ef) := match S.c? (A x), S.v? (A y) with
 | some (.ptr i off), some v => match H i with
  | some ob => if szOf P t = some v.cells.length then (wrC ob off v.cells).map fun ob' => (.un, .set (one i) i ob') else none
  | none => none
 | _, _ => none
theorem store_ok {t : TypeId} {x y : Operand} {s : S} {e : Ef} (ho : o.op = .store t x y) (hA : Eqv σ D A ρ) (h : aStore P H A t x y = some (s, e)) (hs : Sat σ D (rst (tb e.F) H) w) : AOK P ρ o σ D w H n s e := by
 unfold aStore at h
 split at h
 ·rename_i i off v hx hy
  split at h
  ·rename_i ob hob
   split at h
   ·rename_i hsz
    rw [Option.map_eq_some_iff] at h
    obtain ⟨ob', h1, h2⟩ := h
    cases h2
    have hp := (hA.c hx).2
    have hv := (hA.v hy).cells
    obtain ⟨hD, hO⟩ := obj_of hs tb_one hob
    obtain ⟨w', g1, g2, g3⟩ := wrC_ok (P := P) hO h1 hv
    refine ⟨.skip, undef, _, _, did_set hs tb_one (by rw [hob]; rfl) ?_ (.inr ⟨rfl, rfl⟩) rfl g3 g2⟩
    unfold execOp; rw [ho]
    have hl := hv.length
    rw [Array.length_toList] at hl
    simp [hp, Instr.storeAt, Instr.sureAddr, storeVar, run_sz hsz, hl, g1]
   ·cases h
  ·cases h
 ·cases h
end
end Ev
end Go.Proofs.YtafndmnbnmlklaaGreat
