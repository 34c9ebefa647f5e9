/- Part 14 of what the proof of StoreTold rests on. No condition. -/
import Derived.Test.YtfedhcnmdmhppaaGreatPStoreTold01
namespace Go.Proofs.YtfedhcnmdmhppaaGreat
set_option maxRecDepth 100000
set_option maxHeartbeats 60000000
set_option linter.unusedVariables false
set_option linter.unusedSimpArgs false
namespace Ev
open Go Go.RowKit Go.Maps
inductive Cp | ex (c : Nat) | op (sz : Nat)
inductive C
 | bool (b : Bool) | int (k : IntKind) (n : Int) | str (s : List UInt8)
 | ptr (i off : Nat) | nilp | sl (i off len : Nat) (c : Cp) | snil | se
 | fn (f : FuncId) (cap : List (Nat × Nat)) | nilf | map (i : Nat) | mapn | nilI
inductive V | c (x : C) | agg (l : List C)
inductive S | v (x : V) | tup (l : List V) | un
structure Blk where
 b : Nat
 t : Nat
inductive Kd | ok | rd | mp (es : List (C × V))
structure AO where
 ty : TypeId
 cs : List C
 opn : Bool
 k : Kd
def AO.fz (o : AO) : Bool := match o.k with | .ok => false | _ => true
abbrev Heap := Nat -> Option AO
def adr (k : Blk) (off : Nat) : Addr := ⟨k.b, off, none⟩
def RC (σ : Nat -> Blk) (D : Nat -> Prop) : C -> Value -> Prop
 | .bool b, v => v = .bool b
 | .int k n, v => v = .int k n
 | .str s, v => v = .string ⟨s.toArray⟩
 | .ptr i off, v => D i /\ v = .pointer (some (adr (σ i) off))
 | .nilp, v => v = .pointer none
 | .sl i off len (.ex c), v => D i /\ v = .slice (some (adr (σ i) off)) len c
 | .sl i off len (.op sz), v => D i /\ ∃ c, v = .slice (some (adr (σ i) off)) len c /\ len <= c /\ c <= maxLen /\ off + c * sz = (σ i).t
 | .snil, v => v = .slice none 0 0
 | .se, v => ∃ a c, v = .slice a 0 c
 | .fn f cap, v => (∀ p ∈ cap, D p.1) /\ v = .func (.func f) #[] ((cap.map fun p => Value.pointer (some (adr (σ p.1) p.2))).toArray)
 | .nilf, v => v = .nilFunc
 | .map i, v => D i /\ v = .map (some (σ i).b)
 | .mapn, v => v = .map none
 | .nilI, v => v = .nilIface
def RL (σ : Nat -> Blk) (D : Nat -> Prop) : List C -> List Value -> Prop
 | [], [] => True
 | c :: l, v :: m => RC σ D c v /\ RL σ D l m
 | _, _ => False
def RV (σ : Nat -> Blk) (D : Nat -> Prop) : V -> Value -> Prop
 | .c x, v => RC σ D x v
 | .agg l, v => ∃ m, RL σ D l m /\ v = .agg m.toArray
def RVL (σ : Nat -> Blk) (D : Nat -> Prop) : List V -> List Value -> Prop
 | [], [] => True
 | c :: l, v :: m => RV σ D c v /\ RVL σ D l m
 | _, _ => False
def RS (σ : Nat -> Blk) (D : Nat -> Prop) : S -> Value -> Prop
 | .v x, v => RV σ D x v
 | .tup l, v => ∃ m, RVL σ D l m /\ v = .tuple m.toArray
 | .un, v => v = undef
section
variable {σ σ' : Nat -> Blk} {D D' : Nat -> Prop}
theorem RC.ext {c : C} {v : Value} (h : RC σ D c v) (hs : ∀ i, D i -> σ' i = σ i) (hD : ∀ i, D i -> D' i) : RC σ' D' c v := by
 cases c with
 | ptr i off => obtain ⟨h1, h2⟩ := h; exact ⟨hD i h1, by rw [hs i h1]; exact h2⟩
 | map i => obtain ⟨h1, h2⟩ := h; exact ⟨hD i h1, by rw [hs i h1]; exact h2⟩
 | sl i off len cp =>
  cases cp with
  | ex c => obtain ⟨h1, h2⟩ := h; exact ⟨hD i h1, by rw [hs i h1]; exact h2⟩
  | op sz => obtain ⟨h1, h2⟩ := h; exact ⟨hD i h1, by rw [hs i h1]; exact h2⟩
 | fn f cap =>
  obtain ⟨h1, h2⟩ := h
  refine ⟨fun p hp => hD _ (h1 p hp), ?_⟩
  rw [h2]
  congr 2
  apply List.map_congr_left
  intro p hp
  rw [hs _ (h1 p hp)]
 | _ => exact h
theorem RL.ext : ∀ {l : List C} {m : List Value}, RL σ D l m -> (∀ i, D i -> σ' i = σ i) -> (∀ i, D i -> D' i) -> RL σ' D' l m
 | [], [], _, _, _ => trivial
 | _ :: _, _ :: _, h, hs, hD => ⟨h.1.ext hs hD, h.2.ext hs hD⟩
theorem RV.ext {x : V} {v : Value} (h : RV σ D x v) (hs : ∀ i, D i -> σ' i = σ i) (hD : ∀ i, D i -> D' i) : RV σ' D' x v := by
 cases x with
 | c x => exact RC.ext h hs hD
 | agg l => obtain ⟨m, h1, h2⟩ := h; exact ⟨m, h1.ext hs hD, h2⟩
theorem RVL.ext : ∀ {l : List V} {m : List Value}, RVL σ D l m -> (∀ i, D i -> σ' i = σ i) -> (∀ i, D i -> D' i) -> RVL σ' D' l m
 | [], [], _, _, _ => trivial
 | _ :: _, _ :: _, h, hs, hD => ⟨h.1.ext hs hD, h.2.ext hs hD⟩
theorem RS.ext {x : S} {v : Value} (h : RS σ D x v) (hs : ∀ i, D i -> σ' i = σ i) (hD : ∀ i, D i -> D' i) : RS σ' D' x v := by
 cases x with
 | v x => exact RV.ext h hs hD
 | tup l => obtain ⟨m, h1, h2⟩ := h; exact ⟨m, h1.ext hs hD, h2⟩
 | un => exact h
theorem RC.one {c : C} {v : Value} (h : RC σ D c v) : v.oneCell' = true := by
 cases c with
 | sl i off len cp =>
  cases cp with
  | ex c => obtain ⟨_, rfl⟩ := h; rfl
  | op sz => obtain ⟨_, c, rfl, _⟩ := h; rfl
 | ptr i off => obtain ⟨_, rfl⟩ := h; rfl
 | map i => obtain ⟨_, rfl⟩ := h; rfl
 | fn f cap => obtain ⟨_, rfl⟩ := h; rfl
 | se => obtain ⟨_, _, rfl⟩ := h; rfl
 | _ => (cases h; rfl)
theorem RL.length : ∀ {l : List C} {m : List Value}, RL σ D l m -> m.length = l.length
 | [], [], _ => rfl
 | _ :: _, _ :: _, h => by rw [List.length_cons, List.length_cons, h.2.length]
theorem RL.get : ∀ {l : List C} {m : List Value} {j : Nat} {c : C}, RL σ D l m -> l[j]? = some c -> ∃ v, m[j]? = some v /\ RC σ D c v
 | [], [], _, _, _, e => by cases e
 | a :: l, v :: m, 0, c, h, e => by
  rw [List.getElem?_cons_zero] at e
  cases e
  exact ⟨v, rfl, h.1⟩
 | a :: l, v :: m, j + 1, c, h, e => h.2.get (by simpa using e)
theorem RL.of : ∀ {l : List C} {m : List Value}, m.length = l.length -> (∀ (j : Nat) (c : C), l[j]? = some c -> ∃ v, m[j]? = some v /\ RC σ D c v) -> RL σ D l m
 | [], [], _, _ => trivial
 | [], _ :: _, h, _ => by simp at h
 | _ :: _, [], h, _ => by simp at h
 | a :: l, v :: m, h, g => by
  refine ⟨?_, RL.of (by simpa using h) (fun j c e => ?_)⟩
  ·obtain ⟨v', h1, h2⟩ := g 0 a rfl
   rw [List.getElem?_cons_zero] at h1
   cases h1; exact h2
  ·have := g (j + 1) c (by simpa using e)
   simpa using this
end
def RM (σ : Nat -> Blk) (D : Nat -> Prop) : List (C × V) -> List MapEntry -> Prop
 | [], [] => True
 | a :: l, b :: m => (RC σ D a.1 b.key /\ RV σ D a.2 b.val) /\ RM σ D l m
 | _, _ => False
theorem RM.ext {σ σ' : Nat -> Blk} {D D' : Nat -> Prop} : ∀ {l : List (C × V)} {m : List MapEntry}, RM σ D l m -> (∀ i, D i -> σ' i = σ i) -> (∀ i, D i -> D' i) -> RM σ' D' l m
 | [], [], _, _, _ => trivial
 | _ :: _, _ :: _, h, hs, hD => ⟨⟨h.1.1.ext hs hD, h.1.2.ext hs hD⟩, h.2.ext hs hD⟩
def ObjCells (σ : Nat -> Blk) (D : Nat -> Prop) (i : Nat) (o : AO) (w : World) : Prop :=
 ∃ (cur : Array Value) (fr : Nat × Nat), w.heap[(σ i).b]? = some (.cells cur o.ty fr) /\ (o.fz = false -> fr = (0, 0)) /\ cur.size = (σ i).t /\ o.cs.length <= (σ i).t /\ (o.opn = false -> o.cs.length = (σ i).t) /\
  ∀ (j : Nat) (c : C), o.cs[j]? = some c -> ∃ v, cur[j]? = some v /\ RC σ D c v
def ObjMap (σ : Nat -> Blk) (D : Nat -> Prop) (i : Nat) (es : List (C × V)) (w : World) : Prop := ∃ (m : Array MapEntry) (clock : Nat), w.heap[(σ i).b]? = some (.map m clock) /\ RM σ D es m.toList
def ObjAt (σ : Nat -> Blk) (D : Nat -> Prop) (i : Nat) (o : AO) (w : World) : Prop := match o.k with
 | .mp es => o.cs = [] /\ ObjMap σ D i es w
 | _ => ObjCells σ D i o w
theorem ObjAt.ok {σ : Nat -> Blk} {D : Nat -> Prop} {i : Nat} {o : AO} {w : World} (h : ObjAt σ D i o w) (hf : o.fz = false) : ObjCells σ D i o w := by
 unfold ObjAt at h
 unfold AO.fz at hf
 split at h
 ·rename_i e; rw [e] at hf; cases hf
 ·exact h
theorem ObjAt.either {σ : Nat -> Blk} {D : Nat -> Prop} {i : Nat} {o : AO} {w : World} (h : ObjAt σ D i o w) : o.cs = [] ∨ ObjCells σ D i o w := by
 unfold ObjAt at h
 split at h
 ·exact .inl h.1
 ·exact .inr h
structure Sat (σ : Nat -> Blk) (D : Nat -> Prop) (h : Heap) (w : World) : Prop where
 obj : ∀ i o, h i = some o -> D i /\ ObjAt σ D i o w
 inj : ∀ i j, (h i).isSome = true -> (h j).isSome = true -> (σ i).b = (σ j).b -> i = j
def rst (F : Nat -> Bool) (h : Heap) : Heap := fun i => if F i then h i else none
def upd (F : Nat -> Bool) (n n' : Nat) (h g : Heap) : Heap := fun i => if F i || (decide (n <= i) && decide (i < n')) then g i else h i
def more (D : Nat -> Prop) (n n' : Nat) : Nat -> Prop := fun i => D i ∨ (n <= i /\ i < n')
structure Out (σ : Nat -> Blk) (D : Nat -> Prop) (w : World) (h h' : Heap) (n n' : Nat) (W : Nat -> Bool) (σ' : Nat -> Blk) (w' : World) : Prop where
 same : ∀ i, ¬ (n <= i /\ i < n') -> σ' i = σ i
 sat : Sat σ' (more D n n') h' w'
 tch : Tch (fun k => ∃ i, W i = true /\ (h i).isSome = true /\ k = (σ i).b) w w'
 old : ∀ i, ¬ (n <= i /\ i < n') -> (h' i).isSome = true -> (h i).isSome = true
 new : ∀ i, n <= i -> i < n' -> (h' i).isSome = true -> w.heap.size <= (σ' i).b ∨ ∃ j, W j = true /\ (h j).isSome = true /\ h' j = none /\ (σ' i).b = (σ j).b
theorem ObjAt.lt {σ : Nat -> Blk} {D : Nat -> Prop} {i : Nat} {o : AO} {w : World} (h : ObjAt σ D i o w) : (σ i).b < w.heap.size := by
 unfold ObjAt at h
 split at h
 ·obtain ⟨_, m, c, h1, _⟩ := h
  exact (Array.getElem?_eq_some_iff.1 h1).1
 ·obtain ⟨cur, fr, h1, _⟩ := h
  exact (Array.getElem?_eq_some_iff.1 h1).1
theorem ObjAt.ext {σ σ' : Nat -> Blk} {D D' : Nat -> Prop} {i : Nat} {o : AO} {w w' : World} (h : ObjAt σ D i o w) (hi : σ' i = σ i) (hb : w'.heap[(σ i).b]? = w.heap[(σ i).b]?) (hs : ∀ i, D i -> σ' i = σ i) (hD : ∀ i, D i -> D' i) : ObjAt σ' D' i o w' := by
 unfold ObjAt at h ⊢
 split at h
 ·obtain ⟨h0, m, c, h1, h2⟩ := h
  exact ⟨h0, m, c, by rw [hi, hb]; exact h1, h2.ext hs hD⟩
 ·obtain ⟨cur, fr, h1, h0, h2, h3, h4, h5⟩ := h
  refine ⟨cur, fr, by rw [hi, hb]; exact h1, h0, by rw [hi]; exact h2, by rw [hi]; exact h3, by rw [hi]; exact h4, fun j c e => ?_⟩
  obtain ⟨v, g1, g2⟩ := h5 j c e
  exact ⟨v, g1, g2.ext hs hD⟩
theorem frame {σ σ' : Nat -> Blk} {D : Nat -> Prop} {w w' : World} {h g g' : Heap} {n n' : Nat} {F W : Nat -> Bool} (hs : Sat σ D h w) (hF : ∀ i, F i = true -> g i = h i) (hg : ∀ i, F i = false -> g i = none) (hD : ∀ i, n <= i -> i < n' -> ¬ D i)
  (ho : Out σ D w g g' n n' W σ' w') (hW : ∀ i, W i = true -> F i = true) : Out σ D w h (upd F n n' h g') n n' W σ' w' := by
 have hsame : ∀ i, D i -> σ' i = σ i := fun i hi => ho.same i (fun ⟨a, b⟩ => hD i a b hi)
 have hgs : ∀ i, (g i).isSome = true -> (h i).isSome = true := fun i hi => by
  cases e : F i with
  | false => rw [hg i e] at hi; cases hi
  | true => rw [<- hF i e]; exact hi
 have hrest : ∀ i, F i = false -> (h i).isSome = true -> w'.heap[(σ i).b]? = w.heap[(σ i).b]? := fun i hi hh => by
  obtain ⟨o, ho1⟩ := Option.isSome_iff_exists.1 hh
  obtain ⟨hDi, hoi⟩ := hs.obj i o ho1
  refine ho.tch.block _ hoi.lt ?_
  rintro ⟨j, h1, h2, h3⟩
  have := hs.inj i j hh (hgs j h2) h3
  subst this
  rw [hW i h1] at hi; cases hi
 have hne : ∀ i, (h i).isSome = true -> ¬ (n <= i /\ i < n') := fun i hh ⟨a, b⟩ => by
  obtain ⟨o, ho1⟩ := Option.isSome_iff_exists.1 hh
  exact hD i a b (hs.obj i o ho1).1
 refine ⟨ho.same, ⟨fun i o e => ?_, fun i j hi hj e => ?_⟩, ho.tch.mono (fun k _ ⟨i, a, b, c⟩ => ⟨i, a, hgs i b, c⟩), ?_, ?_⟩
 ·unfold upd at e
  by_cases c : (F i || (decide (n <= i) && decide (i < n'))) = true
  ·rw [if_pos c] at e; exact ho.sat.obj i o e
  ·rw [if_neg c] at e
   have hFi : F i = false := by cases e2 : F i with | false => rfl | true => simp [e2] at c
   obtain ⟨h1, h2⟩ := hs.obj i o e
   exact ⟨.inl h1, h2.ext (hsame i h1) (hrest i hFi (by rw [e]; rfl)) hsame (fun _ x => .inl x)⟩
 ·-- no two in one block
  have key : ∀ i j, (upd F n n' h g' i).isSome = true -> (F i || (decide (n <= i) && decide (i < n'))) = true -> (h j).isSome = true -> (F j || (decide (n <= j) && decide (j < n'))) ≠ true -> (σ' i).b = (σ' j).b -> False := by
   intro i j hi ci hj cj e
   unfold upd at hi; rw [if_pos ci] at hi
   obtain ⟨oj, hoj⟩ := Option.isSome_iff_exists.1 hj
   obtain ⟨hDj, hoj2⟩ := hs.obj j oj hoj
   have hFj : F j = false := by cases e2 : F j with | false => rfl | true => simp [e2] at cj
   rw [hsame j hDj] at e
   by_cases hn : n <= i /\ i < n'
   ·rcases ho.new i hn.1 hn.2 hi with h1 | ⟨k, h1, h2, h3, h4⟩
    ·have := hoj2.lt; omega
    ·have := hs.inj k j (hgs k h2) hj (by rw [<- h4]; exact e)
     subst this
     rw [hW k h1] at hFj; cases hFj
   ·have hFi : F i = true := by
     cases e2 : F i with
     | true => rfl
     | false =>
      exfalso; apply hn
      simpa [e2] using ci
    rw [ho.same i hn] at e
    -- i is of F and alive behind: alive ahead, too
    have hgi : (g i).isSome = true := ho.old i hn hi
    have := hs.inj i j (hgs i hgi) hj e
    subst this
    rw [hFi] at hFj; cases hFj
  by_cases ci : (F i || (decide (n <= i) && decide (i < n'))) = true
  ·by_cases cj : (F j || (decide (n <= j) && decide (j < n'))) = true
   ·unfold upd at hi hj; rw [if_pos ci] at hi; rw [if_pos cj] at hj
    exact ho.sat.inj i j hi hj e
   ·refine (key i j hi ci ?_ cj e).elim
    unfold upd at hj; rw [if_neg cj] at hj; exact hj
  ·by_cases cj : (F j || (decide (n <= j) && decide (j < n'))) = true
   ·refine (key j i hj cj ?_ ci e.symm).elim
    unfold upd at hi; rw [if_neg ci] at hi; exact hi
   ·unfold upd at hi hj; rw [if_neg ci] at hi; rw [if_neg cj] at hj
    obtain ⟨oi, hoi⟩ := Option.isSome_iff_exists.1 hi
    obtain ⟨oj, hoj⟩ := Option.isSome_iff_exists.1 hj
    rw [hsame i (hs.obj i oi hoi).1, hsame j (hs.obj j oj hoj).1] at e
    exact hs.inj i j hi hj e
 ·intro i hn hh
  unfold upd at hh
  by_cases c : (F i || (decide (n <= i) && decide (i < n'))) = true
  ·rw [if_pos c] at hh
   exact hgs i (ho.old i hn hh)
  ·rw [if_neg c] at hh; exact hh
 ·intro i hi hi' hh
  unfold upd at hh
  have c : (F i || (decide (n <= i) && decide (i < n'))) = true := by simp [hi, hi']
  rw [if_pos c] at hh
  rcases ho.new i hi hi' hh with h1 | ⟨j, h1, h2, h3, h4⟩
  ·exact .inl h1
  ·refine .inr ⟨j, h1, hgs j h2, ?_, h4⟩
   unfold upd
   have := hW j h1
   simp [this, h3]
end Ev
namespace Ev
open Go Go.RowKit Go.Maps
inductive Ef
 | no (F : Nat) | new (F : Nat) (o : AO) | set (F i : Nat) (o : AO) | mv (F i : Nat) (o : AO)
def tb (m : Nat) : Nat -> Bool := fun i => m.testBit i
def Ef.F : Ef -> Nat | .no F => F | .new F _ => F | .set F _ _ => F | .mv F _ _ => F
def Ef.W : Ef -> Nat -> Bool | .no _, _ => false | .new _ _, _ => false | .set _ i _, j => j == i | .mv _ i _, j => j == i
def Ef.n' (n : Nat) : Ef -> Nat | .no _ => n | .new _ _ => n + 1 | .set _ _ _ => n | .mv _ _ _ => n + 1
def Ef.ap (n : Nat) (H : Heap) : Ef -> Heap
 | .no _ => H
 | .new _ o => fun j => if j = n then some o else H j
 | .set _ i o => fun j => if j = i then some o else H j
 | .mv _ i o => fun j => if j = n then some o else if j = i then none else H j
def aft (F : Nat -> Bool) (n n' : Nat) (g : Heap) : Heap := fun j => if F j = true ∨ (n <= j /\ j < n') then g j else none
theorem aft_some {F : Nat -> Bool} {n n' : Nat} {g : Heap} {i : Nat} {x : AO} : aft F n n' g i = some x ↔ (F i = true ∨ (n <= i /\ i < n')) /\ g i = some x := by
 unfold aft; split
 ·rename_i h; exact ⟨fun e => ⟨h, e⟩, fun e => e.2⟩
 ·rename_i h; exact ⟨fun e => (by cases e), fun e => absurd e.1 h⟩
theorem rst_some {F : Nat -> Bool} {g : Heap} {i : Nat} {x : AO} : rst F g i = some x ↔ F i = true /\ g i = some x := by
 unfold rst; split
 ·rename_i h; exact ⟨fun e => ⟨h, e⟩, fun e => e.2⟩
 ·rename_i h; exact ⟨fun e => (by cases e), fun e => absurd e.1 h⟩
theorem some_of {a : Option AO} {x : AO} (h : a = some x) : a.isSome = true := by rw [h]; rfl
structure Did (P : Program) (ρ : Operand -> Value) (o : Oper) (σ : Nat -> Blk) (D : Nat -> Prop) (w : World) (H : Heap) (n : Nat) (s : S) (e : Ef) (nx : Next) (v : Value) (σ' : Nat -> Blk) (w' : World) : Prop where
 run : (execOp ρ o).run P w = .ok nx w'
 nx : nx = .value v ∨ (nx = .skip /\ v = undef)
 val : RS σ' (more D n (e.n' n)) s v
 out : Out σ D w (rst (tb e.F) H) (aft (tb e.F) n (e.n' n) (e.ap n H)) n (e.n' n) e.W σ' w'
def at_ (σ : Nat -> Blk) (n : Nat) (k : Blk) : Nat -> Blk := fun i => if i = n then k else σ i
theorem at_same {σ : Nat -> Blk} {n : Nat} {k : Blk} : at_ σ n k n = k := if_pos rfl
theorem at_other {σ : Nat -> Blk} {n i : Nat} {k : Blk} (h : i ≠ n) : at_ σ n k i = σ i := if_neg h
section
variable {P : Program} {ρ : Operand -> Value} {o : Oper} {σ : Nat -> Blk} {D : Nat -> Prop} {w : World} {H : Heap} {n : Nat}
theorem did_no {F : Nat} {s : S} {v : Value} {nx : Next} (hs : Sat σ D (rst (tb F) H) w) (hr : (execOp ρ o).run P w = .ok nx w) (hn : nx = .value v ∨ (nx = .skip /\ v = undef)) (hv : RS σ D s v) :
  Did P ρ o σ D w H n s (.no F) nx v σ w := by
 have key : ∀ i x, aft (tb F) n n H i = some x -> rst (tb F) H i = some x := fun i x e => by
  obtain ⟨h1, h2⟩ := aft_some.1 e
  exact rst_some.2 ⟨h1.resolve_right (by omega), h2⟩
 refine ⟨hr, hn, hv.ext (fun _ _ => rfl) (fun _ h => .inl h), ⟨fun _ _ => rfl, ⟨fun i ob e => ?_, fun i j hi hj e => ?_⟩, Tch.refl _ _, fun i _ hh => ?_, fun i h1 h2 => ?_⟩⟩
 ·obtain ⟨h1, h2⟩ := hs.obj i ob (key i ob e)
  exact ⟨.inl h1, h2.ext rfl rfl (fun _ _ => rfl) (fun _ h => .inl h)⟩
 ·obtain ⟨x, hx⟩ := Option.isSome_iff_exists.1 hi
  obtain ⟨y, hy⟩ := Option.isSome_iff_exists.1 hj
  exact hs.inj i j (some_of (key i x hx)) (some_of (key j y hy)) e
 ·obtain ⟨x, hx⟩ := Option.isSome_iff_exists.1 hh
  exact some_of (key i x hx)
 ·simp only [Ef.n'] at h2; omega
theorem did_new {F : Nat} {s : S} {v : Value} {w' : World} {nx : Next} {ob : AO} {k : Blk} (hs : Sat σ D (rst (tb F) H) w) (hD : ¬ D n) (hr : (execOp ρ o).run P w = .ok nx w') (hn : nx = .value v ∨ (nx = .skip /\ v = undef))
  (hv : RS (at_ σ n k) (more D n (n + 1)) s v) (ht : Tch No w w') (hk : w.heap.size <= k.b) (ho : ObjAt (at_ σ n k) (more D n (n + 1)) n ob w') : Did P ρ o σ D w H n s (.new F ob) nx v (at_ σ n k) w' := by
 have hsm : ∀ i, D i -> at_ σ n k i = σ i := fun i hi => at_other (fun e => by subst e; exact hD hi)
 have key : ∀ i, i ≠ n -> ∀ x, aft (tb F) n (n + 1) ((Ef.new F ob).ap n H) i = some x -> rst (tb F) H i = some x := fun i hi x e => by
  obtain ⟨h1, h2⟩ := aft_some.1 e
  simp only [Ef.ap, if_neg hi] at h2
  exact rst_some.2 ⟨h1.resolve_right (by omega), h2⟩
 have keyn : aft (tb F) n (n + 1) ((Ef.new F ob).ap n H) n = some ob := aft_some.2 ⟨.inr ⟨Nat.le_refl _, Nat.lt_succ_self _⟩, by simp [Ef.ap]⟩
 refine ⟨hr, hn, hv, ⟨fun i hi => at_other (fun e => hi (by subst e; simp only [Ef.n']; omega)), ⟨fun i x e => ?_, fun i j hi hj e => ?_⟩, ht.mono (fun _ _ h => h.elim), fun i hi hh => ?_, fun i h1 h2 _ => ?_⟩⟩
 ·by_cases c : i = n
  ·subst c
   have e2 := keyn.symm.trans e
   cases e2
   exact ⟨.inr ⟨Nat.le_refl _, Nat.lt_succ_self _⟩, ho⟩
  ·obtain ⟨h1, h2⟩ := hs.obj i x (key i c x e)
   exact ⟨.inl h1, h2.ext (hsm i h1) (ht.block _ h2.lt (fun h => h)) hsm (fun _ h => .inl h)⟩
 ·have f : ∀ i j, i = n -> j ≠ n -> (aft (tb F) n (n + 1) ((Ef.new F ob).ap n H) j).isSome = true -> (at_ σ n k i).b = (at_ σ n k j).b -> False := fun i j hi hj hh e => by
   subst hi
   obtain ⟨x, hx⟩ := Option.isSome_iff_exists.1 hh
   obtain ⟨h1, h2⟩ := hs.obj j x (key j hj x hx)
   rw [at_same, at_other hj] at e
   have := h2.lt; omega
  by_cases ci : i = n
  ·by_cases cj : j = n
   ·rw [ci, cj]
   ·exact (f i j ci cj hj e).elim
  ·by_cases cj : j = n
   ·exact (f j i cj ci hi e.symm).elim
   ·obtain ⟨x, hx⟩ := Option.isSome_iff_exists.1 hi
    obtain ⟨y, hy⟩ := Option.isSome_iff_exists.1 hj
    rw [at_other ci, at_other cj] at e
    exact hs.inj i j (by rw [key i ci x hx]; rfl) (by rw [key j cj y hy]; rfl) e
 ·obtain ⟨x, hx⟩ := Option.isSome_iff_exists.1 hh
  exact some_of (key i (fun e => hi (by subst e; simp only [Ef.n']; omega)) x hx)
 ·obtain rfl : i = n := by simp only [Ef.n'] at h2; omega
  rw [at_same]; exact .inl hk
theorem did_set {F i : Nat} {s : S} {v : Value} {w' : World} {nx : Next} {ob : AO} (hs : Sat σ D (rst (tb F) H) w) (hF : tb F i = true) (hi0 : (H i).isSome = true) (hr : (execOp ρ o).run P w = .ok nx w') (hn : nx = .value v ∨ (nx = .skip /\ v = undef))
  (hv : RS σ D s v) (ht : Tch (fun k => k = (σ i).b) w w') (ho : ObjAt σ D i ob w') : Did P ρ o σ D w H n s (.set F i ob) nx v σ w' := by
 have key : ∀ j, j ≠ i -> ∀ x, aft (tb F) n n ((Ef.set F i ob).ap n H) j = some x -> rst (tb F) H j = some x := fun j hj x e => by
  obtain ⟨h1, h2⟩ := aft_some.1 e
  simp only [Ef.ap, if_neg hj] at h2
  exact rst_some.2 ⟨h1.resolve_right (by omega), h2⟩
 have hgi : (rst (tb F) H i).isSome = true := by unfold rst; rw [if_pos hF]; exact hi0
 have hDi : D i := by
  obtain ⟨x, hx⟩ := Option.isSome_iff_exists.1 hgi
  exact (hs.obj i x hx).1
 have alive : ∀ j, (aft (tb F) n (n) ((Ef.set F i ob).ap n H) j).isSome = true -> (rst (tb F) H j).isSome = true := fun j hh => by
  by_cases c : j = i
  ·rw [c]; exact hgi
  ·obtain ⟨x, hx⟩ := Option.isSome_iff_exists.1 hh
   rw [key j c x hx]; rfl
 refine ⟨hr, hn, hv.ext (fun _ _ => rfl) (fun _ h => .inl h), ⟨fun _ _ => rfl, ⟨fun j x e => ?_, fun j k hj hk e => hs.inj j k (alive j hj) (alive k hk) e⟩, ht.mono (fun k _ h => ⟨i, by simp [Ef.W], hgi, h⟩), fun j _ hh => alive j hh, fun j h1 h2 => by simp only [Ef.n'] at h2; omega⟩⟩
 by_cases c : j = i
 ·subst c
  have e2 := (aft_some.1 e).2
  simp only [Ef.ap, if_true] at e2
  cases e2
  exact ⟨.inl hDi, ho.ext rfl rfl (fun _ _ => rfl) (fun _ h => .inl h)⟩
 ·obtain ⟨h1, h2⟩ := hs.obj j x (key j c x e)
  refine ⟨.inl h1, h2.ext rfl (ht.block _ h2.lt (fun h => c ?_)) (fun _ _ => rfl) (fun _ h => .inl h)⟩
  exact hs.inj j i (by rw [key j c x e]; rfl) hgi h
theorem out_mv {F i : Nat} {w' : World} {ob : AO} {k : Blk} (hs : Sat σ D (rst (tb F) H) w) (hD : ¬ D n) (hF : tb F i = true) (hi0 : (H i).isSome = true)
  (ht : Tch (fun b => b = (σ i).b) w w') (hk : w.heap.size <= k.b ∨ k.b = (σ i).b) (ho : ObjAt (at_ σ n k) (more D n (n + 1)) n ob w') : Out σ D w (rst (tb F) H) (aft (tb F) n (n + 1) ((Ef.mv F i ob).ap n H)) n (n + 1) (Ef.mv F i ob).W (at_ σ n k) w' := by
 have hsm : ∀ i, D i -> at_ σ n k i = σ i := fun i hi => at_other (fun e => by subst e; exact hD hi)
 have hgi : (rst (tb F) H i).isSome = true := by unfold rst; rw [if_pos hF]; exact hi0
 have hDi : D i := by
  obtain ⟨x, hx⟩ := Option.isSome_iff_exists.1 hgi
  exact (hs.obj i x hx).1
 have hin : i ≠ n := fun e => by subst e; exact hD hDi
 have key : ∀ j, j ≠ n -> ∀ x, aft (tb F) n (n + 1) ((Ef.mv F i ob).ap n H) j = some x -> rst (tb F) H j = some x /\ j ≠ i := fun j hj x e => by
  obtain ⟨h1, h2⟩ := aft_some.1 e
  simp only [Ef.ap, if_neg hj] at h2
  by_cases c : j = i
  ·rw [if_pos c] at h2; cases h2
  ·rw [if_neg c] at h2
   exact ⟨rst_some.2 ⟨h1.resolve_right (by omega), h2⟩, c⟩
 have keyn : aft (tb F) n (n + 1) ((Ef.mv F i ob).ap n H) n = some ob := aft_some.2 ⟨.inr ⟨Nat.le_refl _, Nat.lt_succ_self _⟩, by simp [Ef.ap]⟩
 have keyi : aft (tb F) n (n + 1) ((Ef.mv F i ob).ap n H) i = none := by
  cases e : aft (tb F) n (n + 1) ((Ef.mv F i ob).ap n H) i with
  | none => rfl
  | some x =>
   obtain ⟨_, h2⟩ := aft_some.1 e
   simp [Ef.ap, hin] at h2
 refine ⟨fun j hj => at_other (fun e => hj (by subst e; omega)), ⟨fun j x e => ?_, fun j l hj hl e => ?_⟩, ht.mono (fun b _ h => ⟨i, by simp [Ef.W], hgi, h⟩), fun j hj hh => ?_, fun j h1 h2 _ => ?_⟩
 ·by_cases c : j = n
  ·subst c
   have e2 := keyn.symm.trans e
   cases e2
   exact ⟨.inr ⟨Nat.le_refl _, Nat.lt_succ_self _⟩, ho⟩
  ·obtain ⟨g1, g2⟩ := key j c x e
   obtain ⟨h1, h2⟩ := hs.obj j x g1
   refine ⟨.inl h1, h2.ext (hsm j h1) (ht.block _ h2.lt (fun h => g2 ?_)) hsm (fun _ h => .inl h)⟩
   exact hs.inj j i (by rw [g1]; rfl) hgi h
 ·have f : ∀ a b, a = n -> b ≠ n -> (aft (tb F) n (n + 1) ((Ef.mv F i ob).ap n H) b).isSome = true -> (at_ σ n k a).b = (at_ σ n k b).b -> False := fun a b ha hb hh e => by
   subst ha
   obtain ⟨x, hx⟩ := Option.isSome_iff_exists.1 hh
   obtain ⟨g1, g2⟩ := key b hb x hx
   obtain ⟨h1, h2⟩ := hs.obj b x g1
   rw [at_same, at_other hb] at e
   rcases hk with hk | hk
   ·have := h2.lt; omega
   ·exact g2 (hs.inj b i (by rw [g1]; rfl) hgi (by rw [<- e, hk]))
  by_cases ci : j = n
  ·by_cases cj : l = n
   ·rw [ci, cj]
   ·exact (f j l ci cj hl e).elim
  ·by_cases cj : l = n
   ·exact (f l j cj ci hj e.symm).elim
   ·obtain ⟨x, hx⟩ := Option.isSome_iff_exists.1 hj
    obtain ⟨y, hy⟩ := Option.isSome_iff_exists.1 hl
    rw [at_other ci, at_other cj] at e
    exact hs.inj j l (by rw [(key j ci x hx).1]; rfl) (by rw [(key l cj y hy).1]; rfl) e
 ·obtain ⟨x, hx⟩ := Option.isSome_iff_exists.1 hh
  exact some_of (key j (fun e => hj (by subst e; omega)) x hx).1
 ·obtain rfl : j = n := by omega
  rw [at_same]
  rcases hk with hk | hk
  ·exact .inl hk
  ·exact .inr ⟨i, by simp [Ef.W], hgi, keyi, hk⟩
theorem did_mv {F i : Nat} {s : S} {v : Value} {w' : World} {nx : Next} {ob : AO} {k : Blk} (hs : Sat σ D (rst (tb F) H) w) (hD : ¬ D n) (hF : tb F i = true) (hi0 : (H i).isSome = true) (hr : (execOp ρ o).run P w = .ok nx w') (hn : nx = .value v ∨ (nx = .skip /\ v = undef))
  (hv : RS (at_ σ n k) (more D n (n + 1)) s v) (ht : Tch (fun b => b = (σ i).b) w w') (hk : w.heap.size <= k.b ∨ k.b = (σ i).b) (ho : ObjAt (at_ σ n k) (more D n (n + 1)) n ob w') : Did P ρ o σ D w H n s (.mv F i ob) nx v (at_ σ n k) w' :=
 ⟨hr, hn, hv, out_mv hs hD hF hi0 ht hk ho⟩
end
end Ev
end Go.Proofs.YtfedhcnmdmhppaaGreat
