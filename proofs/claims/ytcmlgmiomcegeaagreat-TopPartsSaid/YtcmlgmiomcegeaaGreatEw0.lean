/- A closed call run by the kernel: abstract values and memory, what they stand for, what a piece of a run leaves. No condition. -/
import Derived.Test.YtcmlgmiomcegeaaGreatMem
namespace Go.Proofs.YtcmlgmiomcegeaaGreat.Ev
open Go Go.RowKit Go.Maps
set_option linter.unusedVariables false
set_option linter.unusedSimpArgs false
set_option linter.unusedSectionVars false

/-- Values from outside, by numbers: nothing is known of them but that they are of one cell. -/
class Env where
  val : Nat → Value
  one : ∀ j, (val j).oneCell' = true
  row : Nat → Addr
  num : Nat → Bool
  isNum : ∀ j, num j = true → ∃ n, val j = .int .i64 n
  nei : Nat → Int → Bool
  isNei : ∀ j y, nei j y = true → ∃ n, val j = .int .i64 n ∧ n ≠ y
/-- Values from outside of which nothing is known. -/
@[reducible] def envV (val : Nat → Value) (one : ∀ j, (val j).oneCell' = true) (row : Nat → Addr) : Env := ⟨val, one, row, fun _ => false, fun _ h => (by cases h), fun _ _ => false, fun _ _ h => (by cases h)⟩
variable [Env]
/-- A capacity: known, or to the end of the object (elements of so many cells). -/
inductive Cp | ex (c : Nat) | op (sz : Nat)
/-- A value of one cell: places are (object, offset). -/
inductive C
  | bool (b : Bool) | int (k : IntKind) (n : Int) | str (s : List UInt8)
  | ptr (i off : Nat) | nilp | sl (i off len : Nat) (c : Cp) | snil | se
  | fn (f : FuncId) (cap : List (Nat × Nat)) | nilf | map (i : Nat) | mapn | nilI | bm (f : FuncId) (i off : Nat) | ch (i : Nat) | ext (j : Nat) | sg (i m : Nat) (ex : Bool) | xp (i k : Nat) | ge (m : Int) | ub | chn
inductive V | c (x : C) | agg (l : List C)
inductive S | v (x : V) | tup (l : List V) | un
/-- Where an object lies: block, how many cells it has. -/
structure Blk where
  b : Nat
  t : Nat
/-- Cells that may be written; cells that are only read; a map, each entry with its stamp, and its clock; one that goes over a map; a channel that is open; a row from outside: its first m elements are the values from f on. -/
inductive Kd | ok | rd | mp (es : List (C × V × Nat)) (cl : Nat) | it (m since : Nat) (seen : List Nat) (last : Nat) | ch (room : Nat) (buf : List V) | row (f m : Nat)
/-- An object: its cells, as far as they are known; open: there may be more. -/
structure AO where
  ty : TypeId
  cs : List C
  opn : Bool
  k : Kd
def AO.fz (o : AO) : Bool := match o.k with | .ok => false | _ => true
abbrev Heap := Nat → Option AO

def adr (k : Blk) (off : Nat) : Addr := ⟨k.b, off, none⟩
def RC (σ : Nat → Blk) (D : Nat → Prop) : C → Value → Prop
  | .bool b, v => v = .bool b
  | .int k n, v => v = .int k n
  | .str s, v => v = .string ⟨s.toArray⟩
  | .ptr i off, v => D i ∧ v = .pointer (some (adr (σ i) off))
  | .nilp, v => v = .pointer none
  | .sl i off len (.ex c), v => D i ∧ v = .slice (some (adr (σ i) off)) len c
  | .sl i off len (.op sz), v => D i ∧ ∃ c, v = .slice (some (adr (σ i) off)) len c ∧ len ≤ c ∧ c ≤ maxLen ∧ off + c * sz = (σ i).t
  | .snil, v => v = .slice none 0 0
  | .se, v => ∃ a c, v = .slice a 0 c
  | .fn f cap, v => (∀ p ∈ cap, D p.1) ∧ v = .func (.func f) #[] ((cap.map fun p => Value.pointer (some (adr (σ p.1) p.2))).toArray)
  | .nilf, v => v = .nilFunc
  | .map i, v => D i ∧ v = .map (some (σ i).b)
  | .mapn, v => v = .map none
  | .nilI, v => v = .nilIface
  | .bm f i off, v => D i ∧ v = .func (.func f) #[.pointer (some (adr (σ i) off))] #[]
  | .ch i, v => D i ∧ v = .chan (some (σ i).b)
  | .ext j, v => v = Env.val j
  | .sg i m ex, v => D i ∧ (Env.row i).block = (σ i).b ∧ ∃ len c, v = .slice (some (Env.row i)) len c ∧ m ≤ len ∧ (ex = true → len = m)
  | .xp i k, v => D i ∧ (Env.row i).block = (σ i).b ∧ v = .pointer (some ((Env.row i).add k))
  | .ge m, v => ∃ x, v = .int .i64 x ∧ m ≤ x
  | .ub, v => ∃ b, v = .bool b
  | .chn, v => v = .chan none
def RL (σ : Nat → Blk) (D : Nat → Prop) : List C → List Value → Prop
  | [], [] => True
  | c :: l, v :: m => RC σ D c v ∧ RL σ D l m
  | _, _ => False
def RV (σ : Nat → Blk) (D : Nat → Prop) : V → Value → Prop
  | .c x, v => RC σ D x v
  | .agg l, v => ∃ m, RL σ D l m ∧ v = .agg m.toArray
def RVL (σ : Nat → Blk) (D : Nat → Prop) : List V → List Value → Prop
  | [], [] => True
  | c :: l, v :: m => RV σ D c v ∧ RVL σ D l m
  | _, _ => False
def RS (σ : Nat → Blk) (D : Nat → Prop) : S → Value → Prop
  | .v x, v => RV σ D x v
  | .tup l, v => ∃ m, RVL σ D l m ∧ v = .tuple m.toArray
  | .un, v => v = undef

section
variable {σ σ' : Nat → Blk} {D D' : Nat → Prop}
theorem RC.ext {c : C} {v : Value} (h : RC σ D c v) (hs : ∀ i, D i → σ' i = σ i) (hD : ∀ i, D i → D' i) : RC σ' D' c v := by
  cases c with
  | ptr i off => obtain ⟨h1, h2⟩ := h; exact ⟨hD i h1, by rw [hs i h1]; exact h2⟩
  | map i => obtain ⟨h1, h2⟩ := h; exact ⟨hD i h1, by rw [hs i h1]; exact h2⟩
  | bm f i off => obtain ⟨h1, h2⟩ := h; exact ⟨hD i h1, by rw [hs i h1]; exact h2⟩
  | ch i => obtain ⟨h1, h2⟩ := h; exact ⟨hD i h1, by rw [hs i h1]; exact h2⟩
  | sg i m ex => obtain ⟨h1, h2⟩ := h; exact ⟨hD i h1, by rw [hs i h1]; exact h2⟩
  | xp i k => obtain ⟨h1, h2⟩ := h; exact ⟨hD i h1, by rw [hs i h1]; exact h2⟩
  | sl i off len cp =>
    cases cp with
    | ex c => obtain ⟨h1, h2⟩ := h; exact ⟨hD i h1, by rw [hs i h1]; exact h2⟩
    | op sz => obtain ⟨h1, h2⟩ := h; exact ⟨hD i h1, by rw [hs i h1]; exact h2⟩
  | fn f cap =>
    obtain ⟨h1, h2⟩ := h
    refine ⟨fun p hp => hD _ (h1 p hp), ?_⟩
    rw [h2]
    congr 2
    apply List.map_congr_left
    intro p hp
    rw [hs _ (h1 p hp)]
  | _ => exact h
theorem RL.ext : ∀ {l : List C} {m : List Value}, RL σ D l m → (∀ i, D i → σ' i = σ i) → (∀ i, D i → D' i) → RL σ' D' l m
  | [], [], _, _, _ => trivial
  | _ :: _, _ :: _, h, hs, hD => ⟨h.1.ext hs hD, h.2.ext hs hD⟩
theorem RV.ext {x : V} {v : Value} (h : RV σ D x v) (hs : ∀ i, D i → σ' i = σ i) (hD : ∀ i, D i → D' i) : RV σ' D' x v := by
  cases x with
  | c x => exact RC.ext h hs hD
  | agg l => obtain ⟨m, h1, h2⟩ := h; exact ⟨m, h1.ext hs hD, h2⟩
theorem RVL.ext : ∀ {l : List V} {m : List Value}, RVL σ D l m → (∀ i, D i → σ' i = σ i) → (∀ i, D i → D' i) → RVL σ' D' l m
  | [], [], _, _, _ => trivial
  | _ :: _, _ :: _, h, hs, hD => ⟨h.1.ext hs hD, h.2.ext hs hD⟩
theorem RS.ext {x : S} {v : Value} (h : RS σ D x v) (hs : ∀ i, D i → σ' i = σ i) (hD : ∀ i, D i → D' i) : RS σ' D' x v := by
  cases x with
  | v x => exact RV.ext h hs hD
  | tup l => obtain ⟨m, h1, h2⟩ := h; exact ⟨m, h1.ext hs hD, h2⟩
  | un => exact h
theorem RC.one {c : C} {v : Value} (h : RC σ D c v) : v.oneCell' = true := by
  cases c with
  | sl i off len cp =>
    cases cp with
    | ex c => obtain ⟨_, rfl⟩ := h; rfl
    | op sz => obtain ⟨_, c, rfl, _⟩ := h; rfl
  | ptr i off => obtain ⟨_, rfl⟩ := h; rfl
  | map i => obtain ⟨_, rfl⟩ := h; rfl
  | bm f i off => obtain ⟨_, rfl⟩ := h; rfl
  | ch i => obtain ⟨_, rfl⟩ := h; rfl
  | ext j => rw [show v = Env.val j from h]; exact Env.one j
  | sg i m ex => obtain ⟨_, _, _, _, rfl, _⟩ := h; rfl
  | xp i k => obtain ⟨_, _, rfl⟩ := h; rfl
  | ge m => obtain ⟨_, rfl, _⟩ := h; rfl
  | ub => obtain ⟨_, rfl⟩ := h; rfl
  | fn f cap => obtain ⟨_, rfl⟩ := h; rfl
  | se => obtain ⟨_, _, rfl⟩ := h; rfl
  | _ => (cases h; rfl)
theorem RL.length : ∀ {l : List C} {m : List Value}, RL σ D l m → m.length = l.length
  | [], [], _ => rfl
  | _ :: _, _ :: _, h => by rw [List.length_cons, List.length_cons, h.2.length]
theorem RL.get : ∀ {l : List C} {m : List Value} {j : Nat} {c : C}, RL σ D l m → l[j]? = some c → ∃ v, m[j]? = some v ∧ RC σ D c v
  | [], [], _, _, _, e => by cases e
  | a :: l, v :: m, 0, c, h, e => by
    rw [List.getElem?_cons_zero] at e
    cases e
    exact ⟨v, rfl, h.1⟩
  | a :: l, v :: m, j + 1, c, h, e => h.2.get (by simpa using e)
theorem RL.of : ∀ {l : List C} {m : List Value}, m.length = l.length → (∀ (j : Nat) (c : C), l[j]? = some c → ∃ v, m[j]? = some v ∧ RC σ D c v) → RL σ D l m
  | [], [], _, _ => trivial
  | [], _ :: _, h, _ => by simp at h
  | _ :: _, [], h, _ => by simp at h
  | a :: l, v :: m, h, g => by
    refine ⟨?_, RL.of (by simpa using h) (fun j c e => ?_)⟩
    · obtain ⟨v', h1, h2⟩ := g 0 a rfl
      rw [List.getElem?_cons_zero] at h1
      cases h1; exact h2
    · have := g (j + 1) c (by simpa using e)
      simpa using this
end

/-- A map's entries. -/
def RM (σ : Nat → Blk) (D : Nat → Prop) : List (C × V × Nat) → List MapEntry → Prop
  | [], [] => True
  | a :: l, b :: m => (RC σ D a.1 b.key ∧ RV σ D a.2.1 b.val ∧ b.born = a.2.2) ∧ RM σ D l m
  | _, _ => False
theorem RM.ext {σ σ' : Nat → Blk} {D D' : Nat → Prop} : ∀ {l : List (C × V × Nat)} {m : List MapEntry}, RM σ D l m → (∀ i, D i → σ' i = σ i) → (∀ i, D i → D' i) → RM σ' D' l m
  | [], [], _, _, _ => trivial
  | _ :: _, _ :: _, h, hs, hD => ⟨⟨h.1.1.ext hs hD, h.1.2.1.ext hs hD, h.1.2.2⟩, h.2.ext hs hD⟩
/-- An object of cells as it lies in the world. -/
def ObjCells (σ : Nat → Blk) (D : Nat → Prop) (i : Nat) (o : AO) (w : World) : Prop :=
  ∃ (cur : Array Value) (fr : Nat × Nat), w.heap[(σ i).b]? = some (.cells cur o.ty fr) ∧ (o.fz = false → fr = (0, 0)) ∧ cur.size = (σ i).t ∧ o.cs.length ≤ (σ i).t ∧ (o.opn = false → o.cs.length = (σ i).t) ∧
    ∀ (j : Nat) (c : C), o.cs[j]? = some c → ∃ v, cur[j]? = some v ∧ RC σ D c v
def ObjMap (σ : Nat → Blk) (D : Nat → Prop) (i : Nat) (es : List (C × V × Nat)) (cl : Nat) (w : World) : Prop := ∃ m : Array MapEntry, w.heap[(σ i).b]? = some (.map m cl) ∧ RM σ D es m.toList
def ObjIter (σ : Nat → Blk) (D : Nat → Prop) (i m since : Nat) (seen : List Nat) (last : Nat) (w : World) : Prop := D m ∧ w.heap[(σ i).b]? = some (.mapIter (some (σ m).b) since seen.toArray last)
def ObjChan (σ : Nat → Blk) (D : Nat → Prop) (i room : Nat) (buf : List V) (w : World) : Prop := ∃ (vs : List Value) (s r : Nat), w.heap[(σ i).b]? = some (.chan room vs.toArray false s r false) ∧ RVL σ D buf vs
theorem cell_congr {w w' : World} {a : Addr} (h : w'.heap[a.block]? = w.heap[a.block]?) : w'.cell? a = w.cell? a := by unfold World.cell?; rw [h]
theorem add_block (a : Addr) (k : Nat) : (a.add k).block = a.block := by unfold Addr.add; split <;> rfl
def ObjRow (σ : Nat → Blk) (i f m : Nat) (w : World) : Prop := (Env.row i).block = (σ i).b ∧ (∃ x, w.heap[(σ i).b]? = some x) ∧ ∀ k, k < m → w.cell? ((Env.row i).add k) = some (Env.val (f + k))
/-- An object as it lies in the world. -/
def ObjAt (σ : Nat → Blk) (D : Nat → Prop) (i : Nat) (o : AO) (w : World) : Prop := match o.k with
  | .mp es cl => o.cs = [] ∧ ObjMap σ D i es cl w
  | .it m since seen last => o.cs = [] ∧ ObjIter σ D i m since seen last w
  | .ch room buf => o.cs = [] ∧ ObjChan σ D i room buf w
  | .row f m => o.cs = [] ∧ ObjRow σ i f m w
  | _ => ObjCells σ D i o w
theorem ObjAt.ok {σ : Nat → Blk} {D : Nat → Prop} {i : Nat} {o : AO} {w : World} (h : ObjAt σ D i o w) (hf : o.fz = false) : ObjCells σ D i o w := by
  unfold ObjAt at h
  unfold AO.fz at hf
  split at h
  · rename_i e; rw [e] at hf; cases hf
  · rename_i e; rw [e] at hf; cases hf
  · rename_i e; rw [e] at hf; cases hf
  · rename_i e; rw [e] at hf; cases hf
  · exact h
theorem ObjAt.either {σ : Nat → Blk} {D : Nat → Prop} {i : Nat} {o : AO} {w : World} (h : ObjAt σ D i o w) : o.cs = [] ∨ ObjCells σ D i o w := by
  unfold ObjAt at h
  split at h
  · exact .inl h.1
  · exact .inl h.1
  · exact .inl h.1
  · exact .inl h.1
  · exact .inr h
structure Sat (σ : Nat → Blk) (D : Nat → Prop) (h : Heap) (w : World) : Prop where
  obj : ∀ i o, h i = some o → D i ∧ ObjAt σ D i o w
  inj : ∀ i j, (h i).isSome = true → (h j).isSome = true → (σ i).b = (σ j).b → i = j
def rst (F : Nat → Bool) (h : Heap) : Heap := fun i => if F i then h i else none
/-- What lies behind a piece of a run that looks at F alone and makes what is numbered from n to n'. -/
def upd (F : Nat → Bool) (n n' : Nat) (h g : Heap) : Heap := fun i => if F i || (decide (n ≤ i) && decide (i < n')) then g i else h i
def more (D : Nat → Prop) (n n' : Nat) : Nat → Prop := fun i => D i ∨ (n ≤ i ∧ i < n')
/-- What a piece of a run leaves: h ahead, h' behind; W: what it writes. -/
structure Out (σ : Nat → Blk) (D : Nat → Prop) (w : World) (h h' : Heap) (n n' : Nat) (W : Nat → Bool) (σ' : Nat → Blk) (w' : World) : Prop where
  same : ∀ i, ¬ (n ≤ i ∧ i < n') → σ' i = σ i
  sat : Sat σ' (more D n n') h' w'
  tch : Tch (fun k => ∃ i, W i = true ∧ (h i).isSome = true ∧ k = (σ i).b) w w'
  old : ∀ i, ¬ (n ≤ i ∧ i < n') → (h' i).isSome = true → (h i).isSome = true
  new : ∀ i, n ≤ i → i < n' → (h' i).isSome = true → w.heap.size ≤ (σ' i).b ∨ ∃ j, W j = true ∧ (h j).isSome = true ∧ h' j = none ∧ (σ' i).b = (σ j).b
theorem ObjAt.lt {σ : Nat → Blk} {D : Nat → Prop} {i : Nat} {o : AO} {w : World} (h : ObjAt σ D i o w) : (σ i).b < w.heap.size := by
  unfold ObjAt at h
  split at h
  · obtain ⟨_, m, h1, _⟩ := h
    exact (Array.getElem?_eq_some_iff.1 h1).1
  · obtain ⟨_, _, h1⟩ := h
    exact (Array.getElem?_eq_some_iff.1 h1).1
  · obtain ⟨_, vs, s, r, h1, _⟩ := h
    exact (Array.getElem?_eq_some_iff.1 h1).1
  · obtain ⟨_, _, ⟨x, h1⟩, _⟩ := h
    exact (Array.getElem?_eq_some_iff.1 h1).1
  · obtain ⟨cur, fr, h1, _⟩ := h
    exact (Array.getElem?_eq_some_iff.1 h1).1
theorem ObjAt.ext {σ σ' : Nat → Blk} {D D' : Nat → Prop} {i : Nat} {o : AO} {w w' : World} (h : ObjAt σ D i o w) (hi : σ' i = σ i) (hb : w'.heap[(σ i).b]? = w.heap[(σ i).b]?) (hs : ∀ i, D i → σ' i = σ i) (hD : ∀ i, D i → D' i) : ObjAt σ' D' i o w' := by
  unfold ObjAt at h ⊢
  split at h
  · obtain ⟨h0, m, h1, h2⟩ := h
    exact ⟨h0, m, by rw [hi, hb]; exact h1, h2.ext hs hD⟩
  · obtain ⟨h0, h2, h1⟩ := h
    exact ⟨h0, hD _ h2, by rw [hi, hb, hs _ h2]; exact h1⟩
  · obtain ⟨h0, vs, s, r, h1, h2⟩ := h
    exact ⟨h0, vs, s, r, by rw [hi, hb]; exact h1, h2.ext hs hD⟩
  · obtain ⟨h0, h1, h2, h3⟩ := h
    exact ⟨h0, by rw [hi]; exact h1, by rw [hi, hb]; exact h2, fun k hk => by rw [cell_congr (w := w) (by rw [add_block, h1, hb])]; exact h3 k hk⟩
  · obtain ⟨cur, fr, h1, h0, h2, h3, h4, h5⟩ := h
    refine ⟨cur, fr, by rw [hi, hb]; exact h1, h0, by rw [hi]; exact h2, by rw [hi]; exact h3, by rw [hi]; exact h4, fun j c e => ?_⟩
    obtain ⟨v, g1, g2⟩ := h5 j c e
    exact ⟨v, g1, g2.ext hs hD⟩
/-- The rest stays. -/
theorem frame {σ σ' : Nat → Blk} {D : Nat → Prop} {w w' : World} {h g g' : Heap} {n n' : Nat} {F W : Nat → Bool} (hs : Sat σ D h w) (hF : ∀ i, F i = true → g i = h i) (hg : ∀ i, F i = false → g i = none) (hD : ∀ i, n ≤ i → i < n' → ¬ D i)
    (ho : Out σ D w g g' n n' W σ' w') (hW : ∀ i, W i = true → F i = true) : Out σ D w h (upd F n n' h g') n n' W σ' w' := by
  have hsame : ∀ i, D i → σ' i = σ i := fun i hi => ho.same i (fun ⟨a, b⟩ => hD i a b hi)
  have hgs : ∀ i, (g i).isSome = true → (h i).isSome = true := fun i hi => by
    cases e : F i with
    | false => rw [hg i e] at hi; cases hi
    | true => rw [← hF i e]; exact hi
  have hrest : ∀ i, F i = false → (h i).isSome = true → w'.heap[(σ i).b]? = w.heap[(σ i).b]? := fun i hi hh => by
    obtain ⟨o, ho1⟩ := Option.isSome_iff_exists.1 hh
    obtain ⟨hDi, hoi⟩ := hs.obj i o ho1
    refine ho.tch.block _ hoi.lt ?_
    rintro ⟨j, h1, h2, h3⟩
    have := hs.inj i j hh (hgs j h2) h3
    subst this
    rw [hW i h1] at hi; cases hi
  have hne : ∀ i, (h i).isSome = true → ¬ (n ≤ i ∧ i < n') := fun i hh ⟨a, b⟩ => by
    obtain ⟨o, ho1⟩ := Option.isSome_iff_exists.1 hh
    exact hD i a b (hs.obj i o ho1).1
  refine ⟨ho.same, ⟨fun i o e => ?_, fun i j hi hj e => ?_⟩, ho.tch.mono (fun k _ ⟨i, a, b, c⟩ => ⟨i, a, hgs i b, c⟩), ?_, ?_⟩
  · unfold upd at e
    by_cases c : (F i || (decide (n ≤ i) && decide (i < n'))) = true
    · rw [if_pos c] at e; exact ho.sat.obj i o e
    · rw [if_neg c] at e
      have hFi : F i = false := by cases e2 : F i with | false => rfl | true => simp [e2] at c
      obtain ⟨h1, h2⟩ := hs.obj i o e
      exact ⟨.inl h1, h2.ext (hsame i h1) (hrest i hFi (by rw [e]; rfl)) hsame (fun _ x => .inl x)⟩
  · -- no two in one block
    have key : ∀ i j, (upd F n n' h g' i).isSome = true → (F i || (decide (n ≤ i) && decide (i < n'))) = true → (h j).isSome = true → (F j || (decide (n ≤ j) && decide (j < n'))) ≠ true → (σ' i).b = (σ' j).b → False := by
      intro i j hi ci hj cj e
      unfold upd at hi; rw [if_pos ci] at hi
      obtain ⟨oj, hoj⟩ := Option.isSome_iff_exists.1 hj
      obtain ⟨hDj, hoj2⟩ := hs.obj j oj hoj
      have hFj : F j = false := by cases e2 : F j with | false => rfl | true => simp [e2] at cj
      rw [hsame j hDj] at e
      by_cases hn : n ≤ i ∧ i < n'
      · rcases ho.new i hn.1 hn.2 hi with h1 | ⟨k, h1, h2, h3, h4⟩
        · have := hoj2.lt; omega
        · have := hs.inj k j (hgs k h2) hj (by rw [← h4]; exact e)
          subst this
          rw [hW k h1] at hFj; cases hFj
      · have hFi : F i = true := by
          cases e2 : F i with
          | true => rfl
          | false =>
            exfalso; apply hn
            simpa [e2] using ci
        rw [ho.same i hn] at e
        -- i is of F and alive behind: alive ahead, too
        have hgi : (g i).isSome = true := ho.old i hn hi
        have := hs.inj i j (hgs i hgi) hj e
        subst this
        rw [hFi] at hFj; cases hFj
    by_cases ci : (F i || (decide (n ≤ i) && decide (i < n'))) = true
    · by_cases cj : (F j || (decide (n ≤ j) && decide (j < n'))) = true
      · unfold upd at hi hj; rw [if_pos ci] at hi; rw [if_pos cj] at hj
        exact ho.sat.inj i j hi hj e
      · refine (key i j hi ci ?_ cj e).elim
        unfold upd at hj; rw [if_neg cj] at hj; exact hj
    · by_cases cj : (F j || (decide (n ≤ j) && decide (j < n'))) = true
      · refine (key j i hj cj ?_ ci e.symm).elim
        unfold upd at hi; rw [if_neg ci] at hi; exact hi
      · unfold upd at hi hj; rw [if_neg ci] at hi; rw [if_neg cj] at hj
        obtain ⟨oi, hoi⟩ := Option.isSome_iff_exists.1 hi
        obtain ⟨oj, hoj⟩ := Option.isSome_iff_exists.1 hj
        rw [hsame i (hs.obj i oi hoi).1, hsame j (hs.obj j oj hoj).1] at e
        exact hs.inj i j hi hj e
  · intro i hn hh
    unfold upd at hh
    by_cases c : (F i || (decide (n ≤ i) && decide (i < n'))) = true
    · rw [if_pos c] at hh
      exact hgs i (ho.old i hn hh)
    · rw [if_neg c] at hh; exact hh
  · intro i hi hi' hh
    unfold upd at hh
    have c : (F i || (decide (n ≤ i) && decide (i < n'))) = true := by simp [hi, hi']
    rw [if_pos c] at hh
    rcases ho.new i hi hi' hh with h1 | ⟨j, h1, h2, h3, h4⟩
    · exact .inl h1
    · refine .inr ⟨j, h1, hgs j h2, ?_, h4⟩
      unfold upd
      have := hW j h1
      simp [this, h3]
end Go.Proofs.YtcmlgmiomcegeaaGreat.Ev
