/- Part 10 of what the proof of StoreTold rests on. No condition. -/
import Derived.OrdersHeld
import Derived.RegionTactic
import Derived.Shelf.SlicesE.Clone
import Derived.Shelf.SlicesG.CompactI
import Derived.Shelf.SlicesG.CompactS
import Derived.Shelf.Sort.Plain
import Derived.Test.YtfedhcnmdmhppaaGreatPStoreTold03
import Derived.Test.YtfedhcnmdmhppaaGreatPStoreTold09
namespace Go.Proofs.YtfedhcnmdmhppaaGreat
set_option maxRecDepth 100000
set_option maxHeartbeats 60000000
set_option linter.unusedVariables false
set_option linter.unusedSimpArgs false
section
open Go.Shelf
def ShM.clone_ren : Go.Shelf.Ren := ⟨fun | 41 => 90 | n => n, fun | 22 => 22 | 23 => 50 | 4 => 4 | n => n, fun | n => n⟩
theorem ShM.clone : Go.Proofs.SlLaysE0.n41 Tryz.prog ShM.clone_ren where
 mixed := by kernel_rfl
 f41 := ⟨ "slices.Clone[[]postillion/api.Message,postillion/api.Message]", by decide, Tryz.func90.trans (congrArg some (by kernel_rfl))⟩
 t4 := Tryz.underlying4
 a4 := Tryz.isAgg4
 z4 := Tryz.sizeOf4
 v4 := Tryz.zeroValue4
 t22 := Tryz.underlying22
 a22 := Tryz.isAgg22
 z22 := Tryz.sizeOf22
 v22 := Tryz.zeroValue22
def ShB.clone_ren : Go.Shelf.Ren := ⟨fun | 41 => 157 | n => n, fun | 22 => 23 | 23 => 81 | 4 => 4 | n => n, fun | n => n⟩
theorem ShB.clone : Go.Proofs.SlLaysE0.n41 Tryz.prog ShB.clone_ren where
 mixed := by kernel_rfl
 f41 := ⟨ "slices.Clone[[]postillion/api.Branch,postillion/api.Branch]", by decide, Tryz.func157.trans (congrArg some (by kernel_rfl))⟩
 t4 := Tryz.underlying4
 a4 := Tryz.isAgg4
 z4 := Tryz.sizeOf4
 v4 := Tryz.zeroValue4
 t22 := Tryz.underlying23
 a22 := Tryz.isAgg23
 z22 := Tryz.sizeOf23
 v22 := Tryz.zeroValue23
def ShE.clone_ren : Go.Shelf.Ren := ⟨fun | 41 => 194 | n => n, fun | 22 => 24 | 23 => 59 | 4 => 4 | n => n, fun | n => n⟩
theorem ShE.clone : Go.Proofs.SlLaysE0.n41 Tryz.prog ShE.clone_ren where
 mixed := by kernel_rfl
 f41 := ⟨ "slices.Clone[[]postillion/api.End,postillion/api.End]", by decide, Tryz.func194.trans (congrArg some (by kernel_rfl))⟩
 t4 := Tryz.underlying4
 a4 := Tryz.isAgg4
 z4 := Tryz.sizeOf4
 v4 := Tryz.zeroValue4
 t22 := Tryz.underlying24
 a22 := Tryz.isAgg24
 z22 := Tryz.sizeOf24
 v22 := Tryz.zeroValue24
def ShP.clone_ren : Go.Shelf.Ren := ⟨fun | 41 => 200 | n => n, fun | 22 => 25 | 23 => 63 | 4 => 4 | n => n, fun | n => n⟩
theorem ShP.clone : Go.Proofs.SlLaysE0.n41 Tryz.prog ShP.clone_ren where
 mixed := by kernel_rfl
 f41 := ⟨ "slices.Clone[[]postillion/api.Pend,postillion/api.Pend]", by decide, Tryz.func200.trans (congrArg some (by kernel_rfl))⟩
 t4 := Tryz.underlying4
 a4 := Tryz.isAgg4
 z4 := Tryz.sizeOf4
 v4 := Tryz.zeroValue4
 t22 := Tryz.underlying25
 a22 := Tryz.isAgg25
 z22 := Tryz.sizeOf25
 v22 := Tryz.zeroValue25
def ShU.clone_ren : Go.Shelf.Ren := ⟨fun | 41 => 158 | n => n, fun | 22 => 35 | 23 => 45 | 4 => 4 | n => n, fun | n => n⟩
theorem ShU.clone : Go.Proofs.SlLaysE0.n41 Tryz.prog ShU.clone_ren where
 mixed := by kernel_rfl
 f41 := ⟨ "slices.Clone[[]postillion/api.Put,postillion/api.Put]", by decide, Tryz.func158.trans (congrArg some (by kernel_rfl))⟩
 t4 := Tryz.underlying4
 a4 := Tryz.isAgg4
 z4 := Tryz.sizeOf4
 v4 := Tryz.zeroValue4
 t22 := Tryz.underlying35
 a22 := Tryz.isAgg35
 z22 := Tryz.sizeOf35
 v22 := Tryz.zeroValue35
def ShI.clone_ren : Go.Shelf.Ren := ⟨fun | 41 => 161 | n => n, fun | 22 => 34 | 23 => 3 | 4 => 4 | n => n, fun | n => n⟩
theorem ShI.clone : Go.Proofs.SlLaysE0.n41 Tryz.prog ShI.clone_ren where
 mixed := by kernel_rfl
 f41 := ⟨ "slices.Clone[[]int,int]", by decide, Tryz.func161.trans (congrArg some (by kernel_rfl))⟩
 t4 := Tryz.underlying4
 a4 := Tryz.isAgg4
 z4 := Tryz.sizeOf4
 v4 := Tryz.zeroValue4
 t22 := Tryz.underlying34
 a22 := Tryz.isAgg34
 z22 := Tryz.sizeOf34
 v22 := Tryz.zeroValue34
def ShS.clone_ren : Go.Shelf.Ren := ⟨fun | 41 => 98 | n => n, fun | 22 => 68 | 23 => 9 | 4 => 4 | n => n, fun | n => n⟩
theorem ShS.clone : Go.Proofs.SlLaysE0.n41 Tryz.prog ShS.clone_ren where
 mixed := by kernel_rfl
 f41 := ⟨ "slices.Clone[[]string,string]", by decide, Tryz.func98.trans (congrArg some (by kernel_rfl))⟩
 t4 := Tryz.underlying4
 a4 := Tryz.isAgg4
 z4 := Tryz.sizeOf4
 v4 := Tryz.zeroValue4
 t22 := Tryz.underlying68
 a22 := Tryz.isAgg68
 z22 := Tryz.sizeOf68
 v22 := Tryz.zeroValue68
end
section
open Go.RowKit Go.Maps
abbrev LRow := Option Nat × List Nat × List Nat
def lrow (ops : Array Oper) (o : Oper) : LRow := (o.dst, o.looksAt ops, (o.after.toList.filter (Region.binds .any)).map (·.on))
theorem lon_mem {ops : Array Oper} {o : Oper} {k : Nat} : k ∈ (lrow ops o).2.2 ↔ ∃ e ∈ o.after, Region.binds .any e = true /\ e.on = k := by
 unfold lrow
 simp only [List.mem_map, List.mem_filter, Array.mem_toList_iff]
 constructor
 ·rintro ⟨e, ⟨h1, h2⟩, h3⟩; exact ⟨e, h1, h2, h3⟩
 ·rintro ⟨e, h1, h2, h3⟩; exact ⟨e, ⟨h1, h2⟩, h3⟩
end
section
open Go.RowKit Go.Maps
theorem iev_eq {a : Act} {d : Nat} {v : Value} (h : d < a.tmps.size) : (a.put (some d) v).eval (.tmp d) = v := by
 simp [Act.put, Act.eval, h]
theorem iev_ne {a : Act} {d k : Nat} {v : Value} (h : d ≠ k) : (a.put (some d) v).eval (.tmp k) = a.eval (.tmp k) := by
 simp [Act.put, Act.eval, Array.getElem?_setIfInBounds, h]
theorem isize_put {a : Act} {d : Option Nat} {v : Value} : (a.put d v).tmps.size = a.tmps.size := by cases d <;> simp [Act.put]
def putAll (a : Act) : List Nat -> List Value -> Act
 | d :: ds, v :: vs => putAll (a.put (some d) v) ds vs
 | _, _ => a
theorem put_put {a : Act} {d : Nat} {x y : Value} : (a.put (some d) x).put (some d) y = a.put (some d) y := by
 simp [Act.put]
theorem put_comm {a : Act} {d e : Nat} {x y : Value} (h : d ≠ e) : (a.put (some d) x).put (some e) y = (a.put (some e) y).put (some d) x := by
 simp only [Act.put]
 rw [Array.setIfInBounds_comm _ _ h]
theorem put_self {a : Act} {d : Nat} : a.put (some d) (a.eval (.tmp d)) = a := by
 simp only [Act.put, Act.eval]
 congr 1
 apply Array.ext
 ·simp
 ·intro i h1 h2
  rw [Array.getElem_setIfInBounds]
  split
  ·rename_i h; subst h; simp [Array.getD, h2]
  ·rfl
theorem putAll_out : ∀ (ds : List Nat) (vs : List Value) (a : Act) (d : Nat) (v : Value), d ∉ ds -> (putAll a ds vs).put (some d) v = putAll (a.put (some d) v) ds vs
 | [], vs, a, d, v, h => by cases vs <;> rfl
 | e :: ds, [], a, d, v, h => rfl
 | e :: ds, x :: vs, a, d, v, h => by
  rw [List.mem_cons, not_or] at h
  rw [putAll, putAll, putAll_out ds vs _ d v h.2, put_comm (fun e2 => h.1 e2.symm)]
theorem putAll_set : ∀ (ds : List Nat) (vs : List Value) (a : Act) (i : Nat) (d : Nat) (v : Value), ds.Nodup -> vs.length = ds.length -> ds[i]? = some d -> (putAll a ds vs).put (some d) v = putAll a ds (vs.set i v)
 | [], vs, a, i, d, v, _, _, h => by simp at h
 | e :: ds, [], a, i, d, v, _, hl, h => by simp at hl
 | e :: ds, x :: vs, a, 0, d, v, hn, hl, h => by
  simp only [List.getElem?_cons_zero, Option.some.injEq] at h
  subst h
  rw [List.nodup_cons] at hn
  rw [List.set_cons_zero, putAll, putAll, putAll_out _ _ _ _ _ hn.1, put_put]
 | e :: ds, x :: vs, a, i + 1, d, v, hn, hl, h => by
  rw [List.nodup_cons] at hn
  rw [List.getElem?_cons_succ] at h
  rw [List.set_cons_succ, putAll, putAll]
  exact putAll_set ds vs _ i d v hn.2 (by simpa using hl) h
theorem putAll_start : ∀ (ds : List Nat) (a : Act), putAll a ds (ds.map fun d => a.eval (.tmp d)) = a
 | [], a => rfl
 | d :: ds, a => by rw [List.map_cons, putAll, put_self]; exact putAll_start ds a
theorem putAll_ev : ∀ (ds : List Nat) (vs : List Value) (a : Act) (k : Nat), k ∉ ds -> (putAll a ds vs).eval (.tmp k) = a.eval (.tmp k)
 | [], vs, a, k, h => by cases vs <;> rfl
 | e :: ds, [], a, k, h => rfl
 | e :: ds, x :: vs, a, k, h => by
  rw [List.mem_cons, not_or] at h
  rw [putAll, putAll_ev ds vs _ k h.2, iev_ne (fun e2 => h.1 e2.symm)]
theorem putAll_size : ∀ (ds : List Nat) (vs : List Value) (a : Act), (putAll a ds vs).tmps.size = a.tmps.size
 | [], vs, a => by cases vs <;> rfl
 | e :: ds, [], a => rfl
 | e :: ds, x :: vs, a => by rw [putAll, putAll_size ds vs, isize_put]
theorem putAll_get {ds : List Nat} {vs : List Value} {a : Act} (i : Nat) {d : Nat} {u : Value} (hn : ds.Nodup) (hl : vs.length = ds.length) (hd : ds[i]? = some d) (hu : vs[i]? = some u) (hs : d < a.tmps.size) : (putAll a ds vs).eval (.tmp d) = u := by
 have e : vs.set i u = vs := by
  apply List.ext_getElem?
  intro j
  rw [List.getElem?_set]
  split
  ·rename_i h; subst h
   split
   ·exact hu.symm
   ·rename_i h2; rw [List.getElem?_eq_none (by omega)]
  ·rfl
 have := putAll_set ds vs a i d u hn hl hd
 rw [e] at this
 rw [<- this]
 exact iev_eq (by rw [putAll_size]; exact hs)
theorem frame_var {P : Program} {C : Code} {Q : Exit -> Act -> World -> Prop} {a : Act} {w : World} (n : Nat) (hn : a.tmps.size = n) (h : ∀ fr : Act, Hid (fr = a) -> fr.tmps.size = n -> Code.wp P C Q fr w) : Code.wp P C Q a w := h a rfl hn
def Fr (a0 : Act) (ds : List Nat) (a : Act) : Prop := ∃ vs : List Value, vs.length = ds.length /\ a = putAll a0 ds vs
theorem Fr.start (a0 : Act) (ds : List Nat) : Fr a0 ds a0 := ⟨_, by simp, (putAll_start ds a0).symm⟩
theorem Fr.put {a0 a : Act} {ds : List Nat} (h : Fr a0 ds a) (hn : ds.Nodup) {d : Option Nat} (hd : ∀ e, d = some e -> e ∈ ds) (v : Value) : Fr a0 ds (a.put d v) := by
 obtain ⟨vs, hl, rfl⟩ := h
 cases d with
 | none => exact ⟨vs, hl, rfl⟩
 | some e =>
  obtain ⟨i, hi, he⟩ := List.getElem_of_mem (hd e rfl)
  exact ⟨vs.set i v, by simpa using hl, putAll_set ds vs a0 i e v hn hl (by rw [List.getElem?_eq_getElem hi, he])⟩
theorem Fr.ev {a0 a : Act} {ds : List Nat} (h : Fr a0 ds a) {k : Nat} (hk : ds.contains k = false) {v : Value} (hv : a0.eval (.tmp k) = v) : a.eval (.tmp k) = v := by
 obtain ⟨vs, hl, rfl⟩ := h
 rw [putAll_ev ds vs a0 k (fun e => by rw [List.contains_iff_mem.2 e] at hk; cases hk)]
 exact hv
theorem Fr.size {a0 a : Act} {ds : List Nat} (h : Fr a0 ds a) : a.tmps.size = a0.tmps.size := by
 obtain ⟨vs, hl, rfl⟩ := h
 exact putAll_size _ _ _
section
variable {P : Program} {ops : Array Oper} {Q : Exit -> Act -> World -> Prop}
def slotV (ops : Array Oper) (a : Act) (j : Nat) : Value := match (ops[j]?).bind (·.dst) with | some d => a.eval (.tmp d) | none => undef
def lon (rows : List LRow) (i : Nat) : List Nat := ((rows[i]?).map (·.2.2)).getD []
def ldst (rows : List LRow) (i : Nat) : Option Nat := (rows[i]?).bind (·.1)
def ichk (rows : List LRow) (ds : List Nat) (anc need kill later : Nat -> List Nat) : Bool :=
 decide ds.Nodup && (List.range rows.length).all fun i =>
  (lon rows i).all (fun e => decide (e < i)) && (need i).all (fun k => (lon rows i).contains k) &&
  (match ldst rows i with | some d => ds.contains d | none => true) &&
  (match ldst rows i with | some d => (List.range rows.length).all (fun j => j == i || ldst rows j != some d) | none => true) &&
  (kill i).all (fun k => (List.range rows.length).all fun j => !(need j).contains k || j == i || (anc i).contains j) &&
  (later i).all (fun j => (anc j).contains i && decide (j < rows.length)) &&
  (anc i).all (fun k => (lon rows i).contains k || (lon rows i).any (fun m => (anc m).contains k))
structure ISpec (rows : List LRow) (ds : List Nat) (anc need kill later : Nat -> List Nat) : Prop where
 nodup : ds.Nodup
 less : ∀ i, i < rows.length -> ∀ e ∈ lon rows i, e < i
 needs : ∀ i, i < rows.length -> ∀ k ∈ need i, k ∈ lon rows i
 dst : ∀ i, i < rows.length -> ∀ d, ldst rows i = some d -> d ∈ ds
 other : ∀ i, i < rows.length -> ∀ d, ldst rows i = some d -> ∀ j, j < rows.length -> j ≠ i -> ldst rows j ≠ some d
 kills : ∀ i, i < rows.length -> ∀ k ∈ kill i, ∀ j, j < rows.length -> k ∈ need j -> j = i ∨ j ∈ anc i
 laters : ∀ i, i < rows.length -> ∀ j ∈ later i, i ∈ anc j /\ j < rows.length
 ancs : ∀ i, i < rows.length -> ∀ k ∈ anc i, k ∈ lon rows i ∨ ∃ m ∈ lon rows i, k ∈ anc m
theorem ichk_spec {rows : List LRow} {ds : List Nat} {anc need kill later : Nat -> List Nat} (h : ichk rows ds anc need kill later = true) : ISpec rows ds anc need kill later := by
 unfold ichk at h
 simp only [Bool.and_eq_true, List.all_eq_true, List.mem_range, decide_eq_true_eq, List.contains_iff_mem, Bool.or_eq_true, Bool.not_eq_true', beq_iff_eq, List.any_eq_true] at h
 obtain ⟨h0, h⟩ := h
 refine ⟨h0, fun i hi => (h i hi).1.1.1.1.1.1, fun i hi => (h i hi).1.1.1.1.1.2, fun i hi d hd => ?_, fun i hi d hd j hj hji => ?_, fun i hi k hk j hj hkj => ?_, fun i hi j hj => (h i hi).1.2 j hj, fun i hi => (h i hi).2⟩
 ·have := (h i hi).1.1.1.1.2
  rw [hd] at this
  simpa using this
 ·have := (h i hi).1.1.1.2
  rw [hd] at this
  have := List.all_eq_true.1 this j (List.mem_range.2 hj)
  simpa [hji] using this
 ·rcases (h i hi).1.1.2 k hk j hj with (h1 | h1) | h1
  ·exfalso
   have : (need j).contains k = true := List.contains_iff_mem.2 hkj
   rw [this] at h1; cases h1
  ·exact .inl h1
  ·exact .inr h1
def IStep (P : Program) (ops : Array Oper) (Q : Exit -> Act -> World -> Prop) (a0 : Act) (ds : List Nat) (C : World -> Prop) (R : Nat -> Value -> World -> Prop) (wd : List Nat) (need kill later : Nat -> List Nat) (i : Nat) : Prop :=
 ∀ o a w, ops[i]? = some o -> Fr a0 ds a -> C w -> (∀ k ∈ need i, R k (slotV ops a k) w) ->
  ∀ K : Act -> World -> Prop, (∀ v w', C w' -> R i (match o.dst with | some _ => v | none => undef) w' -> (∀ j ∈ wd, j ≠ i -> j ∉ kill i -> j ∉ later i -> ∀ x, R j x w -> R j x w') -> K (a.put o.dst v) w') ->
   if Region.wanted o (yielded ops a.tmps) = true then Oper.wp P o a w K Q else K (a.put o.dst undef) w
def Stb (f : Value -> World -> Prop) : Prop := ∀ x w w', Tch No w w' -> f x w -> f x w'
def Pur (f : Value -> World -> Prop) : Prop := ∀ x (w w' : World), f x w -> f x w'
theorem Pur.stb {f : Value -> World -> Prop} (h : Pur f) : Stb f := fun x w w' _ hx => h x w w' hx
theorem pur_eq (v : Value) : Pur (fun x _ => x = v) := fun x _ _ h => h
theorem pur_any : Pur (fun _ _ => True) := fun _ _ _ _ => trivial
def RL (l : List (Value -> World -> Prop)) (j : Nat) : Value -> World -> Prop := (l[j]?).getD (fun _ _ => True)
theorem rl_stb {l : List (Value -> World -> Prop)} (h : ∀ f ∈ l, Stb f) (j : Nat) : Stb (RL l j) := by
 unfold RL
 cases e : l[j]? with
 | none => exact (pur_any).stb
 | some f => exact h f (List.mem_of_getElem? e)
theorem rl_pur {l : List (Value -> World -> Prop)} {wd : List Nat} (h : ∀ j, j < l.length -> j ∈ wd ∨ Pur (RL l j)) (j : Nat) (hj : j ∉ wd) : Pur (RL l j) := by
 rcases Nat.lt_or_ge j l.length with hl | hl
 ·exact (h j hl).resolve_left hj
 ·unfold RL
  rw [List.getElem?_eq_none hl]
  exact pur_any
theorem all_lt0 {p : Nat -> Prop} : ∀ i, i < 0 -> p i := fun i h => absurd h (Nat.not_lt_zero _)
theorem all_lt1 {p : Nat -> Prop} {n : Nat} (h : ∀ i, i < n -> p i) (hn : p n) : ∀ i, i < n + 1 -> p i := fun i hi => by
 rcases Nat.lt_or_ge i n with h1 | h1
 ·exact h i h1
 ·obtain rfl : i = n := by omega
  exact hn
theorem all_mem0 {α : Type} {p : α -> Prop} : ∀ f ∈ ([] : List α), p f := fun f h => by cases h
theorem all_mem1 {α : Type} {p : α -> Prop} {a : α} {l : List α} (h1 : p a) (h : ∀ f ∈ l, p f) : ∀ f ∈ a :: l, p f := fun f hf => by
 rcases List.mem_cons.1 hf with rfl | hf
 ·exact h1
 ·exact h f hf
theorem vs_cons {vs : List Value} {n : Nat} (h : vs.length = n + 1) : ∃ u r, vs = u :: r /\ r.length = n := by
 cases vs with
 | nil => simp at h
 | cons u r => exact ⟨u, r, rfl, by simpa using h⟩
theorem vs_nil {vs : List Value} (h : vs.length = 0) : vs = [] := List.eq_nil_of_length_eq_zero h
end
end
section
open Go.RowKit Go.Maps
structure ElT (t e : TypeId) (size bytes : Nat) : Prop where
 und : Tryz.prog.underlying t = some (.slice e)
 info : ∃ i z, Tryz.prog.info? e = some i /\ i.zero = some z /\ i.size = size /\ i.bytes = bytes /\ z.cells.size = size
 pos : 0 < size
 byt : bytes <= 1000
theorem elt_of {t e : TypeId} {z : Value} {size bytes : Nat} (hu : Tryz.prog.underlying t = some (.slice e)) (hi : (Tryz.prog.info? e).map (fun i => (i.zero, i.size, i.bytes)) = some (some z, size, bytes)) (hz : z.cells.size = size) (hp : 0 < size) (hb : bytes <= 1000) : ElT t e size bytes := by
 obtain ⟨i, h1, h2, h3, h4⟩ := info_parts hi
 exact ⟨hu, ⟨i, z, h1, h2, h3, h4, hz⟩, hp, hb⟩
theorem eltMsg : ElT 22 50 6 64 := elt_of Tryz.underlying22 (z := .agg #[.int .i64 0, .string ⟨#[]⟩, .string ⟨#[]⟩, .int .i64 0, .int .i64 0, .int .i64 0]) (by kernel_rfl) (by kernel_rfl) (by decide) (by decide)
theorem eltBr : ElT 23 81 2 32 := elt_of Tryz.underlying23 (z := .agg #[.int .i64 0, .slice none 0 0]) (by kernel_rfl) (by kernel_rfl) (by decide) (by decide)
theorem eltEnd : ElT 24 59 2 16 := elt_of Tryz.underlying24 (z := .agg #[.int .i64 0, .bool false]) (by kernel_rfl) (by kernel_rfl) (by decide) (by decide)
theorem eltPend : ElT 25 63 2 32 := elt_of Tryz.underlying25 (z := .agg #[.int .i64 0, .slice none 0 0]) (by kernel_rfl) (by kernel_rfl) (by decide) (by decide)
theorem eltPut : ElT 35 45 2 32 := elt_of Tryz.underlying35 (z := .agg #[.string ⟨#[]⟩, .string ⟨#[]⟩]) (by kernel_rfl) (by kernel_rfl) (by decide) (by decide)
theorem eltInt : ElT 34 3 1 8 := elt_of Tryz.underlying34 (z := .int .i64 0) (by kernel_rfl) (by kernel_rfl) (by decide) (by decide)
def Ones (cs : List Value) : Prop := ∀ u ∈ cs, u.oneCell' = true
theorem Ones.append {a b : List Value} (h : Ones a) (k : Ones b) : Ones (a ++ b) := fun u hu => (List.mem_append.1 hu).elim (h u) (k u)
theorem Ones.take {a : List Value} (h : Ones a) (n : Nat) : Ones (a.take n) := fun u hu => h u (List.mem_of_mem_take hu)
theorem Ones.drop {a : List Value} (h : Ones a) (n : Nat) : Ones (a.drop n) := fun u hu => h u (List.mem_of_mem_drop hu)
theorem Ones.nil : Ones [] := fun u hu => by cases hu
theorem CellsAt.take {w : World} {a : Option Addr} {n c size : Nat} {cs : List Value} (h : CellsAt w (.slice a n c) n size cs) {k : Nat} (hk : k <= n) : CellsAt w (.slice a k c) k size (cs.take (k * size)) := by
 have hl := h.1
 have hm : k * size <= n * size := Nat.mul_le_mul_right _ hk
 refine ⟨by rw [List.length_take]; omega, ?_⟩
 rcases h.2 with ⟨h1, h2⟩ | ⟨b, o, cap, h1, h2, h3, h4, h5⟩
 ·injection h1 with h1 _ h3
  obtain rfl : k = 0 := by omega
  exact .inl ⟨by rw [h1, h3], rfl⟩
 ·injection h1 with h1 _ e
  subst e
  exact .inr ⟨b, o, c, by rw [h1], by omega, h3, h4, fun j x hx => h5 j x (by
   rw [List.getElem?_take] at hx
   split at hx
   ·exact hx
   ·cases hx)⟩
theorem CellsAt.drop {w : World} {b o n c size : Nat} {cs : List Value} (h : CellsAt w (.slice (some ⟨b, o, none⟩) n c) n size cs) {k : Nat} (hk : k <= n) : CellsAt w (.slice (some ⟨b, o + k * size, none⟩) (n - k) (c - k)) (n - k) size (cs.drop (k * size)) := by
 have hl := h.1
 refine ⟨by rw [List.length_drop, hl, Nat.sub_mul], ?_⟩
 rcases h.2 with ⟨h1, h2⟩ | ⟨b', o', cap, h1, h2, h3, h4, h5⟩
 ·injection h1 with h1; cases h1
 ·injection h1 with h1 _ e
  injection h1 with h1
  injection h1 with e1 e2
  subst e; subst e1; subst e2
  exact .inr ⟨b, o + k * size, c - k, rfl, by omega, by omega, h4, fun j x hx => by
   rw [List.getElem?_drop] at hx
   have := h5 _ x hx
   rwa [<- Nat.add_assoc] at this⟩
theorem CellsAt.zero {w : World} {b o c size : Nat} (hb : b < w.heap.size) (hc : c <= maxLen) : CellsAt w (.slice (some ⟨b, o, none⟩) 0 c) 0 size [] :=
 ⟨by simp, .inr ⟨b, o, c, rfl, Nat.zero_le _, hc, hb, fun j x hx => by simp at hx⟩⟩
theorem CellsAt.lt {w : World} {b o n c size : Nat} {cs : List Value} (h : CellsAt w (.slice (some ⟨b, o, none⟩) n c) n size cs) : b < w.heap.size := by
 rcases h.2 with ⟨h1, h2⟩ | ⟨b', o', cap, h1, h2, h3, h4, h5⟩
 ·injection h1 with h1; cases h1
 ·injection h1 with h1
  injection h1 with h1
  injection h1 with h1
  subst h1; exact h4
theorem CellsAt.ofRow {w : World} {e : TypeId} {v : Value} {n size : Nat} {cs : List Value} (h : w.ownsRow 0 e size v n cs) : CellsAt w v n size cs := by
 refine ⟨h.1, ?_⟩
 rcases h.2 with h0 | ⟨g, cap, cur, h1, h2, h3, h4, h5, h6, h7⟩
 ·exact .inl h0
 ·refine .inr ⟨g, 0, cap, h1, h4, h5, blk_lt h3, fun j x hx => ?_⟩
  rw [h1] at h
  have hj : j < n * size := by have := (List.getElem?_eq_some_iff.1 hx).1; rw [h.1] at this; exact this
  have := h.cellAt j hj
  rw [Nat.zero_add, this]; exact hx
structure AppE (e : TypeId) (size : Nat) (w : World) (v : Value) (n' : Nat) (ys : List Value) (v' : Value) (w' : World) : Prop where
 own : w'.ownsRow 0 e size v' n' ys
 grow : w.grownBy w' v.ownBlock
 loc : v'.ownBlock = v.ownBlock ∨ v'.ownBlock = some w.heap.size
 nil : v' = .slice none 0 0 ↔ v = .slice none 0 0 /\ n' = 0
theorem own_nil (w : World) (e : TypeId) (size : Nat) : w.ownsRow 0 e size (.slice none 0 0) 0 [] := ⟨by simp, .inl ⟨rfl, rfl⟩⟩
theorem AppE.fresh {e : TypeId} {size : Nat} {w w' : World} {n' : Nat} {ys : List Value} {v' : Value} (h : AppE e size w (.slice none 0 0) n' ys v' w') : Tch No w w' /\ ∀ k, v'.ownBlock = some k -> w.heap.size <= k := by
 refine ⟨Tch.grown h.grow (fun k hk _ => by simp [Value.ownBlock] at hk), fun k hk => ?_⟩
 rcases h.loc with e1 | e1
 ·rw [e1] at hk; simp [Value.ownBlock] at hk
 ·rw [e1] at hk; simp at hk; omega
theorem AppE.on {e : TypeId} {size : Nat} {w0 w w' : World} {v : Value} {n' : Nat} {ys : List Value} {v' : Value} (h : AppE e size w v n' ys v' w') (t : Tch No w0 w) (hv : ∀ k, v.ownBlock = some k -> w0.heap.size <= k) : Tch No w0 w' /\ ∀ k, v'.ownBlock = some k -> w0.heap.size <= k := by
 refine ⟨t.fresh (F := fun k => v.ownBlock = some k) (Tch.grown h.grow (fun k hk _ => hk)) (fun k hk => hv k hk), fun k hk => ?_⟩
 have := t.size
 rcases h.loc with e1 | e1
 ·rw [e1] at hk; exact hv k hk
 ·rw [e1] at hk; simp at hk; omega
theorem run_appE {t e : TypeId} {size bytes : Nat} (E : ElT t e size bytes) (w : World) (ty : TypeId) (v : Value) (n : Nat) (xs : List Value) (hown : w.ownsRow 0 e size v n xs) (u : Value) (m : Nat) (news : List Value) (hu : CellsAt w u m size news) (h1 : Ones news) (hlen : n + m <= 100000000) :
  ∃ v' w', (Builtin.append_ #[t, t] ty #[v, u]).run Tryz.prog w = .ok v' w' /\ AppE e size w v (n + m) (xs ++ news) v' w' := by
 obtain ⟨i0, z, hi0, hz0, hz1, hz2, hzs⟩ := E.info
 have hb := E.byt
 rcases hu.2 with ⟨rfl, rfl⟩ | ⟨b, o, c, rfl, _, _, _, hc⟩
 ·have : news = [] := List.eq_nil_of_length_eq_zero (by simpa using hu.1)
  subst this
  have hr := run_append_owned_none (P := Tryz.prog) w 0 t ty e i0 size E.und hi0 v n xs hown
  refine ⟨v, w, hr, by simpa using hown, World.grownBy.refl _ _, .inl rfl, ?_⟩
  rw [Nat.add_zero]
  refine ⟨fun h => ⟨h, ?_⟩, fun h => h.1⟩
  rcases hown.2 with ⟨_, h0⟩ | ⟨g, cap, cur, h2, _⟩
  ·exact h0
  ·rw [h2] at h; cases h
 ·have hby : (n + m) * bytes <= 140737488355328 := by
   have : (n + m) * bytes <= 100000000 * 1000 := Nat.mul_le_mul hlen hb
   omega
  obtain ⟨v', w', hr, q1, q2, q3, q4⟩ := run_append_own_at (P := Tryz.prog) w 0 t ty e i0 z size bytes E.und hi0 hz0 hz1 hz2 hzs E.pos v n xs hown ⟨b, o, none⟩ m c news hu.1 (fun j u hj => by rw [addr_add]; exact hc j u hj) h1 (by simp only [maxLen]; omega) hby (Nat.zero_le _)
  refine ⟨v', w', hr, q1, q2, q4, q3.trans ⟨fun h => ⟨h.1, ?_⟩, fun h => ⟨h.1, by omega⟩⟩⟩
  obtain ⟨h2, h3⟩ := h
  subst h3
  rcases hown.2 with ⟨_, h0⟩ | ⟨g, cap, cur, h4, _⟩
  ·omega
  ·rw [h2] at h4; cases h4
theorem wp_appE {t e : TypeId} {size bytes : Nat} (E : ElT t e size bytes) {o : Oper} {a : Act} {w : World} {K : Act -> World -> Prop} {Q : Exit -> Act -> World -> Prop} (sl x : Operand)
  (ho : o.op = .call { callee := .builtin .append, args := #[sl, x], argTypes := #[t, t] })
  (v : Value) (n : Nat) (xs : List Value) (hs : a.eval sl = v) (hown : w.ownsRow 0 e size v n xs) (u : Value) (m : Nat) (news : List Value) (hx : a.eval x = u) (hu : CellsAt w u m size news) (h1 : Ones news) (hlen : n + m <= 100000000)
  (h : ∀ a' n' cap' w', AppE e size w v (n + m) (xs ++ news) (.slice a' n' cap') w' -> Hid (n' = n + m) -> K (a.put o.dst (.slice a' n' cap')) w') :
  Oper.wp Tryz.prog o a w K Q := by
 obtain ⟨v', w', hr, hA⟩ := run_appE E w o.type v n xs hown u m news hu h1 hlen
 obtain ⟨a', cap', rfl, _, _⟩ := own_shape hA.own
 unfold Oper.wp execOp
 simp only [ho, resolve, invoke, builtin, Sem.run_bind, Sem.run_pure, Result.andThen_ok, List.map_toArray, List.map_cons, List.map_nil, hs, hx, hr]
 exact h _ _ _ _ hA rfl
theorem wpList_appE {t e : TypeId} {size bytes : Nat} (E : ElT t e size bytes) (w : World) {ops : Array Oper} {rest : List Oper} {o : Oper} {a : Act} {Q : Exit -> Act -> World -> Prop} (hgd : o.guard = none) (sl x : Operand)
  (ho : o.op = .call { callee := .builtin .append, args := #[sl, x], argTypes := #[t, t] })
  (v : Value) (n : Nat) (xs : List Value) (hs : a.eval sl = v) (hown : w.ownsRow 0 e size v n xs) (u : Value) (m : Nat) (news : List Value) (hx : a.eval x = u) (hu : CellsAt w u m size news) (h1 : Ones news) (hlen : n + m <= 100000000)
  (h : ∀ a' n' cap' w', AppE e size w v (n + m) (xs ++ news) (.slice a' n' cap') w' -> Hid (n' = n + m) -> wpList Tryz.prog ops Q rest (a.put o.dst (.slice a' n' cap')) w') :
  wpList Tryz.prog ops Q (o :: rest) a w :=
 wpList_plain hgd fun K hK => wp_appE E sl x ho v n xs hs hown u m news hx hu h1 hlen (fun a' n' cap' w' hA hn => hK _ _ (h a' n' cap' w' hA hn))
theorem cells_lit (w : World) (cs : Array Value) (e : TypeId) (size : Nat) (l : List Value) (hl : l = cs.toList) (hs : cs.size = size) (fr : Nat × Nat) : CellsAt (w.alloc (.cells cs e fr)) (.slice (some ⟨w.heap.size, 0, none⟩) 1 1) 1 size l := by
 subst hl
 refine ⟨by simp [hs], .inr ⟨w.heap.size, 0, 1, rfl, Nat.le_refl _, by simp [maxLen], by simp, fun j x hx => ?_⟩⟩
 rw [Nat.zero_add, World.cell?_alloc_mark]
 simpa using hx
theorem ones_flat {α : Type} {enc : α -> List Value} (h : ∀ x, Ones (enc x)) (l : List α) : Ones (l.flatMap enc) := fun u hu => by
 obtain ⟨x, _, hx⟩ := List.mem_flatMap.1 hu
 exact h x u hx
theorem ones_msg (m : MsgM) : Ones (encMsg m) := fun u hu => by
 simp only [encMsg, List.mem_cons, List.not_mem_nil, or_false] at hu
 rcases hu with rfl | rfl | rfl | rfl | rfl | rfl <;> rfl
theorem ones_put (m : PutM) : Ones (encPut m) := fun u hu => by
 simp only [encPut, List.mem_cons, List.not_mem_nil, or_false] at hu
 rcases hu with rfl | rfl <;> rfl
theorem ones_end (m : EndM) : Ones (encEnd m) := fun u hu => by
 simp only [encEnd, List.mem_cons, List.not_mem_nil, or_false] at hu
 rcases hu with rfl | rfl <;> rfl
end
end Go.Proofs.YtfedhcnmdmhppaaGreat
