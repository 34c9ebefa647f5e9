/- Part 2 of what the proof of WhereLong rests on. No condition. -/
import Derived.ChangeSame
import Derived.Deep.Fields
import Derived.Deep.Slices
import Derived.Shelf.SlicesE.Clone
import Derived.Shelf.SlicesG.CompactI
import Derived.Shelf.SlicesG.CompactS
import Derived.Shelf.SortM.Plain
import Derived.Shelf.SortM.SortNone
import Derived.SizedLaws
import Derived.Test.YtafndmnbnmlklaaGreatPWhereLong01
namespace Go.Proofs.YtafndmnbnmlklaaGreat
set_option maxRecDepth 100000
set_option maxHeartbeats 60000000
set_option linter.unusedVariables false
set_option linter.unusedSimpArgs false
set_option linter.unusedSectionVars false
section
open Go.RowKit Go.Maps
structure ElT (t e : TypeId) (size bytes : Nat) : Prop where
 und : Tryz.prog.underlying t = some (.slice e)
 info : ∃ i z, Tryz.prog.info? e = some i /\ i.zero = some z /\ i.size = size /\ i.bytes = bytes /\ z.cells.size = size
 pos : 0 < size
 byt : bytes <= 1000
theorem elt_of {t e : TypeId} {z : Value} {size bytes : Nat} (hu : Tryz.prog.underlying t = some (.slice e)) (hi : (Tryz.prog.info? e).map (fun i => (i.zero, i.size, i.bytes)) = some (some z, size, bytes)) (hz : z.cells.size = size) (hp : 0 < size) (hb : bytes <= 1000) : ElT t e size bytes := by
 obtain ⟨i, h1, h2, h3, h4⟩ := info_parts hi
 exact ⟨hu, ⟨i, z, h1, h2, h3, h4, hz⟩, hp, hb⟩
theorem eltEnd : ElT 26 71 2 16 := elt_of Tryz.underlying26 (z := .agg #[.int .i64 0, .bool false]) (by kernel_rfl) (by kernel_rfl) (by decide) (by decide)
def Ones (cs : List Value) : Prop := ∀ u ∈ cs, u.oneCell' = true
theorem Ones.append {a b : List Value} (h : Ones a) (k : Ones b) : Ones (a ++ b) := fun u hu => (List.mem_append.1 hu).elim (h u) (k u)
theorem Ones.take {a : List Value} (h : Ones a) (n : Nat) : Ones (a.take n) := fun u hu => h u (List.mem_of_mem_take hu)
theorem Ones.drop {a : List Value} (h : Ones a) (n : Nat) : Ones (a.drop n) := fun u hu => h u (List.mem_of_mem_drop hu)
theorem Ones.nil : Ones [] := fun u hu => by cases hu
theorem CellsAt.take {w : World} {a : Option Addr} {n c size : Nat} {cs : List Value} (h : CellsAt w (.slice a n c) n size cs) {k : Nat} (hk : k <= n) : CellsAt w (.slice a k c) k size (cs.take (k * size)) := by
 have hl := h.1
 have hm : k * size <= n * size := Nat.mul_le_mul_right _ hk
 refine ⟨by rw [List.length_take]; omega, ?_⟩
 rcases h.2 with ⟨h1, h2⟩ | ⟨b, o, cap, h1, h2, h3, h4, h5⟩
 ·injection h1 with h1 _ h3
  obtain rfl : k = 0 := by omega
  exact .inl ⟨by rw [h1, h3], rfl⟩
 ·injection h1 with h1 _ e
  subst e
  exact .inr ⟨b, o, c, by rw [h1], by omega, h3, h4, fun j x hx => h5 j x (by
   rw [List.getElem?_take] at hx
   split at hx
   ·exact hx
   ·cases hx)⟩
theorem CellsAt.drop {w : World} {b o n c size : Nat} {cs : List Value} (h : CellsAt w (.slice (some ⟨b, o, none⟩) n c) n size cs) {k : Nat} (hk : k <= n) : CellsAt w (.slice (some ⟨b, o + k * size, none⟩) (n - k) (c - k)) (n - k) size (cs.drop (k * size)) := by
 have hl := h.1
 refine ⟨by rw [List.length_drop, hl, Nat.sub_mul], ?_⟩
 rcases h.2 with ⟨h1, h2⟩ | ⟨b', o', cap, h1, h2, h3, h4, h5⟩
 ·injection h1 with h1; cases h1
 ·injection h1 with h1 _ e
  injection h1 with h1
  injection h1 with e1 e2
  subst e; subst e1; subst e2
  exact .inr ⟨b, o + k * size, c - k, rfl, by omega, by omega, h4, fun j x hx => by
   rw [List.getElem?_drop] at hx
   have := h5 _ x hx
   rwa [<- Nat.add_assoc] at this⟩
theorem CellsAt.zero {w : World} {b o c size : Nat} (hb : b < w.heap.size) (hc : c <= maxLen) : CellsAt w (.slice (some ⟨b, o, none⟩) 0 c) 0 size [] :=
 ⟨by simp, .inr ⟨b, o, c, rfl, Nat.zero_le _, hc, hb, fun j x hx => by simp at hx⟩⟩
theorem CellsAt.lt {w : World} {b o n c size : Nat} {cs : List Value} (h : CellsAt w (.slice (some ⟨b, o, none⟩) n c) n size cs) : b < w.heap.size := by
 rcases h.2 with ⟨h1, h2⟩ | ⟨b', o', cap, h1, h2, h3, h4, h5⟩
 ·injection h1 with h1; cases h1
 ·injection h1 with h1
  injection h1 with h1
  injection h1 with h1
  subst h1; exact h4
theorem CellsAt.ofRow {w : World} {e : TypeId} {v : Value} {n size : Nat} {cs : List Value} (h : w.ownsRow 0 e size v n cs) : CellsAt w v n size cs := by
 refine ⟨h.1, ?_⟩
 rcases h.2 with h0 | ⟨g, cap, cur, h1, h2, h3, h4, h5, h6, h7⟩
 ·exact .inl h0
 ·refine .inr ⟨g, 0, cap, h1, h4, h5, blk_lt h3, fun j x hx => ?_⟩
  rw [h1] at h
  have hj : j < n * size := by have := (List.getElem?_eq_some_iff.1 hx).1; rw [h.1] at this; exact this
  have := h.cellAt j hj
  rw [Nat.zero_add, this]; exact hx
structure AppE (e : TypeId) (size : Nat) (w : World) (v : Value) (n' : Nat) (ys : List Value) (v' : Value) (w' : World) : Prop where
 own : w'.ownsRow 0 e size v' n' ys
 grow : w.grownBy w' v.ownBlock
 loc : v'.ownBlock = v.ownBlock ∨ v'.ownBlock = some w.heap.size
 nil : v' = .slice none 0 0 ↔ v = .slice none 0 0 /\ n' = 0
theorem own_nil (w : World) (e : TypeId) (size : Nat) : w.ownsRow 0 e size (.slice none 0 0) 0 [] := ⟨by simp, .inl ⟨rfl, rfl⟩⟩
theorem AppE.fresh {e : TypeId} {size : Nat} {w w' : World} {n' : Nat} {ys : List Value} {v' : Value} (h : AppE e size w (.slice none 0 0) n' ys v' w') : Tch No w w' /\ ∀ k, v'.ownBlock = some k -> w.heap.size <= k := by
 refine ⟨Tch.grown h.grow (fun k hk _ => by simp [Value.ownBlock] at hk), fun k hk => ?_⟩
 rcases h.loc with e1 | e1
 ·rw [e1] at hk; simp [Value.ownBlock] at hk
 ·rw [e1] at hk; simp at hk; omega
theorem AppE.on {e : TypeId} {size : Nat} {w0 w w' : World} {v : Value} {n' : Nat} {ys : List Value} {v' : Value} (h : AppE e size w v n' ys v' w') (t : Tch No w0 w) (hv : ∀ k, v.ownBlock = some k -> w0.heap.size <= k) : Tch No w0 w' /\ ∀ k, v'.ownBlock = some k -> w0.heap.size <= k := by
 refine ⟨t.fresh (F := fun k => v.ownBlock = some k) (Tch.grown h.grow (fun k hk _ => hk)) (fun k hk => hv k hk), fun k hk => ?_⟩
 have := t.size
 rcases h.loc with e1 | e1
 ·rw [e1] at hk; exact hv k hk
 ·rw [e1] at hk; simp at hk; omega
theorem run_appE {t e : TypeId} {size bytes : Nat} (E : ElT t e size bytes) (w : World) (ty : TypeId) (v : Value) (n : Nat) (xs : List Value) (hown : w.ownsRow 0 e size v n xs) (u : Value) (m : Nat) (news : List Value) (hu : CellsAt w u m size news) (h1 : Ones news) (hlen : n + m <= 100000000) :
  ∃ v' w', (Builtin.append_ #[t, t] ty #[v, u]).run Tryz.prog w = .ok v' w' /\ AppE e size w v (n + m) (xs ++ news) v' w' := by
 obtain ⟨i0, z, hi0, hz0, hz1, hz2, hzs⟩ := E.info
 have hb := E.byt
 rcases hu.2 with ⟨rfl, rfl⟩ | ⟨b, o, c, rfl, _, _, _, hc⟩
 ·have : news = [] := List.eq_nil_of_length_eq_zero (by simpa using hu.1)
  subst this
  have hr := run_append_owned_none (P := Tryz.prog) w 0 t ty e i0 size E.und hi0 v n xs hown
  refine ⟨v, w, hr, by simpa using hown, World.grownBy.refl _ _, .inl rfl, ?_⟩
  rw [Nat.add_zero]
  refine ⟨fun h => ⟨h, ?_⟩, fun h => h.1⟩
  rcases hown.2 with ⟨_, h0⟩ | ⟨g, cap, cur, h2, _⟩
  ·exact h0
  ·rw [h2] at h; cases h
 ·have hby : (n + m) * bytes <= 140737488355328 := by
   have : (n + m) * bytes <= 100000000 * 1000 := Nat.mul_le_mul hlen hb
   omega
  obtain ⟨v', w', hr, q1, q2, q3, q4⟩ := run_append_own_at (P := Tryz.prog) w 0 t ty e i0 z size bytes E.und hi0 hz0 hz1 hz2 hzs E.pos v n xs hown ⟨b, o, none⟩ m c news hu.1 (fun j u hj => by rw [addr_add]; exact hc j u hj) h1 (by simp only [maxLen]; omega) hby (Nat.zero_le _)
  refine ⟨v', w', hr, q1, q2, q4, q3.trans ⟨fun h => ⟨h.1, ?_⟩, fun h => ⟨h.1, by omega⟩⟩⟩
  obtain ⟨h2, h3⟩ := h
  subst h3
  rcases hown.2 with ⟨_, h0⟩ | ⟨g, cap, cur, h4, _⟩
  ·omega
  ·rw [h2] at h4; cases h4
theorem wp_appE {t e : TypeId} {size bytes : Nat} (E : ElT t e size bytes) {o : Oper} {a : Act} {w : World} {K : Act -> World -> Prop} {Q : Exit -> Act -> World -> Prop} (sl x : Operand)
  (ho : o.op = .call { callee := .builtin .append, args := #[sl, x], argTypes := #[t, t] })
  (v : Value) (n : Nat) (xs : List Value) (hs : a.eval sl = v) (hown : w.ownsRow 0 e size v n xs) (u : Value) (m : Nat) (news : List Value) (hx : a.eval x = u) (hu : CellsAt w u m size news) (h1 : Ones news) (hlen : n + m <= 100000000)
  (h : ∀ a' n' cap' w', AppE e size w v (n + m) (xs ++ news) (.slice a' n' cap') w' -> Hid (n' = n + m) -> K (a.put o.dst (.slice a' n' cap')) w') :
  Oper.wp Tryz.prog o a w K Q := by
 obtain ⟨v', w', hr, hA⟩ := run_appE E w o.type v n xs hown u m news hu h1 hlen
 obtain ⟨a', cap', rfl, _, _⟩ := own_shape hA.own
 unfold Oper.wp execOp
 simp only [ho, resolve, invoke, builtin, Sem.run_bind, Sem.run_pure, Result.andThen_ok, List.map_toArray, List.map_cons, List.map_nil, hs, hx, hr]
 exact h _ _ _ _ hA rfl
theorem wpList_appE {t e : TypeId} {size bytes : Nat} (E : ElT t e size bytes) (w : World) {ops : Array Oper} {rest : List Oper} {o : Oper} {a : Act} {Q : Exit -> Act -> World -> Prop} (hgd : o.guard = none) (sl x : Operand)
  (ho : o.op = .call { callee := .builtin .append, args := #[sl, x], argTypes := #[t, t] })
  (v : Value) (n : Nat) (xs : List Value) (hs : a.eval sl = v) (hown : w.ownsRow 0 e size v n xs) (u : Value) (m : Nat) (news : List Value) (hx : a.eval x = u) (hu : CellsAt w u m size news) (h1 : Ones news) (hlen : n + m <= 100000000)
  (h : ∀ a' n' cap' w', AppE e size w v (n + m) (xs ++ news) (.slice a' n' cap') w' -> Hid (n' = n + m) -> wpList Tryz.prog ops Q rest (a.put o.dst (.slice a' n' cap')) w') :
  wpList Tryz.prog ops Q (o :: rest) a w :=
 wpList_plain hgd fun K hK => wp_appE E sl x ho v n xs hs hown u m news hx hu h1 hlen (fun a' n' cap' w' hA hn => hK _ _ (h a' n' cap' w' hA hn))
theorem cells_lit (w : World) (cs : Array Value) (e : TypeId) (size : Nat) (l : List Value) (hl : l = cs.toList) (hs : cs.size = size) (fr : Nat × Nat) : CellsAt (w.alloc (.cells cs e fr)) (.slice (some ⟨w.heap.size, 0, none⟩) 1 1) 1 size l := by
 subst hl
 refine ⟨by simp [hs], .inr ⟨w.heap.size, 0, 1, rfl, Nat.le_refl _, by simp [maxLen], by simp, fun j x hx => ?_⟩⟩
 rw [Nat.zero_add, World.cell?_alloc_mark]
 simpa using hx
theorem ones_flat {α : Type} {enc : α -> List Value} (h : ∀ x, Ones (enc x)) (l : List α) : Ones (l.flatMap enc) := fun u hu => by
 obtain ⟨x, _, hx⟩ := List.mem_flatMap.1 hu
 exact h x u hx
end
section
open Go.RowKit Go.Maps
structure Runs (P : Program) (ρ : Operand -> Value) (o : Oper) (W : World) (v : Value) (W' : World) : Prop where
 out : (execOp ρ o).run P W = .ok (.value v) W'
section
variable {P : Program} {ops : Array Oper} {Q : Exit -> Act -> World -> Prop} {a0 : Act} {ds : List Nat} {C : World -> Prop} {R : Nat -> Value -> World -> Prop} {wd : List Nat} {need kill later : Nat -> List Nat}
end
variable {ρ : Operand -> Value} {o : Oper}
end
section
open Go.RowKit Go.Maps
variable {ρ : Operand -> Value} {o : Oper}
theorem w_stint (x y : Operand) {a : Act} {w : World} {K : Act -> World -> Prop} {Q : Exit -> Act -> World -> Prop} {ad : Addr} {v u : Value} (ho : o.op = .store 3 x y) (hd : o.dst = none) (hx : a.eval x = .pointer (some ad)) (hy : a.eval y = v) (hv : v.oneCell' = true) (hc : w.cell? ad = some u) (hf : w.frozen? ad = false)
  (h : ∀ z, K (a.put o.dst z) (w.setCell ad v)) : Oper.wp Tryz.prog o a w K Q := by
 have hr := fun m => run_store Tryz.prog w ad v m hv
 have c := one_cells hv
 simp only [Value.cells] at c
 have h' : K a (w.setCell ad v) := by have := h undef; rw [hd] at this; exact this
 unfold Oper.wp execOp
 simp only [ho, hx, hy]
 go_simp
 exact h'
theorem w_stint64 (x y : Operand) {a : Act} {w : World} {K : Act -> World -> Prop} {Q : Exit -> Act -> World -> Prop} {ad : Addr} {v u : Value} (ho : o.op = .store 2 x y) (hd : o.dst = none) (hx : a.eval x = .pointer (some ad)) (hy : a.eval y = v) (hv : v.oneCell' = true) (hc : w.cell? ad = some u) (hf : w.frozen? ad = false)
  (h : ∀ z, K (a.put o.dst z) (w.setCell ad v)) : Oper.wp Tryz.prog o a w K Q := by
 have hr := fun m => run_store Tryz.prog w ad v m hv
 have c := one_cells hv
 simp only [Value.cells] at c
 have h' : K a (w.setCell ad v) := by have := h undef; rw [hd] at this; exact this
 unfold Oper.wp execOp
 simp only [ho, hx, hy]
 go_simp
 exact h'
theorem w_stSBranch (x y : Operand) {a : Act} {w : World} {K : Act -> World -> Prop} {Q : Exit -> Act -> World -> Prop} {ad : Addr} {v u : Value} (ho : o.op = .store 25 x y) (hd : o.dst = none) (hx : a.eval x = .pointer (some ad)) (hy : a.eval y = v) (hv : v.oneCell' = true) (hc : w.cell? ad = some u) (hf : w.frozen? ad = false)
  (h : ∀ z, K (a.put o.dst z) (w.setCell ad v)) : Oper.wp Tryz.prog o a w K Q := by
 have hr := fun m => run_store Tryz.prog w ad v m hv
 have c := one_cells hv
 simp only [Value.cells] at c
 have h' : K a (w.setCell ad v) := by have := h undef; rw [hd] at this; exact this
 unfold Oper.wp execOp
 simp only [ho, hx, hy]
 go_simp
 exact h'
theorem w_stSEnd (x y : Operand) {a : Act} {w : World} {K : Act -> World -> Prop} {Q : Exit -> Act -> World -> Prop} {ad : Addr} {v u : Value} (ho : o.op = .store 26 x y) (hd : o.dst = none) (hx : a.eval x = .pointer (some ad)) (hy : a.eval y = v) (hv : v.oneCell' = true) (hc : w.cell? ad = some u) (hf : w.frozen? ad = false)
  (h : ∀ z, K (a.put o.dst z) (w.setCell ad v)) : Oper.wp Tryz.prog o a w K Q := by
 have hr := fun m => run_store Tryz.prog w ad v m hv
 have c := one_cells hv
 simp only [Value.cells] at c
 have h' : K a (w.setCell ad v) := by have := h undef; rw [hd] at this; exact this
 unfold Oper.wp execOp
 simp only [ho, hx, hy]
 go_simp
 exact h'
theorem w_stSPend (x y : Operand) {a : Act} {w : World} {K : Act -> World -> Prop} {Q : Exit -> Act -> World -> Prop} {ad : Addr} {v u : Value} (ho : o.op = .store 27 x y) (hd : o.dst = none) (hx : a.eval x = .pointer (some ad)) (hy : a.eval y = v) (hv : v.oneCell' = true) (hc : w.cell? ad = some u) (hf : w.frozen? ad = false)
  (h : ∀ z, K (a.put o.dst z) (w.setCell ad v)) : Oper.wp Tryz.prog o a w K Q := by
 have hr := fun m => run_store Tryz.prog w ad v m hv
 have c := one_cells hv
 simp only [Value.cells] at c
 have h' : K a (w.setCell ad v) := by have := h undef; rw [hd] at this; exact this
 unfold Oper.wp execOp
 simp only [ho, hx, hy]
 go_simp
 exact h'
end
section
open Go.RowKit Go.Maps
def atI {α : Type} (f : α -> Int) (l : List α) (t : Int) : Int := match atP f l t with | some i => (i : Int) | none => -1
theorem atP_hit {α : Type} {f : α -> Int} {l : List α} {t : Int} {k : Nat} (hk : k < l.length) (e : f l[k] = t) (h : ∀ i (hi : i < l.length), i < k -> f l[i] ≠ t) : atP f l t = some k := by
 unfold atP
 rw [List.findIdx?_eq_some_iff_getElem]
 exact ⟨hk, by simpa using e, fun j hj => by simpa using h j (by omega) hj⟩
theorem atP_miss {α : Type} {f : α -> Int} {l : List α} {t : Int} (h : ∀ i (hi : i < l.length), f l[i] ≠ t) : atP f l t = none := by
 unfold atP
 rw [List.findIdx?_eq_none_iff]
 intro x hx
 obtain ⟨i, hi, rfl⟩ := List.getElem_of_mem hx
 simpa using h i hi
theorem atI_hit {α : Type} {f : α -> Int} {l : List α} {t : Int} {k : Nat} (hk : k < l.length) (e : f l[k] = t) (h : ∀ i (hi : i < l.length), i < k -> f l[i] ≠ t) : atI f l t = (k : Int) := by
 unfold atI; rw [atP_hit hk e h]
theorem atI_miss {α : Type} {f : α -> Int} {l : List α} {t : Int} (h : ∀ i (hi : i < l.length), f l[i] ≠ t) : atI f l t = -1 := by
 unfold atI; rw [atP_miss h]
theorem atI_cases {α : Type} (f : α -> Int) (l : List α) (t : Int) : (hasP f l t = false /\ atI f l t = -1) ∨ ∃ k, ∃ h : k < l.length, atI f l t = (k : Int) /\ f l[k] = t /\ hasP f l t = true /\ ∀ i (hi : i < l.length), i < k -> f l[i] ≠ t := by
 unfold atI
 cases e : atP f l t with
 | none =>
  left
  unfold atP at e
  rw [List.findIdx?_eq_none_iff] at e
  refine ⟨?_, rfl⟩
  cases e2 : hasP f l t with
  | false => rfl
  | true =>
   obtain ⟨x, hx, e3⟩ := hasP_iff.1 e2
   have := e x hx
   simp [e3] at this
 | some k =>
  right
  unfold atP at e
  rw [List.findIdx?_eq_some_iff_getElem] at e
  obtain ⟨h, h1, h2⟩ := e
  exact ⟨k, h, rfl, by simpa using h1, hasP_iff.2 ⟨_, List.getElem_mem h, by simpa using h1⟩, fun i hi hk => by simpa using h2 i hk⟩
theorem atI_has {α : Type} (f : α -> Int) (l : List α) (t : Int) : decide (0 <= atI f l t) = hasP f l t := by
 rcases atI_cases f l t with ⟨h1, h2⟩ | ⟨k, _, h1, _, h2, _⟩
 ·rw [h1, h2]; rfl
 ·rw [h1, h2]; simp
end
section
open Go.RowKit Go.Maps
def OwnN (w0 : World) (e : TypeId) (size n : Nat) (cs : List Value) : Value -> World -> Prop := fun v W => W.ownsRow 0 e size v n cs /\ ∀ b, v.ownBlock = some b -> w0.heap.size <= b
theorem stb_own {w0 : World} {e : TypeId} {size n : Nat} {cs : List Value} : Stb (OwnN w0 e size n cs) := fun x w w' t h => ⟨own_tch h.1 t (fun _ _ h => h), h.2⟩
end
section
open Go.RowKit Go.Maps
theorem flat_take {α : Type} {enc : α -> List Value} {m : Nat} (he : ∀ x, (enc x).length = m) : ∀ (l : List α) (k : Nat), (l.flatMap enc).take (k * m) = (l.take k).flatMap enc
 | [], k => by simp
 | a :: r, 0 => by simp
 | a :: r, k + 1 => by
  have e : (k + 1) * m = (enc a).length + k * m := by rw [he, Nat.succ_mul]; omega
  rw [List.flatMap_cons, List.take_succ_cons, List.flatMap_cons, e, List.take_length_add_append, flat_take he r k]
def IsL {α : Type} (enc : α -> List Value) (m : Nat) (w : World) (v : Value) (l : List α) : Prop := CellsAt w v l.length m (l.flatMap enc)
theorem IsL.keep {α : Type} {enc : α -> List Value} {m : Nat} {w w' : World} {v : Value} {l : List α} (h : IsL enc m w v l) (t : Tch No w w') : IsL enc m w' v l := CellsAt.keep h t
def encPr {α : Type} (f : α -> Int) (p : α × Value) : List Value := [.int .i64 (f p.1), p.2]
theorem zip_flat {α : Type} (f : α -> Int) : ∀ (l : List α) (vs : List Value), vs.length = l.length -> ((l.map f).zip vs).flatMap encTid = (l.zip vs).flatMap (encPr f)
 | [], _, _ => by simp
 | a :: r, [], h => by simp at h
 | a :: r, v :: vs, h => by
  rw [List.map_cons, List.zip_cons_cons, List.zip_cons_cons, List.flatMap_cons, List.flatMap_cons, zip_flat f r vs (by simpa using h)]
  rfl
theorem zip_unzip {α β : Type} : ∀ (l : List (α × β)), l = (l.map Prod.fst).zip (l.map Prod.snd)
 | [] => rfl
 | a :: r => by rw [List.map_cons, List.map_cons, List.zip_cons_cons, <- zip_unzip r]
theorem pends_pairs {w : World} {v : Value} {l : List PendM} : IsPends w v l ↔ ∃ prs : List (PendM × Value), prs.map Prod.fst = l /\ IsL (encPr (·.tid)) 2 w v prs /\ ∀ p ∈ prs, IsInts w p.2 p.1.parts := by
 constructor
 ·rintro ⟨vs, h1, h2, h3⟩
  have hz : (l.zip vs).length = l.length := by rw [List.length_zip, h1, Nat.min_self]
  refine ⟨l.zip vs, List.map_fst_zip (by omega), ?_, fun p hp => ?_⟩
  ·unfold IsL
   rw [hz, <- zip_flat _ l vs h1]
   exact h2
  ·obtain ⟨i, hi, rfl⟩ := List.getElem_of_mem hp
   rw [List.getElem_zip]
   exact h3 i (by omega) (by omega)
 ·rintro ⟨prs, rfl, h2, h3⟩
  refine ⟨prs.map Prod.snd, by simp, ?_, fun i h h' => ?_⟩
  ·have e := zip_unzip prs
   rw [zip_flat _ _ _ (by simp), List.length_map]
   rw [<- e]
   exact h2
  ·rw [List.getElem_map, List.getElem_map]
   exact h3 _ (List.getElem_mem _)
theorem brs_pairs {w : World} {v : Value} {l : List BrM} : IsBrs w v l ↔ ∃ prs : List (BrM × Value), prs.map Prod.fst = l /\ IsL (encPr (·.tid)) 2 w v prs /\ ∀ p ∈ prs, IsPuts w p.2 p.1.puts := by
 constructor
 ·rintro ⟨vs, h1, h2, h3⟩
  have hz : (l.zip vs).length = l.length := by rw [List.length_zip, h1, Nat.min_self]
  refine ⟨l.zip vs, List.map_fst_zip (by omega), ?_, fun p hp => ?_⟩
  ·unfold IsL
   rw [hz, <- zip_flat _ l vs h1]
   exact h2
  ·obtain ⟨i, hi, rfl⟩ := List.getElem_of_mem hp
   rw [List.getElem_zip]
   exact h3 i (by omega) (by omega)
 ·rintro ⟨prs, rfl, h2, h3⟩
  refine ⟨prs.map Prod.snd, by simp, ?_, fun i h h' => ?_⟩
  ·have e := zip_unzip prs
   rw [zip_flat _ _ _ (by simp), List.length_map]
   rw [<- e]
   exact h2
  ·rw [List.getElem_map, List.getElem_map]
   exact h3 _ (List.getElem_mem _)
end
section
open Go.RowKit Go.Maps Go.ChangeShapes Go.WideShapes Go.Deep
def CellsL (w : World) (v : Value) (n size : Nat) (cs : List Value) : Prop :=
 cs.length = n * size /\ ((v = .slice none 0 0 /\ n = 0) ∨ ∃ a cap, v = .slice (some a) n cap /\ n <= cap /\ cap <= maxLen /\ ∀ j x, cs[j]? = some x -> w.cell? (a.add j) = some x)
theorem cell_lt9 {w : World} {a : Addr} {v : Value} (h : w.cell? a = some v) : a.block < w.heap.size := by
 unfold World.cell? at h
 by_cases hb : a.block < w.heap.size
 ·exact hb
 ·rw [Array.getElem?_eq_none (by omega)] at h; cases h
theorem CellsL.keep {w w' : World} {v : Value} {n size : Nat} {cs : List Value} (h : CellsL w v n size cs) (t : Tch No w w') : CellsL w' v n size cs := by
 refine ⟨h.1, ?_⟩
 rcases h.2 with h2 | ⟨a, cap, h2, h3, h4, h6⟩
 ·exact .inl h2
 ·exact .inr ⟨a, cap, h2, h3, h4, fun j x hx => t.cell (h6 j x hx) (fun h => h)⟩
theorem CellsL.at {w : World} {v : Value} {n size : Nat} {cs : List Value} (h : CellsL w v n size cs) (hp : 0 < n * size) : CellsAt w v n size cs := by
 refine ⟨h.1, ?_⟩
 rcases h.2 with h2 | ⟨⟨b, o, s⟩, cap, h2, h3, h4, h6⟩
 ·exact .inl h2
 ·have hl : 0 < cs.length := by rw [h.1]; exact hp
  have h0 := h6 0 cs[0] (by simp)
  have hs : s = none := by have := World.cell?_spot h0; simpa [Addr.add] using this
  subst hs
  have hb := cell_lt9 h0
  rw [addr_add] at hb
  exact .inr ⟨b, o, cap, h2, h3, h4, hb, fun j x hx => by have := h6 j x hx; rwa [addr_add] at this⟩
theorem CellsL.shape {w : World} {v : Value} {n size : Nat} {cs : List Value} (h : CellsL w v n size cs) : ∃ a cap, v = .slice a n cap /\ n <= cap /\ cap <= maxLen := by
 rcases h.2 with ⟨rfl, rfl⟩ | ⟨a, cap, h2, h3, h4, _⟩
 ·exact ⟨none, 0, rfl, Nat.le_refl _, by simp [maxLen]⟩
 ·exact ⟨_, cap, h2, h3, h4⟩
theorem CellsL.one {w : World} {v : Value} {n size : Nat} {cs : List Value} (h : CellsL w v n size cs) : v.oneCell' = true := by
 obtain ⟨a, cap, rfl, _⟩ := h.shape
 rfl
theorem CellsL.nil (w : World) (size : Nat) : CellsL w (.slice none 0 0) 0 size [] := ⟨by simp, .inl ⟨rfl, rfl⟩⟩
theorem CellsL.take {w : World} {a : Option Addr} {n c size : Nat} {cs : List Value} (h : CellsL w (.slice a n c) n size cs) {k : Nat} (hk : k <= n) : CellsL w (.slice a k c) k size (cs.take (k * size)) := by
 have hl : k * size <= n * size := Nat.mul_le_mul_right _ hk
 refine ⟨by rw [List.length_take, h.1]; omega, ?_⟩
 rcases h.2 with ⟨h2, h3⟩ | ⟨b, cap, h2, h3, h4, h6⟩
 ·injection h2 with e1 e2 e3
  exact .inl ⟨by rw [e1, e3]; congr 1; omega, by omega⟩
 ·injection h2 with e1 e2 e3
  subst e1; subst e3
  exact .inr ⟨b, c, rfl, by omega, h4, fun j x hx => h6 j x (by rw [List.getElem?_take] at hx; split at hx; exact hx; cases hx)⟩
section
variable {H : Type} {enc : TypeId × Value -> H} {P : Program} {w : World} {base : Nat}
end
def TxtL (s : Txt) : Prop := s.length <= 9223372036854775807
def LInts (w : World) (v : Value) (l : List Int) : Prop := CellsL w v l.length 1 (l.map (fun x => .int .i64 x))
def LPuts (w : World) (v : Value) (l : List PutM) : Prop := CellsL w v l.length 2 (l.flatMap encPut)
theorem LInts.keep {w w' : World} {v : Value} {l : List Int} (h : LInts w v l) (t : Tch No w w') : LInts w' v l := CellsL.keep h t
theorem LPuts.keep {w w' : World} {v : Value} {l : List PutM} (h : LPuts w v l) (t : Tch No w w') : LPuts w' v l := CellsL.keep h t
def PutL (p : PutM) : Prop := TxtL p.q /\ TxtL p.b
def MsgL (m : MsgM) : Prop := I64 m.id /\ TxtL m.q /\ TxtL m.b /\ I64 m.seq /\ I64 m.cnt /\ I64 m.who
structure ArgRec (w : World) (v : Value) (r : RecM) : Prop where
 ex : ∃ vp vu, v = .agg #[.int .i64 r.kind, .int .i64 r.tid, .int .i64 r.id, .bool r.yes, vp, vu] /\ LInts w vp r.parts /\ LPuts w vu r.puts
 nums : I64 r.kind /\ I64 r.tid /\ I64 r.id
 parts : ∀ x ∈ r.parts, I64 x
 puts : ∀ p ∈ r.puts, PutL p
theorem ArgRec.keep {w w' : World} {v : Value} {r : RecM} (h : ArgRec w v r) (t : Tch No w w') : ArgRec w' v r := by
 obtain ⟨vp, vu, h0, h1, h2⟩ := h.ex
 exact ⟨⟨vp, vu, h0, h1.keep t, h2.keep t⟩, h.nums, h.parts, h.puts⟩
structure ArgS (w : World) (vm vw ve vo vn : Value) (s : StM) (prb : List (BrM × Value)) (pro prn : List (PendM × Value)) : Prop where
 fb : prb.map Prod.fst = s.waits
 fo : pro.map Prod.fst = s.opens
 fn : prn.map Prod.fst = s.noes
 ms : CellsL w vm s.ms.length 6 (s.ms.flatMap encMsg)
 cb : CellsL w vw prb.length 2 (prb.flatMap (encPr fun q : BrM => q.tid))
 ib : ∀ p ∈ prb, LPuts w p.2 p.1.puts
 en : CellsL w ve s.ends.length 2 (s.ends.flatMap encEnd)
 co : CellsL w vo pro.length 2 (pro.flatMap (encPr fun q : PendM => q.tid))
 io : ∀ p ∈ pro, LInts w p.2 p.1.parts
 cn : CellsL w vn prn.length 2 (prn.flatMap (encPr fun q : PendM => q.tid))
 inn : ∀ p ∈ prn, LInts w p.2 p.1.parts
 nums : I64 s.broker /\ I64 s.nid /\ I64 s.nseq /\ I64 s.tx
 okm : ∀ m ∈ s.ms, MsgL m
 okb : ∀ b ∈ s.waits, I64 b.tid /\ ∀ p ∈ b.puts, PutL p
 oke : ∀ e ∈ s.ends, I64 e.tid
 oko : ∀ p ∈ s.opens, I64 p.tid /\ ∀ x ∈ p.parts, I64 x
 okn : ∀ p ∈ s.noes, I64 p.tid /\ ∀ x ∈ p.parts, I64 x
 lm : s.ms.length * 64 <= 140737488351232
 lb : prb.length * 32 <= 140737488351232
 le : s.ends.length * 16 <= 140737488351232
 lo : pro.length * 32 <= 140737488351232
 ln : prn.length * 32 <= 140737488351232
def ArgSt (w : World) (v : Value) (s : StM) : Prop :=
 ∃ vm vw ve vo vn prb pro prn, v = .agg #[.int .i64 s.broker, .int .i64 s.nid, .int .i64 s.nseq, .int .i64 s.tx, vm, vw, ve, vo, vn] /\ ArgS w vm vw ve vo vn s prb pro prn
theorem ArgS.keep {w w' : World} {vm vw ve vo vn : Value} {s : StM} {prb : List (BrM × Value)} {pro prn : List (PendM × Value)} (h : ArgS w vm vw ve vo vn s prb pro prn) (t : Tch No w w') : ArgS w' vm vw ve vo vn s prb pro prn :=
 ⟨h.fb, h.fo, h.fn, h.ms.keep t, h.cb.keep t, fun p hp => (h.ib p hp).keep t, h.en.keep t, h.co.keep t, fun p hp => (h.io p hp).keep t, h.cn.keep t, fun p hp => (h.inn p hp).keep t, h.nums, h.okm, h.okb, h.oke, h.oko, h.okn, h.lm, h.lb, h.le, h.lo, h.ln⟩
theorem ArgSt.keep {w w' : World} {v : Value} {s : StM} (h : ArgSt w v s) (t : Tch No w w') : ArgSt w' v s := by
 obtain ⟨vm, vw, ve, vo, vn, prb, pro, prn, e, h⟩ := h
 exact ⟨vm, vw, ve, vo, vn, prb, pro, prn, e, h.keep t⟩
section
variable {H : Type} {enc : TypeId × Value -> H} {w : World} {base : Nat}
end
end
section
open Go.RowKit Go.Maps
def stEmpty (br nid nseq : Int) : Value := .agg #[.int .i64 br, .int .i64 nid, .int .i64 nseq, .int .i64 0, .slice none 0 0, .slice none 0 0, .slice none 0 0, .slice none 0 0, .slice none 0 0]
theorem isst_empty (w : World) (br nid nseq : Int) : IsSt w (stEmpty br nid nseq) ⟨br, nid, nseq, 0, [], [], [], [], []⟩ :=
 ⟨_, _, _, _, _, rfl, CellsAt.nil _ _, ⟨[], rfl, CellsAt.nil _ _, fun i h => absurd h (Nat.not_lt_zero _)⟩, CellsAt.nil _ _, ⟨[], rfl, CellsAt.nil _ _, fun i h => absurd h (Nat.not_lt_zero _)⟩, ⟨[], rfl, CellsAt.nil _ _, fun i h => absurd h (Nat.not_lt_zero _)⟩⟩
theorem rnew_any (b : Int) (w : World) :
  Calls Tryz.prog 18 #[.int .i64 b] w fun e w' => ∃ v, e = .returned v /\ IsSt w' v (newM b) /\ Tch No w w' := by
 have HB := Lib.hid (fun W => rbroker_any b W)
 have HN : Hid (newM b = if brokerB b = true then ⟨b, 1, 1, 0, [], [], [], [], []⟩ else ⟨0, 0, 0, 0, [], [], [], [], []⟩) := by
  rw [Hid]; unfold newM brokerB; simp
 obtain ⟨x, hx⟩ : ∃ x, brokerB b = x := ⟨_, rfl⟩
 rw [hx] at HB HN
 clear hx
 cases x with
 | true =>
  go_enter Tryz.func18, Tryz.ntmps18
  go_wp2_with (go_at_call 54; refine (HB.out _).mono ?_; rintro e w' ⟨rfl, rfl⟩)
  exact bodyPost_ret (v := stEmpty b 1 1) (by unfold stEmpty; simp [results, Tryz.results18, go_sem]) rfl ⟨_, rfl, by rw [HN.out]; exact isst_empty _ _ _ _, Tch.alloc _ _⟩
 | false =>
  go_enter Tryz.func18, Tryz.ntmps18
  go_wp2_with (go_at_call 54; refine (HB.out _).mono ?_; rintro e w' ⟨rfl, rfl⟩)
  exact bodyPost_ret (v := stEmpty 0 0 0) (by unfold stEmpty; simp [results, Tryz.results18, go_sem]) rfl ⟨_, rfl, by rw [HN.out]; exact isst_empty _ _ _ _, Tch.alloc _ _⟩
end
section
open Go.RowKit Go.Maps
def OwnB (bx : Nat) (e : TypeId) (size n : Nat) (cs : List Value) (v : Value) (W : World) : Prop := W.ownsRow 0 e size v n cs /\ ∀ b, v.ownBlock = some b -> b ≠ bx
theorem OwnB.tch {bx : Nat} {e : TypeId} {size n : Nat} {cs : List Value} {v : Value} {W W' : World} (h : OwnB bx e size n cs v W) (t : Tch (fun k => k = bx) W W') : OwnB bx e size n cs v W' := ⟨own_tch h.1 t (fun k hk e => h.2 k hk e), h.2⟩
end
section
open Go.RowKit Go.Maps
structure CpyO (w w' : World) (CM CW CE CO CN : List Value) (nm nw ne no nn : Nat) (vm vw ve vo vn : Value) : Prop where
 t : Tch No w w'
 om : OwnN w 50 6 nm CM vm w'
 ow : OwnN w 95 2 nw CW vw w'
 oe : OwnN w 71 2 ne CE ve w'
 oo : OwnN w 75 2 no CO vo w'
 on : OwnN w 75 2 nn CN vn w'
 apart : ∀ b, vo.ownBlock = some b -> vn.ownBlock ≠ some b
end
section
open Go.Shelf
end
section
open Go.RowKit Go.Maps
def FirstAt (p : Nat -> Bool) (n : Nat) (r : Int) : Prop := (r = -1 /\ ∀ i, i < n -> p i = false) ∨ ∃ k : Nat, k < n /\ r = (k : Int) /\ p k = true /\ ∀ i, i < k -> p i = false
theorem idx_msg (g : Nat) (lb : Array Value) (eg : ∀ args w, (callFunc g args).run Tryz.prog w = .ok (.enter g args) w) (p : Nat -> Bool) (f0 : Nat -> Int) (f1 : Nat -> ByteArray) (f2 : Nat -> ByteArray) (f3 : Nat -> Int) (f4 : Nat -> Int) (f5 : Nat -> Int) (cs : List Value) (n : Nat) (v : Value) (w : World) (h : CellsAt w v n 6 cs)
  (hcs : ∀ i, i < n -> cs[i * 6 + 0]? = some (.int .i64 (f0 i)) /\ cs[i * 6 + 1]? = some (.string (f1 i)) /\ cs[i * 6 + 2]? = some (.string (f2 i)) /\ cs[i * 6 + 3]? = some (.int .i64 (f3 i)) /\ cs[i * 6 + 4]? = some (.int .i64 (f4 i)) /\ cs[i * 6 + 5]? = some (.int .i64 (f5 i))) (hp : ∀ k, k < n -> ∀ W, Tch No w W -> Calls Tryz.prog g (#[.agg #[.int .i64 (f0 k), .string (f1 k), .string (f2 k), .int .i64 (f3 k), .int .i64 (f4 k), .int .i64 (f5 k)]] ++ lb) W fun e w' => e = .returned (.bool (p k)) /\ Tch No W w') :
  Calls Tryz.prog 99 #[v, .func (.func g) #[] lb] w fun e w' => (∃ r : Int, e = .returned (.int .i64 r) /\ FirstAt p n r) /\ Tch No w w' := by
 obtain ⟨a, c, rfl, hc1, hc2⟩ := CellsAt.shape h
 have H := Lib.hid h
 have HS := Lib.hid hcs
 have HP := Lib.hid hp
 have hml : n <= 9223372036854775807 := by unfold maxLen at hc2; omega
 clear h hcs hp hc1 hc2 
 go_enter Tryz.func99, Tryz.ntmps99
 go_wp2_with fail
 go_loopg [8] n (fun kx sx wr => ∃ k : Nat, sx = .int .i64 k /\ k <= n /\ n - k <= kx /\ Hid (Tch No w wr) /\ Hid (∀ i, i < k -> p i = false))
 case atStart => exact ⟨0, rfl, Nat.zero_le _, by omega, Tch.refl _ _, fun i h => absurd h (Nat.not_lt_zero _)⟩
 case round =>
  obtain ⟨k, rfl, hk, hgk, TT, I⟩ := hrel
  by_cases hlt : k < n
  ·have hb : ∃ b o, a = some ⟨b, o, none⟩ /\ wr.cell? ⟨b, o + k * 6, none⟩ = some (.int .i64 (f0 k)) /\ wr.cell? ⟨b, o + k * 6 + 1, none⟩ = some (.string (f1 k)) /\ wr.cell? ⟨b, o + k * 6 + 2, none⟩ = some (.string (f2 k)) /\ wr.cell? ⟨b, o + k * 6 + 3, none⟩ = some (.int .i64 (f3 k)) /\ wr.cell? ⟨b, o + k * 6 + 4, none⟩ = some (.int .i64 (f4 k)) /\ wr.cell? ⟨b, o + k * 6 + 5, none⟩ = some (.int .i64 (f5 k)) := by
    rcases H.out.2 with ⟨_, h0⟩ | ⟨b, o, cap2, h1, _, _, _, h5⟩
    ·omega
    ·injection h1 with h1 _ _
     obtain ⟨g0, g1, g2, g3, g4, g5⟩ := HS.out k hlt
     exact ⟨b, o, h1, TT.out.cell (by first | simpa [Nat.add_assoc] using h5 _ _ g0 | simpa using h5 _ _ g0) (fun h => h), TT.out.cell (by first | simpa [Nat.add_assoc] using h5 _ _ g1 | simpa using h5 _ _ g1) (fun h => h), TT.out.cell (by first | simpa [Nat.add_assoc] using h5 _ _ g2 | simpa using h5 _ _ g2) (fun h => h), TT.out.cell (by first | simpa [Nat.add_assoc] using h5 _ _ g3 | simpa using h5 _ _ g3) (fun h => h), TT.out.cell (by first | simpa [Nat.add_assoc] using h5 _ _ g4 | simpa using h5 _ _ g4) (fun h => h), TT.out.cell (by first | simpa [Nat.add_assoc] using h5 _ _ g5 | simpa using h5 _ _ g5) (fun h => h)⟩
   obtain ⟨b, o, rfl, e0, e1, e2, e3, e4, e5⟩ := hb
   have HF := HP.out k hlt wr TT.out
   obtain ⟨x0, hx0⟩ : ∃ z, f0 k = z := ⟨_, rfl⟩
   obtain ⟨x1, hx1⟩ : ∃ z, f1 k = z := ⟨_, rfl⟩
   obtain ⟨x2, hx2⟩ : ∃ z, f2 k = z := ⟨_, rfl⟩
   obtain ⟨x3, hx3⟩ : ∃ z, f3 k = z := ⟨_, rfl⟩
   obtain ⟨x4, hx4⟩ : ∃ z, f4 k = z := ⟨_, rfl⟩
   obtain ⟨x5, hx5⟩ : ∃ z, f5 k = z := ⟨_, rfl⟩
   rw [hx0, hx1, hx2, hx3, hx4, hx5] at HF
   rw [hx0] at e0
   rw [hx1] at e1
   rw [hx2] at e2
   rw [hx3] at e3
   rw [hx4] at e4
   rw [hx5] at e5
   clear hx0 hx1 hx2 hx3 hx4 hx5
   have HG := Lib.hid HF
   clear HF
   by_cases hit : p k = true
   ·rw [hit] at HG
    have HA : Hid (FirstAt p n (k : Int)) := .inr ⟨k, hlt, rfl, hit, I.out⟩
    clear hit
    go_wp2_with fail
    refine HG.out.mono ?_
    rintro e w3 ⟨rfl, T3⟩
    go_wp2_with fail
    go_ret
    exact ⟨⟨_, rfl, HA.out⟩, TT.out.trans0 T3⟩
   ·have hd : p k = false := by simpa using hit
    have HI : Hid (∀ i, i < k + 1 -> p i = false) := fun i h1 => by
     by_cases e : i = k
     ·subst e; exact hd
     ·exact I.out i (by omega)
    rw [hd] at HG
    clear hit hd
    go_wp2_with fail
    refine HG.out.mono ?_
    rintro e w3 ⟨rfl, T3⟩
    go_wp2_with fail
    go_roundg (n - (k + 1))
    case measure => omega
    case rel => exact ⟨k + 1, by go_num, by omega, by omega, TT.out.trans0 T3, HI.out⟩
  ·obtain rfl : k = n := by omega
   have HA : Hid (FirstAt p k (-1)) := .inl ⟨rfl, I.out⟩
   clear hlt
   go_wp2_with fail
   go_ret
   exact ⟨⟨_, rfl, HA.out⟩, TT.out⟩
end
end Go.Proofs.YtafndmnbnmlklaaGreat
