/- Part 12 of what the proof of OrderCounts rests on. No condition. -/
import Derived.Test.YtelaljoebdpicaaGreatPOrderCounts04
import Derived.Test.YtelaljoebdpicaaGreatPOrderCounts11
namespace Go.Proofs.YtelaljoebdpicaaGreat
set_option maxRecDepth 100000
set_option maxHeartbeats 60000000
set_option linter.unusedVariables false
set_option linter.unusedSimpArgs false
set_option linter.unusedSectionVars false
section
open Go.RowKit Go.Maps
structure ElT (t e : TypeId) (size bytes : Nat) : Prop where
 und : Tryz.prog.underlying t = some (.slice e)
 info : ∃ i z, Tryz.prog.info? e = some i /\ i.zero = some z /\ i.size = size /\ i.bytes = bytes /\ z.cells.size = size
 pos : 0 < size
 byt : bytes <= 1000
theorem elt_of {t e : TypeId} {z : Value} {size bytes : Nat} (hu : Tryz.prog.underlying t = some (.slice e)) (hi : (Tryz.prog.info? e).map (fun i => (i.zero, i.size, i.bytes)) = some (some z, size, bytes)) (hz : z.cells.size = size) (hp : 0 < size) (hb : bytes <= 1000) : ElT t e size bytes := by
 obtain ⟨i, h1, h2, h3, h4⟩ := info_parts hi
 exact ⟨hu, ⟨i, z, h1, h2, h3, h4, hz⟩, hp, hb⟩
theorem eltMsg : ElT 22 50 6 64 := elt_of Tryz.underlying22 (z := .agg #[.int .i64 0, .string ⟨#[]⟩, .string ⟨#[]⟩, .int .i64 0, .int .i64 0, .int .i64 0]) (by kernel_rfl) (by kernel_rfl) (by decide) (by decide)
theorem eltBr : ElT 23 74 2 32 := elt_of Tryz.underlying23 (z := .agg #[.int .i64 0, .slice none 0 0]) (by kernel_rfl) (by kernel_rfl) (by decide) (by decide)
theorem eltEnd : ElT 24 57 2 16 := elt_of Tryz.underlying24 (z := .agg #[.int .i64 0, .bool false]) (by kernel_rfl) (by kernel_rfl) (by decide) (by decide)
theorem eltPend : ElT 25 76 2 32 := elt_of Tryz.underlying25 (z := .agg #[.int .i64 0, .slice none 0 0]) (by kernel_rfl) (by kernel_rfl) (by decide) (by decide)
theorem eltPut : ElT 35 45 2 32 := elt_of Tryz.underlying35 (z := .agg #[.string ⟨#[]⟩, .string ⟨#[]⟩]) (by kernel_rfl) (by kernel_rfl) (by decide) (by decide)
theorem eltInt : ElT 34 3 1 8 := elt_of Tryz.underlying34 (z := .int .i64 0) (by kernel_rfl) (by kernel_rfl) (by decide) (by decide)
theorem eltStr : ElT 59 9 1 16 := elt_of Tryz.underlying59 (z := .string ⟨#[]⟩) (by kernel_rfl) (by kernel_rfl) (by decide) (by decide)
def Ones (cs : List Value) : Prop := ∀ u ∈ cs, u.oneCell' = true
theorem Ones.append {a b : List Value} (h : Ones a) (k : Ones b) : Ones (a ++ b) := fun u hu => (List.mem_append.1 hu).elim (h u) (k u)
theorem Ones.take {a : List Value} (h : Ones a) (n : Nat) : Ones (a.take n) := fun u hu => h u (List.mem_of_mem_take hu)
theorem Ones.drop {a : List Value} (h : Ones a) (n : Nat) : Ones (a.drop n) := fun u hu => h u (List.mem_of_mem_drop hu)
theorem Ones.nil : Ones [] := fun u hu => by cases hu
theorem CellsAt.take {w : World} {a : Option Addr} {n c size : Nat} {cs : List Value} (h : CellsAt w (.slice a n c) n size cs) {k : Nat} (hk : k <= n) : CellsAt w (.slice a k c) k size (cs.take (k * size)) := by
 have hl := h.1
 have hm : k * size <= n * size := Nat.mul_le_mul_right _ hk
 refine ⟨by rw [List.length_take]; omega, ?_⟩
 rcases h.2 with ⟨h1, h2⟩ | ⟨b, o, cap, h1, h2, h3, h4, h5⟩
 ·injection h1 with h1 _ h3
  obtain rfl : k = 0 := by omega
  exact .inl ⟨by rw [h1, h3], rfl⟩
 ·injection h1 with h1 _ e
  subst e
  exact .inr ⟨b, o, c, by rw [h1], by omega, h3, h4, fun j x hx => h5 j x (by
   rw [List.getElem?_take] at hx
   split at hx
   ·exact hx
   ·cases hx)⟩
theorem CellsAt.drop {w : World} {b o n c size : Nat} {cs : List Value} (h : CellsAt w (.slice (some ⟨b, o, none⟩) n c) n size cs) {k : Nat} (hk : k <= n) : CellsAt w (.slice (some ⟨b, o + k * size, none⟩) (n - k) (c - k)) (n - k) size (cs.drop (k * size)) := by
 have hl := h.1
 refine ⟨by rw [List.length_drop, hl, Nat.sub_mul], ?_⟩
 rcases h.2 with ⟨h1, h2⟩ | ⟨b', o', cap, h1, h2, h3, h4, h5⟩
 ·injection h1 with h1; cases h1
 ·injection h1 with h1 _ e
  injection h1 with h1
  injection h1 with e1 e2
  subst e; subst e1; subst e2
  exact .inr ⟨b, o + k * size, c - k, rfl, by omega, by omega, h4, fun j x hx => by
   rw [List.getElem?_drop] at hx
   have := h5 _ x hx
   rwa [<- Nat.add_assoc] at this⟩
theorem CellsAt.zero {w : World} {b o c size : Nat} (hb : b < w.heap.size) (hc : c <= maxLen) : CellsAt w (.slice (some ⟨b, o, none⟩) 0 c) 0 size [] :=
 ⟨by simp, .inr ⟨b, o, c, rfl, Nat.zero_le _, hc, hb, fun j x hx => by simp at hx⟩⟩
theorem CellsAt.lt {w : World} {b o n c size : Nat} {cs : List Value} (h : CellsAt w (.slice (some ⟨b, o, none⟩) n c) n size cs) : b < w.heap.size := by
 rcases h.2 with ⟨h1, h2⟩ | ⟨b', o', cap, h1, h2, h3, h4, h5⟩
 ·injection h1 with h1; cases h1
 ·injection h1 with h1
  injection h1 with h1
  injection h1 with h1
  subst h1; exact h4
theorem CellsAt.ofRow {w : World} {e : TypeId} {v : Value} {n size : Nat} {cs : List Value} (h : w.ownsRow 0 e size v n cs) : CellsAt w v n size cs := by
 refine ⟨h.1, ?_⟩
 rcases h.2 with h0 | ⟨g, cap, cur, h1, h2, h3, h4, h5, h6, h7⟩
 ·exact .inl h0
 ·refine .inr ⟨g, 0, cap, h1, h4, h5, blk_lt h3, fun j x hx => ?_⟩
  rw [h1] at h
  have hj : j < n * size := by have := (List.getElem?_eq_some_iff.1 hx).1; rw [h.1] at this; exact this
  have := h.cellAt j hj
  rw [Nat.zero_add, this]; exact hx
structure AppE (e : TypeId) (size : Nat) (w : World) (v : Value) (n' : Nat) (ys : List Value) (v' : Value) (w' : World) : Prop where
 own : w'.ownsRow 0 e size v' n' ys
 grow : w.grownBy w' v.ownBlock
 loc : v'.ownBlock = v.ownBlock ∨ v'.ownBlock = some w.heap.size
 nil : v' = .slice none 0 0 ↔ v = .slice none 0 0 /\ n' = 0
theorem own_nil (w : World) (e : TypeId) (size : Nat) : w.ownsRow 0 e size (.slice none 0 0) 0 [] := ⟨by simp, .inl ⟨rfl, rfl⟩⟩
theorem AppE.fresh {e : TypeId} {size : Nat} {w w' : World} {n' : Nat} {ys : List Value} {v' : Value} (h : AppE e size w (.slice none 0 0) n' ys v' w') : Tch No w w' /\ ∀ k, v'.ownBlock = some k -> w.heap.size <= k := by
 refine ⟨Tch.grown h.grow (fun k hk _ => by simp [Value.ownBlock] at hk), fun k hk => ?_⟩
 rcases h.loc with e1 | e1
 ·rw [e1] at hk; simp [Value.ownBlock] at hk
 ·rw [e1] at hk; simp at hk; omega
theorem AppE.on {e : TypeId} {size : Nat} {w0 w w' : World} {v : Value} {n' : Nat} {ys : List Value} {v' : Value} (h : AppE e size w v n' ys v' w') (t : Tch No w0 w) (hv : ∀ k, v.ownBlock = some k -> w0.heap.size <= k) : Tch No w0 w' /\ ∀ k, v'.ownBlock = some k -> w0.heap.size <= k := by
 refine ⟨t.fresh (F := fun k => v.ownBlock = some k) (Tch.grown h.grow (fun k hk _ => hk)) (fun k hk => hv k hk), fun k hk => ?_⟩
 have := t.size
 rcases h.loc with e1 | e1
 ·rw [e1] at hk; exact hv k hk
 ·rw [e1] at hk; simp at hk; omega
theorem run_appE {t e : TypeId} {size bytes : Nat} (E : ElT t e size bytes) (w : World) (ty : TypeId) (v : Value) (n : Nat) (xs : List Value) (hown : w.ownsRow 0 e size v n xs) (u : Value) (m : Nat) (news : List Value) (hu : CellsAt w u m size news) (h1 : Ones news) (hlen : n + m <= 100000000) :
  ∃ v' w', (Builtin.append_ #[t, t] ty #[v, u]).run Tryz.prog w = .ok v' w' /\ AppE e size w v (n + m) (xs ++ news) v' w' := by
 obtain ⟨i0, z, hi0, hz0, hz1, hz2, hzs⟩ := E.info
 have hb := E.byt
 rcases hu.2 with ⟨rfl, rfl⟩ | ⟨b, o, c, rfl, _, _, _, hc⟩
 ·have : news = [] := List.eq_nil_of_length_eq_zero (by simpa using hu.1)
  subst this
  have hr := run_append_owned_none (P := Tryz.prog) w 0 t ty e i0 size E.und hi0 v n xs hown
  refine ⟨v, w, hr, by simpa using hown, World.grownBy.refl _ _, .inl rfl, ?_⟩
  rw [Nat.add_zero]
  refine ⟨fun h => ⟨h, ?_⟩, fun h => h.1⟩
  rcases hown.2 with ⟨_, h0⟩ | ⟨g, cap, cur, h2, _⟩
  ·exact h0
  ·rw [h2] at h; cases h
 ·have hby : (n + m) * bytes <= 140737488355328 := by
   have : (n + m) * bytes <= 100000000 * 1000 := Nat.mul_le_mul hlen hb
   omega
  obtain ⟨v', w', hr, q1, q2, q3, q4⟩ := run_append_own_at (P := Tryz.prog) w 0 t ty e i0 z size bytes E.und hi0 hz0 hz1 hz2 hzs E.pos v n xs hown ⟨b, o, none⟩ m c news hu.1 (fun j u hj => by rw [addr_add]; exact hc j u hj) h1 (by simp only [maxLen]; omega) hby (Nat.zero_le _)
  refine ⟨v', w', hr, q1, q2, q4, q3.trans ⟨fun h => ⟨h.1, ?_⟩, fun h => ⟨h.1, by omega⟩⟩⟩
  obtain ⟨h2, h3⟩ := h
  subst h3
  rcases hown.2 with ⟨_, h0⟩ | ⟨g, cap, cur, h4, _⟩
  ·omega
  ·rw [h2] at h4; cases h4
theorem wp_appE {t e : TypeId} {size bytes : Nat} (E : ElT t e size bytes) {o : Oper} {a : Act} {w : World} {K : Act -> World -> Prop} {Q : Exit -> Act -> World -> Prop} (sl x : Operand)
  (ho : o.op = .call { callee := .builtin .append, args := #[sl, x], argTypes := #[t, t] })
  (v : Value) (n : Nat) (xs : List Value) (hs : a.eval sl = v) (hown : w.ownsRow 0 e size v n xs) (u : Value) (m : Nat) (news : List Value) (hx : a.eval x = u) (hu : CellsAt w u m size news) (h1 : Ones news) (hlen : n + m <= 100000000)
  (h : ∀ a' n' cap' w', AppE e size w v (n + m) (xs ++ news) (.slice a' n' cap') w' -> Hid (n' = n + m) -> K (a.put o.dst (.slice a' n' cap')) w') :
  Oper.wp Tryz.prog o a w K Q := by
 obtain ⟨v', w', hr, hA⟩ := run_appE E w o.type v n xs hown u m news hu h1 hlen
 obtain ⟨a', cap', rfl, _, _⟩ := own_shape hA.own
 unfold Oper.wp execOp
 simp only [ho, resolve, invoke, builtin, Sem.run_bind, Sem.run_pure, Result.andThen_ok, List.map_toArray, List.map_cons, List.map_nil, hs, hx, hr]
 exact h _ _ _ _ hA rfl
theorem wpList_appE {t e : TypeId} {size bytes : Nat} (E : ElT t e size bytes) (w : World) {ops : Array Oper} {rest : List Oper} {o : Oper} {a : Act} {Q : Exit -> Act -> World -> Prop} (hgd : o.guard = none) (sl x : Operand)
  (ho : o.op = .call { callee := .builtin .append, args := #[sl, x], argTypes := #[t, t] })
  (v : Value) (n : Nat) (xs : List Value) (hs : a.eval sl = v) (hown : w.ownsRow 0 e size v n xs) (u : Value) (m : Nat) (news : List Value) (hx : a.eval x = u) (hu : CellsAt w u m size news) (h1 : Ones news) (hlen : n + m <= 100000000)
  (h : ∀ a' n' cap' w', AppE e size w v (n + m) (xs ++ news) (.slice a' n' cap') w' -> Hid (n' = n + m) -> wpList Tryz.prog ops Q rest (a.put o.dst (.slice a' n' cap')) w') :
  wpList Tryz.prog ops Q (o :: rest) a w :=
 wpList_plain hgd fun K hK => wp_appE E sl x ho v n xs hs hown u m news hx hu h1 hlen (fun a' n' cap' w' hA hn => hK _ _ (h a' n' cap' w' hA hn))
theorem cells_lit (w : World) (cs : Array Value) (e : TypeId) (size : Nat) (l : List Value) (hl : l = cs.toList) (hs : cs.size = size) (fr : Nat × Nat) : CellsAt (w.alloc (.cells cs e fr)) (.slice (some ⟨w.heap.size, 0, none⟩) 1 1) 1 size l := by
 subst hl
 refine ⟨by simp [hs], .inr ⟨w.heap.size, 0, 1, rfl, Nat.le_refl _, by simp [maxLen], by simp, fun j x hx => ?_⟩⟩
 rw [Nat.zero_add, World.cell?_alloc_mark]
 simpa using hx
theorem ones_flat {α : Type} {enc : α -> List Value} (h : ∀ x, Ones (enc x)) (l : List α) : Ones (l.flatMap enc) := fun u hu => by
 obtain ⟨x, _, hx⟩ := List.mem_flatMap.1 hu
 exact h x u hx
theorem ones_msg (m : MsgM) : Ones (encMsg m) := fun u hu => by
 simp only [encMsg, List.mem_cons, List.not_mem_nil, or_false] at hu
 rcases hu with rfl | rfl | rfl | rfl | rfl | rfl <;> rfl
theorem ones_put (m : PutM) : Ones (encPut m) := fun u hu => by
 simp only [encPut, List.mem_cons, List.not_mem_nil, or_false] at hu
 rcases hu with rfl | rfl <;> rfl
theorem ones_end (m : EndM) : Ones (encEnd m) := fun u hu => by
 simp only [encEnd, List.mem_cons, List.not_mem_nil, or_false] at hu
 rcases hu with rfl | rfl <;> rfl
theorem ones_ints (l : List Int) : Ones (l.map (fun x => .int .i64 x)) := fun u hu => by
 obtain ⟨x, _, rfl⟩ := List.mem_map.1 hu; rfl
end
end Go.Proofs.YtelaljoebdpicaaGreat
