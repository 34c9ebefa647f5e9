/- Part 8 of what the proof of StoreIds rests on. No condition. -/
import Derived.Test.YtafndmnbnmlklaaGreatPStoreIds03
import Derived.Test.YtafndmnbnmlklaaGreatPStoreIds07
namespace Go.Proofs.YtafndmnbnmlklaaGreat
set_option maxRecDepth 100000
set_option maxHeartbeats 60000000
set_option linter.unusedVariables false
set_option linter.unusedSimpArgs false
set_option linter.unusedSectionVars false
section
open Go.RowKit Go.Maps
structure ElT (t e : TypeId) (size bytes : Nat) : Prop where
 und : Tryz.prog.underlying t = some (.slice e)
 info : ∃ i z, Tryz.prog.info? e = some i /\ i.zero = some z /\ i.size = size /\ i.bytes = bytes /\ z.cells.size = size
 pos : 0 < size
 byt : bytes <= 1000
theorem elt_of {t e : TypeId} {z : Value} {size bytes : Nat} (hu : Tryz.prog.underlying t = some (.slice e)) (hi : (Tryz.prog.info? e).map (fun i => (i.zero, i.size, i.bytes)) = some (some z, size, bytes)) (hz : z.cells.size = size) (hp : 0 < size) (hb : bytes <= 1000) : ElT t e size bytes := by
 obtain ⟨i, h1, h2, h3, h4⟩ := info_parts hi
 exact ⟨hu, ⟨i, z, h1, h2, h3, h4, hz⟩, hp, hb⟩
theorem eltMsg : ElT 24 50 6 64 := elt_of Tryz.underlying24 (z := .agg #[.int .i64 0, .string ⟨#[]⟩, .string ⟨#[]⟩, .int .i64 0, .int .i64 0, .int .i64 0]) (by kernel_rfl) (by kernel_rfl) (by decide) (by decide)
theorem eltBr : ElT 25 95 2 32 := elt_of Tryz.underlying25 (z := .agg #[.int .i64 0, .slice none 0 0]) (by kernel_rfl) (by kernel_rfl) (by decide) (by decide)
theorem eltEnd : ElT 26 71 2 16 := elt_of Tryz.underlying26 (z := .agg #[.int .i64 0, .bool false]) (by kernel_rfl) (by kernel_rfl) (by decide) (by decide)
theorem eltPend : ElT 27 75 2 32 := elt_of Tryz.underlying27 (z := .agg #[.int .i64 0, .slice none 0 0]) (by kernel_rfl) (by kernel_rfl) (by decide) (by decide)
theorem eltPut : ElT 32 45 2 32 := elt_of Tryz.underlying32 (z := .agg #[.string ⟨#[]⟩, .string ⟨#[]⟩]) (by kernel_rfl) (by kernel_rfl) (by decide) (by decide)
theorem eltInt : ElT 31 3 1 8 := elt_of Tryz.underlying31 (z := .int .i64 0) (by kernel_rfl) (by kernel_rfl) (by decide) (by decide)
def Ones (cs : List Value) : Prop := ∀ u ∈ cs, u.oneCell' = true
theorem Ones.append {a b : List Value} (h : Ones a) (k : Ones b) : Ones (a ++ b) := fun u hu => (List.mem_append.1 hu).elim (h u) (k u)
theorem Ones.take {a : List Value} (h : Ones a) (n : Nat) : Ones (a.take n) := fun u hu => h u (List.mem_of_mem_take hu)
theorem Ones.drop {a : List Value} (h : Ones a) (n : Nat) : Ones (a.drop n) := fun u hu => h u (List.mem_of_mem_drop hu)
theorem Ones.nil : Ones [] := fun u hu => by cases hu
theorem CellsAt.take {w : World} {a : Option Addr} {n c size : Nat} {cs : List Value} (h : CellsAt w (.slice a n c) n size cs) {k : Nat} (hk : k <= n) : CellsAt w (.slice a k c) k size (cs.take (k * size)) := by
 have hl := h.1
 have hm : k * size <= n * size := Nat.mul_le_mul_right _ hk
 refine ⟨by rw [List.length_take]; omega, ?_⟩
 rcases h.2 with ⟨h1, h2⟩ | ⟨b, o, cap, h1, h2, h3, h4, h5⟩
 ·injection h1 with h1 _ h3
  obtain rfl : k = 0 := by omega
  exact .inl ⟨by rw [h1, h3], rfl⟩
 ·injection h1 with h1 _ e
  subst e
  exact .inr ⟨b, o, c, by rw [h1], by omega, h3, h4, fun j x hx => h5 j x (by
   rw [List.getElem?_take] at hx
   split at hx
   ·exact hx
   ·cases hx)⟩
theorem CellsAt.drop {w : World} {b o n c size : Nat} {cs : List Value} (h : CellsAt w (.slice (some ⟨b, o, none⟩) n c) n size cs) {k : Nat} (hk : k <= n) : CellsAt w (.slice (some ⟨b, o + k * size, none⟩) (n - k) (c - k)) (n - k) size (cs.drop (k * size)) := by
 have hl := h.1
 refine ⟨by rw [List.length_drop, hl, Nat.sub_mul], ?_⟩
 rcases h.2 with ⟨h1, h2⟩ | ⟨b', o', cap, h1, h2, h3, h4, h5⟩
 ·injection h1 with h1; cases h1
 ·injection h1 with h1 _ e
  injection h1 with h1
  injection h1 with e1 e2
  subst e; subst e1; subst e2
  exact .inr ⟨b, o + k * size, c - k, rfl, by omega, by omega, h4, fun j x hx => by
   rw [List.getElem?_drop] at hx
   have := h5 _ x hx
   rwa [<- Nat.add_assoc] at this⟩
theorem CellsAt.zero {w : World} {b o c size : Nat} (hb : b < w.heap.size) (hc : c <= maxLen) : CellsAt w (.slice (some ⟨b, o, none⟩) 0 c) 0 size [] :=
 ⟨by simp, .inr ⟨b, o, c, rfl, Nat.zero_le _, hc, hb, fun j x hx => by simp at hx⟩⟩
theorem CellsAt.lt {w : World} {b o n c size : Nat} {cs : List Value} (h : CellsAt w (.slice (some ⟨b, o, none⟩) n c) n size cs) : b < w.heap.size := by
 rcases h.2 with ⟨h1, h2⟩ | ⟨b', o', cap, h1, h2, h3, h4, h5⟩
 ·injection h1 with h1; cases h1
 ·injection h1 with h1
  injection h1 with h1
  injection h1 with h1
  subst h1; exact h4
theorem CellsAt.ofRow {w : World} {e : TypeId} {v : Value} {n size : Nat} {cs : List Value} (h : w.ownsRow 0 e size v n cs) : CellsAt w v n size cs := by
 refine ⟨h.1, ?_⟩
 rcases h.2 with h0 | ⟨g, cap, cur, h1, h2, h3, h4, h5, h6, h7⟩
 ·exact .inl h0
 ·refine .inr ⟨g, 0, cap, h1, h4, h5, blk_lt h3, fun j x hx => ?_⟩
  rw [h1] at h
  have hj : j < n * size := by have := (List.getElem?_eq_some_iff.1 hx).1; rw [h.1] at this; exact this
  have := h.cellAt j hj
  rw [Nat.zero_add, this]; exact hx
structure AppE (e : TypeId) (size : Nat) (w : World) (v : Value) (n' : Nat) (ys : List Value) (v' : Value) (w' : World) : Prop where
 own : w'.ownsRow 0 e size v' n' ys
 grow : w.grownBy w' v.ownBlock
 loc : v'.ownBlock = v.ownBlock ∨ v'.ownBlock = some w.heap.size
 nil : v' = .slice none 0 0 ↔ v = .slice none 0 0 /\ n' = 0
theorem own_nil (w : World) (e : TypeId) (size : Nat) : w.ownsRow 0 e size (.slice none 0 0) 0 [] := ⟨by simp, .inl ⟨rfl, rfl⟩⟩
theorem AppE.fresh {e : TypeId} {size : Nat} {w w' : World} {n' : Nat} {ys : List Value} {v' : Value} (h : AppE e size w (.slice none 0 0) n' ys v' w') : Tch No w w' /\ ∀ k, v'.ownBlock = some k -> w.heap.size <= k := by
 refine ⟨Tch.grown h.grow (fun k hk _ => by simp [Value.ownBlock] at hk), fun k hk => ?_⟩
 rcases h.loc with e1 | e1
 ·rw [e1] at hk; simp [Value.ownBlock] at hk
 ·rw [e1] at hk; simp at hk; omega
theorem AppE.on {e : TypeId} {size : Nat} {w0 w w' : World} {v : Value} {n' : Nat} {ys : List Value} {v' : Value} (h : AppE e size w v n' ys v' w') (t : Tch No w0 w) (hv : ∀ k, v.ownBlock = some k -> w0.heap.size <= k) : Tch No w0 w' /\ ∀ k, v'.ownBlock = some k -> w0.heap.size <= k := by
 refine ⟨t.fresh (F := fun k => v.ownBlock = some k) (Tch.grown h.grow (fun k hk _ => hk)) (fun k hk => hv k hk), fun k hk => ?_⟩
 have := t.size
 rcases h.loc with e1 | e1
 ·rw [e1] at hk; exact hv k hk
 ·rw [e1] at hk; simp at hk; omega
theorem run_appE {t e : TypeId} {size bytes : Nat} (E : ElT t e size bytes) (w : World) (ty : TypeId) (v : Value) (n : Nat) (xs : List Value) (hown : w.ownsRow 0 e size v n xs) (u : Value) (m : Nat) (news : List Value) (hu : CellsAt w u m size news) (h1 : Ones news) (hlen : n + m <= 100000000) :
  ∃ v' w', (Builtin.append_ #[t, t] ty #[v, u]).run Tryz.prog w = .ok v' w' /\ AppE e size w v (n + m) (xs ++ news) v' w' := by
 obtain ⟨i0, z, hi0, hz0, hz1, hz2, hzs⟩ := E.info
 have hb := E.byt
 rcases hu.2 with ⟨rfl, rfl⟩ | ⟨b, o, c, rfl, _, _, _, hc⟩
 ·have : news = [] := List.eq_nil_of_length_eq_zero (by simpa using hu.1)
  subst this
  have hr := run_append_owned_none (P := Tryz.prog) w 0 t ty e i0 size E.und hi0 v n xs hown
  refine ⟨v, w, hr, by simpa using hown, World.grownBy.refl _ _, .inl rfl, ?_⟩
  rw [Nat.add_zero]
  refine ⟨fun h => ⟨h, ?_⟩, fun h => h.1⟩
  rcases hown.2 with ⟨_, h0⟩ | ⟨g, cap, cur, h2, _⟩
  ·exact h0
  ·rw [h2] at h; cases h
 ·have hby : (n + m) * bytes <= 140737488355328 := by
   have : (n + m) * bytes <= 100000000 * 1000 := Nat.mul_le_mul hlen hb
   omega
  obtain ⟨v', w', hr, q1, q2, q3, q4⟩ := run_append_own_at (P := Tryz.prog) w 0 t ty e i0 z size bytes E.und hi0 hz0 hz1 hz2 hzs E.pos v n xs hown ⟨b, o, none⟩ m c news hu.1 (fun j u hj => by rw [addr_add]; exact hc j u hj) h1 (by simp only [maxLen]; omega) hby (Nat.zero_le _)
  refine ⟨v', w', hr, q1, q2, q4, q3.trans ⟨fun h => ⟨h.1, ?_⟩, fun h => ⟨h.1, by omega⟩⟩⟩
  obtain ⟨h2, h3⟩ := h
  subst h3
  rcases hown.2 with ⟨_, h0⟩ | ⟨g, cap, cur, h4, _⟩
  ·omega
  ·rw [h2] at h4; cases h4
theorem wp_appE {t e : TypeId} {size bytes : Nat} (E : ElT t e size bytes) {o : Oper} {a : Act} {w : World} {K : Act -> World -> Prop} {Q : Exit -> Act -> World -> Prop} (sl x : Operand)
  (ho : o.op = .call { callee := .builtin .append, args := #[sl, x], argTypes := #[t, t] })
  (v : Value) (n : Nat) (xs : List Value) (hs : a.eval sl = v) (hown : w.ownsRow 0 e size v n xs) (u : Value) (m : Nat) (news : List Value) (hx : a.eval x = u) (hu : CellsAt w u m size news) (h1 : Ones news) (hlen : n + m <= 100000000)
  (h : ∀ a' n' cap' w', AppE e size w v (n + m) (xs ++ news) (.slice a' n' cap') w' -> Hid (n' = n + m) -> K (a.put o.dst (.slice a' n' cap')) w') :
  Oper.wp Tryz.prog o a w K Q := by
 obtain ⟨v', w', hr, hA⟩ := run_appE E w o.type v n xs hown u m news hu h1 hlen
 obtain ⟨a', cap', rfl, _, _⟩ := own_shape hA.own
 unfold Oper.wp execOp
 simp only [ho, resolve, invoke, builtin, Sem.run_bind, Sem.run_pure, Result.andThen_ok, List.map_toArray, List.map_cons, List.map_nil, hs, hx, hr]
 exact h _ _ _ _ hA rfl
theorem wpList_appE {t e : TypeId} {size bytes : Nat} (E : ElT t e size bytes) (w : World) {ops : Array Oper} {rest : List Oper} {o : Oper} {a : Act} {Q : Exit -> Act -> World -> Prop} (hgd : o.guard = none) (sl x : Operand)
  (ho : o.op = .call { callee := .builtin .append, args := #[sl, x], argTypes := #[t, t] })
  (v : Value) (n : Nat) (xs : List Value) (hs : a.eval sl = v) (hown : w.ownsRow 0 e size v n xs) (u : Value) (m : Nat) (news : List Value) (hx : a.eval x = u) (hu : CellsAt w u m size news) (h1 : Ones news) (hlen : n + m <= 100000000)
  (h : ∀ a' n' cap' w', AppE e size w v (n + m) (xs ++ news) (.slice a' n' cap') w' -> Hid (n' = n + m) -> wpList Tryz.prog ops Q rest (a.put o.dst (.slice a' n' cap')) w') :
  wpList Tryz.prog ops Q (o :: rest) a w :=
 wpList_plain hgd fun K hK => wp_appE E sl x ho v n xs hs hown u m news hx hu h1 hlen (fun a' n' cap' w' hA hn => hK _ _ (h a' n' cap' w' hA hn))
theorem cells_lit (w : World) (cs : Array Value) (e : TypeId) (size : Nat) (l : List Value) (hl : l = cs.toList) (hs : cs.size = size) (fr : Nat × Nat) : CellsAt (w.alloc (.cells cs e fr)) (.slice (some ⟨w.heap.size, 0, none⟩) 1 1) 1 size l := by
 subst hl
 refine ⟨by simp [hs], .inr ⟨w.heap.size, 0, 1, rfl, Nat.le_refl _, by simp [maxLen], by simp, fun j x hx => ?_⟩⟩
 rw [Nat.zero_add, World.cell?_alloc_mark]
 simpa using hx
theorem ones_flat {α : Type} {enc : α -> List Value} (h : ∀ x, Ones (enc x)) (l : List α) : Ones (l.flatMap enc) := fun u hu => by
 obtain ⟨x, _, hx⟩ := List.mem_flatMap.1 hu
 exact h x u hx
theorem ones_msg (m : MsgM) : Ones (encMsg m) := fun u hu => by
 simp only [encMsg, List.mem_cons, List.not_mem_nil, or_false] at hu
 rcases hu with rfl | rfl | rfl | rfl | rfl | rfl <;> rfl
theorem ones_put (m : PutM) : Ones (encPut m) := fun u hu => by
 simp only [encPut, List.mem_cons, List.not_mem_nil, or_false] at hu
 rcases hu with rfl | rfl <;> rfl
theorem ones_end (m : EndM) : Ones (encEnd m) := fun u hu => by
 simp only [encEnd, List.mem_cons, List.not_mem_nil, or_false] at hu
 rcases hu with rfl | rfl <;> rfl
theorem ones_ints (l : List Int) : Ones (l.map (fun x => .int .i64 x)) := fun u hu => by
 obtain ⟨x, _, rfl⟩ := List.mem_map.1 hu; rfl
end
section
open Go.RowKit Go.Maps
structure Runs (P : Program) (ρ : Operand -> Value) (o : Oper) (W : World) (v : Value) (W' : World) : Prop where
 out : (execOp ρ o).run P W = .ok (.value v) W'
section
variable {P : Program} {ops : Array Oper} {Q : Exit -> Act -> World -> Prop} {a0 : Act} {ds : List Nat} {C : World -> Prop} {R : Nat -> Value -> World -> Prop} {wd : List Nat} {need kill later : Nat -> List Nat}
theorem iwanted_no {o : Oper} {a : Act} (hg : o.guard = none) : Region.wanted o (yielded ops a.tmps) = true := by simp [Region.wanted, hg]
theorem istep_of {i : Nat} (o : Oper) (ho : ops[i]? = some o)
  (h : ∀ a w, Fr a0 ds a -> C w -> (∀ k ∈ need i, R k (slotV ops a k) w) -> ∀ K : Act -> World -> Prop, (∀ v w', C w' -> R i (match o.dst with | some _ => v | none => undef) w' -> (∀ j ∈ wd, j ≠ i -> j ∉ kill i -> j ∉ later i -> ∀ x, R j x w -> R j x w') -> K (a.put o.dst v) w') ->
   if Region.wanted o (yielded ops a.tmps) = true then Oper.wp P o a w K Q else K (a.put o.dst undef) w) : IStep P ops Q a0 ds C R wd need kill later i := by
 intro o' a w ho' hf hC hn K hK
 rw [ho] at ho'
 injection ho' with ho'
 subst ho'
 exact h a w hf hC hn K hK
theorem istep_q {i d : Nat} (v : Value) (o : Oper) (ho : ops[i]? = some o) (hd : o.dst = some d) (hw : ∀ a w, Fr a0 ds a -> C w -> (∀ k ∈ need i, R k (slotV ops a k) w) -> Region.wanted o (yielded ops a.tmps) = true) (hR : ∀ w, C w -> R i v w)
  (h : ∀ a w, Fr a0 ds a -> C w -> (∀ k ∈ need i, R k (slotV ops a k) w) -> Runs P a.eval o w v w) : IStep P ops Q a0 ds C R wd need kill later i := by
 refine istep_of o ho (fun a w hf hC hn K hK => ?_)
 rw [if_pos (hw a w hf hC hn)]
 unfold Oper.wp
 rw [(h a w hf hC hn).out]
 exact hK v w hC (by rw [hd]; exact hR w hC) (fun j _ _ _ _ x h => h)
theorem iq {i d : Nat} (v : Value) {b : Op} {c : TypeId} {e : String} {f : Array Edge} (ho : ops[i]? = some ⟨some d, b, c, e, f, none⟩) (hR : ∀ w, C w -> R i v w) (h : ∀ a w, Fr a0 ds a -> C w -> (∀ k ∈ need i, R k (slotV ops a k) w) -> Runs P a.eval ⟨some d, b, c, e, f, none⟩ w v w) : IStep P ops Q a0 ds C R wd need kill later i :=
  istep_q v _ ho rfl (fun _ _ _ _ _ => iwanted_no rfl) hR h
theorem istep_w {i : Nat} (o : Oper) (ho : ops[i]? = some o) (hw : ∀ a w, Fr a0 ds a -> C w -> (∀ k ∈ need i, R k (slotV ops a k) w) -> Region.wanted o (yielded ops a.tmps) = true)
  (h : ∀ a w, Fr a0 ds a -> C w -> (∀ k ∈ need i, R k (slotV ops a k) w) -> ∀ K : Act -> World -> Prop, (∀ v w', C w' -> R i (match o.dst with | some _ => v | none => undef) w' -> (∀ j ∈ wd, j ≠ i -> j ∉ kill i -> j ∉ later i -> ∀ x, R j x w -> R j x w') -> K (a.put o.dst v) w') -> Oper.wp P o a w K Q) : IStep P ops Q a0 ds C R wd need kill later i := by
 refine istep_of o ho (fun a w hf hC hn K hK => ?_)
 rw [if_pos (hw a w hf hC hn)]
 exact h a w hf hC hn K hK
theorem wp_runs {o : Oper} {a : Act} {w : World} {K : Act -> World -> Prop} {v : Value} {w' : World} (hr : Runs P a.eval o w v w') (h : K (a.put o.dst v) w') : Oper.wp P o a w K Q := by
 unfold Oper.wp
 rw [hr.out]
 exact h
end
variable {ρ : Operand -> Value} {o : Oper}
theorem y_move {P : Program} (x : Operand) {v : Value} (ho : o.op = .move x) (hx : ρ x = v) (W : World) : Runs P ρ o W v W := by
 constructor
 unfold execOp; rw [ho]; subst hx; rfl
theorem y_assign {P : Program} (x : Operand) {v : Value} (ho : o.op = .assign x) (hx : ρ x = v) (W : World) : Runs P ρ o W v W := by
 constructor
 unfold execOp; rw [ho]; subst hx; rfl
theorem y_faState0 (x : Operand) {b off : Nat} (ho : o.op = .fieldAddr 29 x 0) (hx : ρ x = .pointer (some ⟨b, off, none⟩)) (W : World) : Runs Tryz.prog ρ o W (.pointer (some ⟨b, off, none⟩)) W := by
 constructor
 unfold execOp
 simp only [ho, hx]
 go_simp
theorem y_faState1 (x : Operand) {b off : Nat} (ho : o.op = .fieldAddr 29 x 1) (hx : ρ x = .pointer (some ⟨b, off, none⟩)) (W : World) : Runs Tryz.prog ρ o W (.pointer (some ⟨b, off + 1, none⟩)) W := by
 constructor
 unfold execOp
 simp only [ho, hx]
 go_simp
theorem y_faState2 (x : Operand) {b off : Nat} (ho : o.op = .fieldAddr 29 x 2) (hx : ρ x = .pointer (some ⟨b, off, none⟩)) (W : World) : Runs Tryz.prog ρ o W (.pointer (some ⟨b, off + 2, none⟩)) W := by
 constructor
 unfold execOp
 simp only [ho, hx]
 go_simp
theorem y_faState4 (x : Operand) {b off : Nat} (ho : o.op = .fieldAddr 29 x 4) (hx : ρ x = .pointer (some ⟨b, off, none⟩)) (W : World) : Runs Tryz.prog ρ o W (.pointer (some ⟨b, off + 4, none⟩)) W := by
 constructor
 unfold execOp
 simp only [ho, hx]
 go_simp
theorem y_faState5 (x : Operand) {b off : Nat} (ho : o.op = .fieldAddr 29 x 5) (hx : ρ x = .pointer (some ⟨b, off, none⟩)) (W : World) : Runs Tryz.prog ρ o W (.pointer (some ⟨b, off + 5, none⟩)) W := by
 constructor
 unfold execOp
 simp only [ho, hx]
 go_simp
theorem y_faState6 (x : Operand) {b off : Nat} (ho : o.op = .fieldAddr 29 x 6) (hx : ρ x = .pointer (some ⟨b, off, none⟩)) (W : World) : Runs Tryz.prog ρ o W (.pointer (some ⟨b, off + 6, none⟩)) W := by
 constructor
 unfold execOp
 simp only [ho, hx]
 go_simp
theorem y_ldState (x : Operand) {b off : Nat} {v0 v1 v2 v3 v4 v5 v6 v7 v8 : Value} (ho : o.op = .load 29 x) (hx : ρ x = .pointer (some ⟨b, off, none⟩)) (W : World) (h0 : W.cell? ⟨b, off, none⟩ = some v0) (h1 : W.cell? ⟨b, off + 1, none⟩ = some v1) (h2 : W.cell? ⟨b, off + 2, none⟩ = some v2) (h3 : W.cell? ⟨b, off + 3, none⟩ = some v3) (h4 : W.cell? ⟨b, off + 4, none⟩ = some v4) (h5 : W.cell? ⟨b, off + 5, none⟩ = some v5) (h6 : W.cell? ⟨b, off + 6, none⟩ = some v6) (h7 : W.cell? ⟨b, off + 7, none⟩ = some v7) (h8 : W.cell? ⟨b, off + 8, none⟩ = some v8) : Runs Tryz.prog ρ o W (.agg #[v0, v1, v2, v3, v4, v5, v6, v7, v8]) W := by
 constructor
 unfold execOp
 simp only [ho, hx]
 go_simp
theorem y_faMessage5 (x : Operand) {b off : Nat} (ho : o.op = .fieldAddr 50 x 5) (hx : ρ x = .pointer (some ⟨b, off, none⟩)) (W : World) : Runs Tryz.prog ρ o W (.pointer (some ⟨b, off + 5, none⟩)) W := by
 constructor
 unfold execOp
 simp only [ho, hx]
 go_simp
theorem y_faPut0 (x : Operand) {b off : Nat} (ho : o.op = .fieldAddr 45 x 0) (hx : ρ x = .pointer (some ⟨b, off, none⟩)) (W : World) : Runs Tryz.prog ρ o W (.pointer (some ⟨b, off, none⟩)) W := by
 constructor
 unfold execOp
 simp only [ho, hx]
 go_simp
theorem y_faPut1 (x : Operand) {b off : Nat} (ho : o.op = .fieldAddr 45 x 1) (hx : ρ x = .pointer (some ⟨b, off, none⟩)) (W : World) : Runs Tryz.prog ρ o W (.pointer (some ⟨b, off + 1, none⟩)) W := by
 constructor
 unfold execOp
 simp only [ho, hx]
 go_simp
theorem y_faRecord1 (x : Operand) {b off : Nat} (ho : o.op = .fieldAddr 34 x 1) (hx : ρ x = .pointer (some ⟨b, off, none⟩)) (W : World) : Runs Tryz.prog ρ o W (.pointer (some ⟨b, off + 1, none⟩)) W := by
 constructor
 unfold execOp
 simp only [ho, hx]
 go_simp
theorem y_faRecord2 (x : Operand) {b off : Nat} (ho : o.op = .fieldAddr 34 x 2) (hx : ρ x = .pointer (some ⟨b, off, none⟩)) (W : World) : Runs Tryz.prog ρ o W (.pointer (some ⟨b, off + 2, none⟩)) W := by
 constructor
 unfold execOp
 simp only [ho, hx]
 go_simp
theorem y_faRecord5 (x : Operand) {b off : Nat} (ho : o.op = .fieldAddr 34 x 5) (hx : ρ x = .pointer (some ⟨b, off, none⟩)) (W : World) : Runs Tryz.prog ρ o W (.pointer (some ⟨b, off + 5, none⟩)) W := by
 constructor
 unfold execOp
 simp only [ho, hx]
 go_simp
theorem y_ldRecord (x : Operand) {b off : Nat} {v0 v1 v2 v3 v4 v5 : Value} (ho : o.op = .load 34 x) (hx : ρ x = .pointer (some ⟨b, off, none⟩)) (W : World) (h0 : W.cell? ⟨b, off, none⟩ = some v0) (h1 : W.cell? ⟨b, off + 1, none⟩ = some v1) (h2 : W.cell? ⟨b, off + 2, none⟩ = some v2) (h3 : W.cell? ⟨b, off + 3, none⟩ = some v3) (h4 : W.cell? ⟨b, off + 4, none⟩ = some v4) (h5 : W.cell? ⟨b, off + 5, none⟩ = some v5) : Runs Tryz.prog ρ o W (.agg #[v0, v1, v2, v3, v4, v5]) W := by
 constructor
 unfold execOp
 simp only [ho, hx]
 go_simp
theorem y_ldint (x : Operand) {ad : Addr} {v : Value} (ho : o.op = .load 3 x) (hx : ρ x = .pointer (some ad)) (W : World) (hc : W.cell? ad = some v) : Runs Tryz.prog ρ o W (v) W := by
 constructor
 unfold execOp
 simp only [ho, hx]
 go_simp
theorem y_ldint64 (x : Operand) {ad : Addr} {v : Value} (ho : o.op = .load 2 x) (hx : ρ x = .pointer (some ad)) (W : World) (hc : W.cell? ad = some v) : Runs Tryz.prog ρ o W (v) W := by
 constructor
 unfold execOp
 simp only [ho, hx]
 go_simp
theorem y_ldstring (x : Operand) {ad : Addr} {v : Value} (ho : o.op = .load 9 x) (hx : ρ x = .pointer (some ad)) (W : World) (hc : W.cell? ad = some v) : Runs Tryz.prog ρ o W (v) W := by
 constructor
 unfold execOp
 simp only [ho, hx]
 go_simp
theorem y_ldSMessage (x : Operand) {ad : Addr} {v : Value} (ho : o.op = .load 24 x) (hx : ρ x = .pointer (some ad)) (W : World) (hc : W.cell? ad = some v) : Runs Tryz.prog ρ o W (v) W := by
 constructor
 unfold execOp
 simp only [ho, hx]
 go_simp
theorem y_ixMessage (x y : Operand) {b off n c k : Nat} (ho : o.op = .indexAddr 24 x y) (hx : ρ x = .slice (some ⟨b, off, none⟩) n c) (hy : ρ y = .int .i64 (k : Nat)) (hk : k < n) (W : World) : Runs Tryz.prog ρ o W (.pointer (some ⟨b, off + k * 6, none⟩)) W := by
 constructor
 have h1 : (k : Int) < (n : Int) := by omega
 unfold execOp
 simp only [ho, hx, hy]
 go_simp
theorem y_ldSBranch (x : Operand) {ad : Addr} {v : Value} (ho : o.op = .load 25 x) (hx : ρ x = .pointer (some ad)) (W : World) (hc : W.cell? ad = some v) : Runs Tryz.prog ρ o W (v) W := by
 constructor
 unfold execOp
 simp only [ho, hx]
 go_simp
theorem y_ldSEnd (x : Operand) {ad : Addr} {v : Value} (ho : o.op = .load 26 x) (hx : ρ x = .pointer (some ad)) (W : World) (hc : W.cell? ad = some v) : Runs Tryz.prog ρ o W (v) W := by
 constructor
 unfold execOp
 simp only [ho, hx]
 go_simp
theorem y_ldSPut (x : Operand) {ad : Addr} {v : Value} (ho : o.op = .load 32 x) (hx : ρ x = .pointer (some ad)) (W : World) (hc : W.cell? ad = some v) : Runs Tryz.prog ρ o W (v) W := by
 constructor
 unfold execOp
 simp only [ho, hx]
 go_simp
theorem y_ixPut (x y : Operand) {b off n c k : Nat} (ho : o.op = .indexAddr 32 x y) (hx : ρ x = .slice (some ⟨b, off, none⟩) n c) (hy : ρ y = .int .i64 (k : Nat)) (hk : k < n) (W : World) : Runs Tryz.prog ρ o W (.pointer (some ⟨b, off + k * 2, none⟩)) W := by
 constructor
 have h1 : (k : Int) < (n : Int) := by omega
 unfold execOp
 simp only [ho, hx, hy]
 go_simp
theorem y_bdBranch (x0 x1 : Operand) {v0 v1 : Value} (ho : o.op = .build 95 #[(0, x0), (1, x1)]) (h0 : ρ x0 = v0) (h1 : ρ x1 = v1) (k0 : v0.oneCell' = true) (k1 : v1.oneCell' = true) (W : World) : Runs Tryz.prog ρ o W (.agg #[v0, v1]) W := by
 constructor
 have c0 := one_cells k0; have c1 := one_cells k1;
 simp only [Value.cells] at c0 c1
 unfold execOp
 simp only [ho, h0, h1]
 go_simp
theorem y_bdEnd (x0 x1 : Operand) {v0 v1 : Value} (ho : o.op = .build 71 #[(0, x0), (1, x1)]) (h0 : ρ x0 = v0) (h1 : ρ x1 = v1) (k0 : v0.oneCell' = true) (k1 : v1.oneCell' = true) (W : World) : Runs Tryz.prog ρ o W (.agg #[v0, v1]) W := by
 constructor
 have c0 := one_cells k0; have c1 := one_cells k1;
 simp only [Value.cells] at c0 c1
 unfold execOp
 simp only [ho, h0, h1]
 go_simp
theorem y_bdPut (x0 x1 : Operand) {v0 v1 : Value} (ho : o.op = .build 45 #[(0, x0), (1, x1)]) (h0 : ρ x0 = v0) (h1 : ρ x1 = v1) (k0 : v0.oneCell' = true) (k1 : v1.oneCell' = true) (W : World) : Runs Tryz.prog ρ o W (.agg #[v0, v1]) W := by
 constructor
 have c0 := one_cells k0; have c1 := one_cells k1;
 simp only [Value.cells] at c0 c1
 unfold execOp
 simp only [ho, h0, h1]
 go_simp
end
section
open Go.RowKit Go.Maps
variable {ρ : Operand -> Value} {o : Oper}
theorem w_call {f : FuncId} {F : Func} (hF : Tryz.prog.funcs[f]? = some F) (hn : (F.name == "runtime.NumGoroutine") = false) (hb : F.body.isNone = false) {a : Act} {w : World} {K : Act -> World -> Prop} {Q : Exit -> Act -> World -> Prop} (xs : List Operand) (ts : Array TypeId)
  (ho : o.op = .call { callee := .value (.func f), args := xs.toArray, argTypes := ts }) (us : List Value) (hxs : xs.map a.eval = us) {R : Ending -> World -> Prop} (hc : Calls Tryz.prog f us.toArray w R) (hR : ∀ e w', R e w' -> ∃ v, e = .returned v /\ K (a.put o.dst v) w') :
  Oper.wp Tryz.prog o a w K Q := by
 unfold Oper.wp execOp
 have he : a.eval (.func f) = .func (.func f) #[] #[] := rfl
 have hp : program.run Tryz.prog w = .ok Tryz.prog w := rfl
 simp only [ho, resolve, invoke, Sem.run_bind, Sem.run_pure, Result.andThen_ok, List.map_toArray, hxs, he, Deferred.ofValue, callFunc, Array.append_empty, hp, hF, hn, hb, Bool.false_eq_true, if_false, Oper.upon_enter, Array.empty_append]
 with_reducible refine hc.mono ?_
 intro e w' hr
 obtain ⟨v, rfl, hk⟩ := hR e w' hr
 exact hk
theorem y_bsMessage (x : Operand) {v0 v1 v2 v3 v4 v5 : Value} (ho : o.op = .buildSlice 24 1 #[(0, x)]) (hx : ρ x = .agg #[v0, v1, v2, v3, v4, v5]) (k0 : v0.oneCell' = true) (k1 : v1.oneCell' = true) (k2 : v2.oneCell' = true) (k3 : v3.oneCell' = true) (k4 : v4.oneCell' = true) (k5 : v5.oneCell' = true) (W : World) : Runs Tryz.prog ρ o W (.slice (some ⟨W.heap.size, 0, none⟩) 1 1) (W.alloc (.cells #[v0, v1, v2, v3, v4, v5] 50)) := by
 constructor
 have c0 := one_cells k0; have c1 := one_cells k1; have c2 := one_cells k2; have c3 := one_cells k3; have c4 := one_cells k4; have c5 := one_cells k5;
 simp only [Value.cells] at c0 c1 c2 c3 c4 c5
 unfold execOp
 simp only [ho, hx]
 go_simp
theorem y_bsBranch (x : Operand) {v0 v1 : Value} (ho : o.op = .buildSlice 25 1 #[(0, x)]) (hx : ρ x = .agg #[v0, v1]) (k0 : v0.oneCell' = true) (k1 : v1.oneCell' = true) (W : World) : Runs Tryz.prog ρ o W (.slice (some ⟨W.heap.size, 0, none⟩) 1 1) (W.alloc (.cells #[v0, v1] 95)) := by
 constructor
 have c0 := one_cells k0; have c1 := one_cells k1;
 simp only [Value.cells] at c0 c1
 unfold execOp
 simp only [ho, hx]
 go_simp
theorem y_bsEnd (x : Operand) {v0 v1 : Value} (ho : o.op = .buildSlice 26 1 #[(0, x)]) (hx : ρ x = .agg #[v0, v1]) (k0 : v0.oneCell' = true) (k1 : v1.oneCell' = true) (W : World) : Runs Tryz.prog ρ o W (.slice (some ⟨W.heap.size, 0, none⟩) 1 1) (W.alloc (.cells #[v0, v1] 71)) := by
 constructor
 have c0 := one_cells k0; have c1 := one_cells k1;
 simp only [Value.cells] at c0 c1
 unfold execOp
 simp only [ho, hx]
 go_simp
theorem y_bsPut (x : Operand) {v0 v1 : Value} (ho : o.op = .buildSlice 32 1 #[(0, x)]) (hx : ρ x = .agg #[v0, v1]) (k0 : v0.oneCell' = true) (k1 : v1.oneCell' = true) (W : World) : Runs Tryz.prog ρ o W (.slice (some ⟨W.heap.size, 0, none⟩) 1 1) (W.alloc (.cells #[v0, v1] 45)) := by
 constructor
 have c0 := one_cells k0; have c1 := one_cells k1;
 simp only [Value.cells] at c0 c1
 unfold execOp
 simp only [ho, hx]
 go_simp
theorem w_stint (x y : Operand) {a : Act} {w : World} {K : Act -> World -> Prop} {Q : Exit -> Act -> World -> Prop} {ad : Addr} {v u : Value} (ho : o.op = .store 3 x y) (hd : o.dst = none) (hx : a.eval x = .pointer (some ad)) (hy : a.eval y = v) (hv : v.oneCell' = true) (hc : w.cell? ad = some u) (hf : w.frozen? ad = false)
  (h : ∀ z, K (a.put o.dst z) (w.setCell ad v)) : Oper.wp Tryz.prog o a w K Q := by
 have hr := fun m => run_store Tryz.prog w ad v m hv
 have c := one_cells hv
 simp only [Value.cells] at c
 have h' : K a (w.setCell ad v) := by have := h undef; rw [hd] at this; exact this
 unfold Oper.wp execOp
 simp only [ho, hx, hy]
 go_simp
 exact h'
theorem w_stint64 (x y : Operand) {a : Act} {w : World} {K : Act -> World -> Prop} {Q : Exit -> Act -> World -> Prop} {ad : Addr} {v u : Value} (ho : o.op = .store 2 x y) (hd : o.dst = none) (hx : a.eval x = .pointer (some ad)) (hy : a.eval y = v) (hv : v.oneCell' = true) (hc : w.cell? ad = some u) (hf : w.frozen? ad = false)
  (h : ∀ z, K (a.put o.dst z) (w.setCell ad v)) : Oper.wp Tryz.prog o a w K Q := by
 have hr := fun m => run_store Tryz.prog w ad v m hv
 have c := one_cells hv
 simp only [Value.cells] at c
 have h' : K a (w.setCell ad v) := by have := h undef; rw [hd] at this; exact this
 unfold Oper.wp execOp
 simp only [ho, hx, hy]
 go_simp
 exact h'
theorem w_stSMessage (x y : Operand) {a : Act} {w : World} {K : Act -> World -> Prop} {Q : Exit -> Act -> World -> Prop} {ad : Addr} {v u : Value} (ho : o.op = .store 24 x y) (hd : o.dst = none) (hx : a.eval x = .pointer (some ad)) (hy : a.eval y = v) (hv : v.oneCell' = true) (hc : w.cell? ad = some u) (hf : w.frozen? ad = false)
  (h : ∀ z, K (a.put o.dst z) (w.setCell ad v)) : Oper.wp Tryz.prog o a w K Q := by
 have hr := fun m => run_store Tryz.prog w ad v m hv
 have c := one_cells hv
 simp only [Value.cells] at c
 have h' : K a (w.setCell ad v) := by have := h undef; rw [hd] at this; exact this
 unfold Oper.wp execOp
 simp only [ho, hx, hy]
 go_simp
 exact h'
theorem w_stSBranch (x y : Operand) {a : Act} {w : World} {K : Act -> World -> Prop} {Q : Exit -> Act -> World -> Prop} {ad : Addr} {v u : Value} (ho : o.op = .store 25 x y) (hd : o.dst = none) (hx : a.eval x = .pointer (some ad)) (hy : a.eval y = v) (hv : v.oneCell' = true) (hc : w.cell? ad = some u) (hf : w.frozen? ad = false)
  (h : ∀ z, K (a.put o.dst z) (w.setCell ad v)) : Oper.wp Tryz.prog o a w K Q := by
 have hr := fun m => run_store Tryz.prog w ad v m hv
 have c := one_cells hv
 simp only [Value.cells] at c
 have h' : K a (w.setCell ad v) := by have := h undef; rw [hd] at this; exact this
 unfold Oper.wp execOp
 simp only [ho, hx, hy]
 go_simp
 exact h'
theorem w_stSEnd (x y : Operand) {a : Act} {w : World} {K : Act -> World -> Prop} {Q : Exit -> Act -> World -> Prop} {ad : Addr} {v u : Value} (ho : o.op = .store 26 x y) (hd : o.dst = none) (hx : a.eval x = .pointer (some ad)) (hy : a.eval y = v) (hv : v.oneCell' = true) (hc : w.cell? ad = some u) (hf : w.frozen? ad = false)
  (h : ∀ z, K (a.put o.dst z) (w.setCell ad v)) : Oper.wp Tryz.prog o a w K Q := by
 have hr := fun m => run_store Tryz.prog w ad v m hv
 have c := one_cells hv
 simp only [Value.cells] at c
 have h' : K a (w.setCell ad v) := by have := h undef; rw [hd] at this; exact this
 unfold Oper.wp execOp
 simp only [ho, hx, hy]
 go_simp
 exact h'
theorem w_stSPend (x y : Operand) {a : Act} {w : World} {K : Act -> World -> Prop} {Q : Exit -> Act -> World -> Prop} {ad : Addr} {v u : Value} (ho : o.op = .store 27 x y) (hd : o.dst = none) (hx : a.eval x = .pointer (some ad)) (hy : a.eval y = v) (hv : v.oneCell' = true) (hc : w.cell? ad = some u) (hf : w.frozen? ad = false)
  (h : ∀ z, K (a.put o.dst z) (w.setCell ad v)) : Oper.wp Tryz.prog o a w K Q := by
 have hr := fun m => run_store Tryz.prog w ad v m hv
 have c := one_cells hv
 simp only [Value.cells] at c
 have h' : K a (w.setCell ad v) := by have := h undef; rw [hd] at this; exact this
 unfold Oper.wp execOp
 simp only [ho, hx, hy]
 go_simp
 exact h'
end
section
open Go.RowKit Go.Maps
section
variable {ops : Array Oper} {Q : Exit -> Act -> World -> Prop} {a0 : Act} {ds : List Nat} {C : World -> Prop} {R : Nat -> Value -> World -> Prop} {wd : List Nat} {need kill later : Nat -> List Nat}
theorem map1 {a : Act} {x : Operand} {u : Value} (h : a.eval x = u) : [x].map a.eval = [u] := by simp [h]
theorem map2 {a : Act} {x y : Operand} {u v : Value} (h : a.eval x = u) (k : a.eval y = v) : [x, y].map a.eval = [u, v] := by simp [h, k]
theorem map3 {a : Act} {x y z : Operand} {u v t : Value} (h : a.eval x = u) (k : a.eval y = v) (l : a.eval z = t) : [x, y, z].map a.eval = [u, v, t] := by simp [h, k, l]
theorem wp_callv {f : FuncId} {F : Func} (hF : Tryz.prog.funcs[f]? = some F) (hn : (F.name == "runtime.NumGoroutine") = false) (hb : F.body.isNone = false) {o : Oper} {a : Act} {w : World} {K : Act -> World -> Prop} (xs : List Operand) (ts : Array TypeId)
  (ho : o.op = .call { callee := .value (.func f), args := xs.toArray, argTypes := ts }) (us : List Value) (hxs : xs.map a.eval = us) (v : Value) (hc : Calls Tryz.prog f us.toArray w fun e w' => e = .returned v /\ Tch No w w') (hK : ∀ w', Tch No w w' -> K (a.put o.dst v) w') :
  Oper.wp Tryz.prog o a w K Q := by
 refine w_call hF hn hb xs ts ho us hxs hc ?_
 rintro e w' ⟨rfl, t⟩
 exact ⟨v, rfl, hK w' t⟩
theorem istep_c {i d : Nat} (v : Value) (o : Oper) (ho : ops[i]? = some o) (hd : o.dst = some d) (hw : ∀ a w, Fr a0 ds a -> C w -> (∀ k ∈ need i, R k (slotV ops a k) w) -> Region.wanted o (yielded ops a.tmps) = true)
  {f : FuncId} {F : Func} (hF : Tryz.prog.funcs[f]? = some F) (hn' : (F.name == "runtime.NumGoroutine") = false) (hb : F.body.isNone = false) (xs : List Operand) (ts : Array TypeId) (ho' : o.op = .call { callee := .value (.func f), args := xs.toArray, argTypes := ts }) (us : List Value)
  (hxs : ∀ a w, Fr a0 ds a -> C w -> (∀ k ∈ need i, R k (slotV ops a k) w) -> xs.map a.eval = us) (hc : ∀ w, C w -> Calls Tryz.prog f us.toArray w fun e w' => e = .returned v /\ Tch No w w') (hC' : ∀ w w', C w -> Tch No w w' -> C w') (hst : ∀ j, Stb (R j)) (hR : ∀ w, C w -> R i v w) :
  IStep Tryz.prog ops Q a0 ds C R wd need kill later i :=
 istep_w o ho hw (fun a w hf hC hn K hK => wp_callv hF hn' hb xs ts ho' us (hxs a w hf hC hn) v (hc w hC) (fun w' t => hK v w' (hC' w w' hC t) (by rw [hd]; exact hR w' (hC' w w' hC t)) (fun j _ _ _ _ x h => hst j x w w' t h)))
end
variable {ρ : Operand -> Value} {o : Oper}
end
section
open Go.RowKit Go.Maps
def atI {α : Type} (f : α -> Int) (l : List α) (t : Int) : Int := match atP f l t with | some i => (i : Int) | none => -1
theorem atP_hit {α : Type} {f : α -> Int} {l : List α} {t : Int} {k : Nat} (hk : k < l.length) (e : f l[k] = t) (h : ∀ i (hi : i < l.length), i < k -> f l[i] ≠ t) : atP f l t = some k := by
 unfold atP
 rw [List.findIdx?_eq_some_iff_getElem]
 exact ⟨hk, by simpa using e, fun j hj => by simpa using h j (by omega) hj⟩
theorem atP_miss {α : Type} {f : α -> Int} {l : List α} {t : Int} (h : ∀ i (hi : i < l.length), f l[i] ≠ t) : atP f l t = none := by
 unfold atP
 rw [List.findIdx?_eq_none_iff]
 intro x hx
 obtain ⟨i, hi, rfl⟩ := List.getElem_of_mem hx
 simpa using h i hi
theorem atI_hit {α : Type} {f : α -> Int} {l : List α} {t : Int} {k : Nat} (hk : k < l.length) (e : f l[k] = t) (h : ∀ i (hi : i < l.length), i < k -> f l[i] ≠ t) : atI f l t = (k : Int) := by
 unfold atI; rw [atP_hit hk e h]
theorem atI_miss {α : Type} {f : α -> Int} {l : List α} {t : Int} (h : ∀ i (hi : i < l.length), f l[i] ≠ t) : atI f l t = -1 := by
 unfold atI; rw [atP_miss h]
theorem atI_cases {α : Type} (f : α -> Int) (l : List α) (t : Int) : (hasP f l t = false /\ atI f l t = -1) ∨ ∃ k, ∃ h : k < l.length, atI f l t = (k : Int) /\ f l[k] = t /\ hasP f l t = true /\ ∀ i (hi : i < l.length), i < k -> f l[i] ≠ t := by
 unfold atI
 cases e : atP f l t with
 | none =>
  left
  unfold atP at e
  rw [List.findIdx?_eq_none_iff] at e
  refine ⟨?_, rfl⟩
  cases e2 : hasP f l t with
  | false => rfl
  | true =>
   obtain ⟨x, hx, e3⟩ := hasP_iff.1 e2
   have := e x hx
   simp [e3] at this
 | some k =>
  right
  unfold atP at e
  rw [List.findIdx?_eq_some_iff_getElem] at e
  obtain ⟨h, h1, h2⟩ := e
  exact ⟨k, h, rfl, by simpa using h1, hasP_iff.2 ⟨_, List.getElem_mem h, by simpa using h1⟩, fun i hi hk => by simpa using h2 i hk⟩
theorem atI_lt {α : Type} (f : α -> Int) (l : List α) (t : Int) : decide (atI f l t < 0) = !hasP f l t := by
 rcases atI_cases f l t with ⟨h1, h2⟩ | ⟨k, _, h1, _, h2, _⟩
 ·rw [h1, h2]; rfl
 ·rw [h1, h2]; simp
theorem atI_pos {α : Type} {f : α -> Int} {l : List α} (hs : strictB (l.map f) = true) {t : Int} (h : hasP f l t = true) : atI f l t = (posP f l t : Nat) := by
 obtain ⟨hp, e⟩ := (hasP_pos hs t).1 h
 refine atI_hit hp e fun i hi hlt he => ?_
 have := strictB_get hs hlt (by simpa using hp)
 simp only [List.getElem_map] at this
 omega
theorem atms_any (s : StM) (t : Int) (v : Value) (w : World) (h : IsSt w v s) :
  Calls Tryz.prog 30 #[v, .int .i64 t] w fun e w' => e = .returned (.int .i64 (atI (·.id) s.ms t)) /\ Tch No w w' := by
 obtain ⟨am, cm, aw, cw, ae, ce, ao, co, an, cn, rfl, hms, hws, hes, hos, hns⟩ := h.shape
 have H := Lib.hid hms
 clear h
 obtain ⟨nm, hnm⟩ : ∃ n, s.ms.length = n := ⟨_, rfl⟩
 obtain ⟨nw, hnw⟩ : ∃ n, s.waits.length = n := ⟨_, rfl⟩
 obtain ⟨ne, hne⟩ : ∃ n, s.ends.length = n := ⟨_, rfl⟩
 obtain ⟨no, hno⟩ : ∃ n, s.opens.length = n := ⟨_, rfl⟩
 obtain ⟨nn, hnn⟩ : ∃ n, s.noes.length = n := ⟨_, rfl⟩
 rw [hnm, hnw, hne, hno, hnn]
 rw [hnm] at H
 have HM := Lib.hid hnm
 have hml : nm <= 9223372036854775807 := by
  obtain ⟨_, c, _, h1, h2⟩ := CellsAt.shape H.out
  unfold maxLen at h2; omega
 obtain ⟨l, hl⟩ : ∃ l, s.ms = l := ⟨_, rfl⟩
 rw [hl] at H HM ⊢
 clear hms hws hes hos hns hnm hnw hne hno hnn hl
 unfold stV
 go_enter Tryz.func30, Tryz.ntmps30
 go_wp2_with fail
 go_loopg [5] nm (fun kx s5 wr => ∃ k : Nat, s5 = .int .i64 k /\ k <= nm /\ nm - k <= kx /\ Hid (Tch No w wr) /\ Hid (BoxAt wr w.heap.size [.int .i64 s.broker, .int .i64 s.nid, .int .i64 s.nseq, .int .i64 s.tx, .slice am nm cm, .slice aw nw cw, .slice ae ne ce, .slice ao no co, .slice an nn cn]) /\ Hid (∀ i (hi : i < l.length), i < k -> (fun x : MsgM => x.id) l[i] ≠ t))
 case atStart => exact ⟨0, rfl, Nat.zero_le _, by omega, Tch.alloc _ _, BoxAt.made _ _ _, fun i _ h => absurd h (Nat.not_lt_zero _)⟩
 case round =>
  obtain ⟨k, rfl, hk, hg, TT, HB, I⟩ := hrel
  by_cases hlt : k < nm
  ·have hkl : k < l.length := by have := HM.out; omega
   have hb : ∃ b o, am = some ⟨b, o, none⟩ /\ wr.cell? ⟨b, o + k * 6, none⟩ = some (.int .i64 l[k].id) := by
    rcases msgs_cells H.out with ⟨_, h0⟩ | ⟨b, o, cap2, h1, _, _, _, h5⟩
    ·rw [h0] at hkl; simp at hkl
    ·rw [HM.out] at h1
     injection h1 with h1 _ _
     exact ⟨b, o, h1, TT.out.cell (h5 k hkl).1 (fun h => h)⟩
   obtain ⟨b, o, rfl, hc1⟩ := hb
   have c4 := HB.out 4 _ rfl
   obtain ⟨x, hx⟩ : ∃ x, (fun x : MsgM => x.id) l[k] = x := ⟨_, rfl⟩
   have hc2 : wr.cell? ⟨b, o + k * 6, none⟩ = some (.int .i64 x) := by rw [<- hx]; exact hc1
   have HX := Lib.hid hx
   clear hx hc1
   by_cases hxt : x = t
   ·have HC : Hid (atI (fun x : MsgM => x.id) l t = (k : Int)) := atI_hit hkl (HX.out.trans hxt) I.out
    have hd : (x == t) = true := by simpa using hxt
    clear hxt
    go_wp2_with fail
    go_ret
    exact ⟨ret_i HC.out.symm, TT.out⟩
   ·have hd : (x == t) = false := by simpa using hxt
    have HN : Hid (∀ i (hi : i < l.length), i < k + 1 -> (fun x : MsgM => x.id) l[i] ≠ t) := fun i h1 h2 => by
     by_cases e : i = k
     ·subst e; rw [HX.out]; exact hxt
     ·exact I.out i h1 (by omega)
    clear hxt
    go_wp2_with fail
    go_roundg (nm - (k + 1))
    case measure => omega
    case rel => exact ⟨k + 1, by go_num, by omega, by omega, TT.out, HB.out, HN⟩
  ·obtain rfl : nm = k := by omega
   have HC : Hid (atI (fun x : MsgM => x.id) l t = -1) := atI_miss (fun i hi => I.out i hi (by have := HM.out; omega))
   have c4 := HB.out 4 _ rfl
   clear hg hlt hk
   go_wp2_with fail
   go_ret
   exact ⟨ret_i HC.out.symm, TT.out⟩
end
section
open Go.RowKit Go.Maps
def OwnN (w0 : World) (e : TypeId) (size n : Nat) (cs : List Value) : Value -> World -> Prop := fun v W => W.ownsRow 0 e size v n cs /\ ∀ b, v.ownBlock = some b -> w0.heap.size <= b
theorem stb_own {w0 : World} {e : TypeId} {size n : Nat} {cs : List Value} : Stb (OwnN w0 e size n cs) := fun x w w' t h => ⟨own_tch h.1 t (fun _ _ h => h), h.2⟩
def SrcC (n size : Nat) (cs : List Value) : Value -> World -> Prop := fun v W => CellsAt W v n size cs
theorem stb_src {n size : Nat} {cs : List Value} : Stb (SrcC n size cs) := fun x w w' t h => CellsAt.keep h t
end
end Go.Proofs.YtafndmnbnmlklaaGreat
