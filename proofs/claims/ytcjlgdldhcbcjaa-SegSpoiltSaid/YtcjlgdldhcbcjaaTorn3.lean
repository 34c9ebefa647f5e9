/- What stands in memory while two chains of operations come up: rows told, rows copied, a literal. No condition. -/
import Derived.Test.YtcjlgdldhcbcjaaRegX
import Derived.Test.YtcjlgdldhcbcjaaTorn2
namespace Go.Proofs.Ytcjlgdldhcbcjaa
open Go.RowKit Go.Maps
set_option linter.unusedVariables false
set_option linter.unusedSimpArgs false

theorem put_self {a : Act} {d : Nat} (h : d < a.tmps.size) : a.put (some d) (a.eval (.tmp d)) = a := by
  cases a with
  | mk t df =>
    simp only [Act.put, Act.eval, Act.mk.injEq, and_true]
    apply Array.ext
    · simp
    · intro i h1 h2
      rw [Array.getElem_setIfInBounds]
      split
      · rename_i e; subst e; simp [Array.getD, h2]
      · rfl
theorem put_put {a : Act} {d : Nat} {u v : Value} : (a.put (some d) u).put (some d) v = a.put (some d) v := by simp [Act.put]
theorem put_swap {a : Act} {d e : Nat} {u v : Value} (h : d ≠ e) : (a.put (some d) u).put (some e) v = (a.put (some e) v).put (some d) u := by
  simp only [Act.put, Act.mk.injEq, and_true]
  exact Array.setIfInBounds_comm _ _ h
theorem any_gen {P : Program} {ops : Array Oper} {Q : Exit → Act → World → Prop} {md : Region.Mode} {fuel : Nat} {listed : Array Bool} {a : Act} {w : World} (n : Nat) (hn : a.tmps.size = n) (h : ∀ fr : Act, Hid (fr = a) → fr.tmps.size = n → wpAny P md ops Q fuel listed fr w) : wpAny P md ops Q fuel listed a w := h a rfl hn
/-- The five places, and the rest. -/
def chain5 (fr : Act) (x y z s t : Nat) (v4 v8 v9 v10 v11 : Value) : Act := ((((fr.put (some x) v4).put (some y) v8).put (some z) v9).put (some s) v10).put (some t) v11
structure StZ (w0 W : World) (Ball : List (List UInt8)) (R0 : List BE) (i j : Nat) (v4 v8 v9 v10 v11 : Value) (RA : List BE) (g c : Nat) : Prop where
  tch : Tch No w0 W
  old : ∀ x ∈ R0, ∀ k, x.v.ownBlock = some k → k < w0.heap.size
  a1 : 1 ≤ i → IsRows W v4 RA ∧ RA.map (·.b) = Ball
  p1 : 2 ≤ i → IsRows W v8 R0
  p2 : 2 ≤ i → ∀ k, v8.ownBlock = some k → w0.heap.size ≤ k ∧ ¬ RowsF v4 RA k
  b1 : 1 ≤ j → v9 = .slice (some ⟨g, 0, none⟩) 1 1 ∧ w0.heap.size ≤ g ∧ ∃ fr, W.heap[g]? = some (.cells #[.int .u8 122] 5 fr)
  b2 : 1 ≤ j → (1 ≤ i → ¬ RowsF v4 RA g) ∧ (2 ≤ i → v8.ownBlock ≠ some g)
  b3 : 2 ≤ j → v10 = v9
  c1 : 3 ≤ j → v11 = .slice (some ⟨c, 0, none⟩) 1 1 ∧ W.heap[c]? = some (.cells #[.slice (some ⟨g, 0, none⟩) 1 1] 22 (0, 0))
variable {w0 W : World} {Ball : List (List UInt8)} {R0 : List BE} {i j : Nat} {v4 v8 v9 v10 v11 : Value} {RA : List BE} {g c : Nat}
theorem StZ.start (hold : ∀ x ∈ R0, ∀ k, x.v.ownBlock = some k → k < w0.heap.size) (t : Tch No w0 W) : StZ w0 W Ball R0 0 0 v4 v8 v9 v10 v11 [] 0 0 :=
  ⟨t, hold, fun h => by omega, fun h => by omega, fun h => by omega, fun h => by omega, fun h => by omega, fun h => by omega, fun h => by omega⟩
theorem StZ.all (h : StZ w0 W Ball R0 0 j v4 v8 v9 v10 v11 RA g c) {W' : World} {v : Value} {R : List BE} (r : IsRows W' v R) (e : R.map (·.b) = Ball) (f : ∀ k, RowsF v R k → W.heap.size ≤ k) (t : Tch No W W') : StZ w0 W' Ball R0 1 j v v8 v9 v10 v11 R g c :=
  ⟨h.tch.trans0 t, h.old, fun _ => ⟨r, e⟩, fun h => by omega, fun h => by omega, fun hj => by
    obtain ⟨q1, q2, fr, q3⟩ := h.b1 hj
    exact ⟨q1, q2, fr, blk_tch t q3 (fun h => h)⟩, fun hj => ⟨fun _ hk => by
      obtain ⟨q1, q2, fr, q3⟩ := h.b1 hj
      have := blk_lt q3; have := f g hk; omega, fun h => by omega⟩, h.b3, fun hj => ⟨(h.c1 hj).1, blk_tch t (h.c1 hj).2 (fun h => h)⟩⟩
theorem StZ.copy (h : StZ w0 W Ball R0 1 j v4 v8 v9 v10 v11 RA g c) {W' : World} {u v : Value} (r : IsRows W u R0) (hA : AppR W (.slice none 0 0) R0.length (R0.map (·.v)) v W') : StZ w0 W' Ball R0 2 j v4 v v9 v10 v11 RA g c := by
  obtain ⟨q1, t, q3⟩ := r.copy hA
  refine ⟨h.tch.trans0 t, h.old, fun _ => ⟨(h.a1 (by omega)).1.tch0 t, (h.a1 (by omega)).2⟩, fun _ => q1, fun _ k hk => ?_, fun hj => ?_, fun hj => ⟨fun _ => (h.b2 hj).1 (by omega), fun _ e => ?_⟩, h.b3, fun hj => ⟨(h.c1 hj).1, blk_tch t (h.c1 hj).2 (fun h => h)⟩⟩
  · have e := q3 k hk
    subst e
    exact ⟨h.tch.size, fun hk => by have := RowsF.lt (h.a1 (by omega)).1 _ hk; omega⟩
  · obtain ⟨q1, q2, fr, q3⟩ := h.b1 hj
    exact ⟨q1, q2, fr, blk_tch t q3 (fun h => h)⟩
  · obtain ⟨_, _, fr, q4⟩ := h.b1 hj
    have := blk_lt q4; have := q3 g e; omega
theorem StZ.lit (h : StZ w0 W Ball R0 i 0 v4 v8 v9 v10 v11 RA g c) (hi : i ≤ 2) : StZ w0 (W.alloc (.cells #[.int .u8 122] 5)) Ball R0 i 1 v4 v8 (.slice (some ⟨W.heap.size, 0, none⟩) 1 1) v10 v11 RA W.heap.size c := by
  have t := Tch.alloc W (.cells #[.int .u8 122] 5)
  refine ⟨h.tch.trans0 t, h.old, fun hi => ⟨(h.a1 hi).1.tch0 t, (h.a1 hi).2⟩, fun hi => (h.p1 hi).tch0 t, h.p2, fun _ => ⟨rfl, h.tch.size, (0, 0), heap_alloc_new W _⟩, fun _ => ⟨fun hi hk => ?_, fun hi e => ?_⟩, fun h => by omega, fun h => by omega⟩
  · have := RowsF.lt (h.a1 hi).1 _ hk; omega
  · have := ((h.p1 hi).row.lt _ e).2; omega
theorem StZ.mark (h : StZ w0 W Ball R0 i 1 v4 v8 v9 v10 v11 RA g c) : StZ w0 (markW W g) Ball R0 i 2 v4 v8 v9 v9 v11 RA g c := by
  have t := mark_tch W g
  obtain ⟨q1, q2, fr, q3⟩ := h.b1 (by omega)
  obtain ⟨n1, n2⟩ := h.b2 (by omega)
  refine ⟨h.tch.fresh t (fun k hk => by omega), h.old, fun hi => ⟨(h.a1 hi).1.tch t (fun k hk e => by subst e; exact n1 hi hk), (h.a1 hi).2⟩, fun hi => (h.p1 hi).tch t (fun k hk e => ?_), h.p2, fun _ => ⟨q1, q2, mark_at q3⟩, fun _ => ⟨n1, n2⟩, fun _ => rfl, fun h => by omega⟩
  subst e
  rcases hk with hk | ⟨x, hx, hk⟩
  · exact n2 hi hk
  · have := h.old x hx k hk; omega
theorem StZ.row (h : StZ w0 W Ball R0 i 2 v4 v8 v9 v10 v11 RA g c) : StZ w0 (W.alloc (.cells #[.slice (some ⟨g, 0, none⟩) 1 1] 22)) Ball R0 i 3 v4 v8 v9 v10 (.slice (some ⟨W.heap.size, 0, none⟩) 1 1) RA g W.heap.size := by
  have t := Tch.alloc W (.cells #[.slice (some ⟨g, 0, none⟩) 1 1] 22)
  obtain ⟨q1, q2, fr, q3⟩ := h.b1 (by omega)
  exact ⟨h.tch.trans0 t, h.old, fun hi => ⟨(h.a1 hi).1.tch0 t, (h.a1 hi).2⟩, fun hi => (h.p1 hi).tch0 t, h.p2, fun _ => ⟨q1, q2, fr, blk_tch t q3 (fun h => h)⟩, fun _ => h.b2 (by omega), fun _ => h.b3 (by omega), fun _ => ⟨rfl, heap_alloc_new W _⟩⟩
/-- What the literal's row has. -/
theorem StZ.src (h : StZ w0 W Ball R0 i 3 v4 v8 v9 v10 v11 RA g c) : SrcR W v11 1 [.slice (some ⟨g, 0, none⟩) 1 1] := by
  obtain ⟨q1, q2⟩ := h.c1 (by omega)
  refine ⟨rfl, fun x hx => by simp at hx; subst hx; rfl, .inr ⟨⟨c, 0, none⟩, 1, q1, fun j x hx => ?_⟩⟩
  match j with
  | 0 =>
    simp at hx
    subst hx
    have : (⟨c, 0, none⟩ : Addr).add 0 = ⟨c, 0, none⟩ := by simp [Addr.add]
    rw [this]
    simpa using blk_cell q2 0
  | k + 1 => simp at hx
theorem StZ.bts (h : StZ w0 W Ball R0 i 3 v4 v8 v9 v10 v11 RA g c) : SlB W (.slice (some ⟨g, 0, none⟩) 1 1) [122] := by
  obtain ⟨_, _, fr, q3⟩ := h.b1 (by omega)
  refine ⟨by decide, .inr ⟨g, 0, 1, rfl, by decide, by decide, blk_lt q3, fun k hk => ?_⟩⟩
  have : k = 0 := by simpa using hk
  subst this
  simpa using blk_cell q3 0
/-- Both appended: the rows, at the end. -/
theorem StZ.fin (h : StZ w0 W Ball R0 2 3 v4 v8 v9 v10 v11 RA g c) {W' : World} {v : Value} (hA : AppR W v8 (R0.length + 1) (R0.map (·.v) ++ [.slice (some ⟨g, 0, none⟩) 1 1]) v W') : Tch No w0 W' ∧ IsRows W' v4 RA ∧ RA.map (·.b) = Ball ∧ IsRows W' v (R0 ++ [⟨[122], .slice (some ⟨g, 0, none⟩) 1 1⟩]) := by
  obtain ⟨q1, q2, q3⟩ := (h.p1 (by omega)).app (x := ⟨[122], .slice (some ⟨g, 0, none⟩) 1 1⟩) hA h.bts (fun k hk e => by simp [Value.ownBlock] at hk; subst hk; exact (h.b2 (by omega)).2 (by omega) e)
  refine ⟨h.tch.fresh q2 (fun k hk => (h.p2 (by omega) k hk).1), (h.a1 (by omega)).1.tch q2 (fun k hk e => (h.p2 (by omega) k e).2 hk), (h.a1 (by omega)).2, q1⟩
end Go.Proofs.Ytcjlgdldhcbcjaa
