/- A log of one segment, the row of its texts, and the row of where its frames end. No condition. -/
import Derived.Test.YtcjlgdldhcbcjaaTorn1
namespace Go.Proofs.Ytcjlgdldhcbcjaa
open Go.RowKit Go.Maps
set_option linter.unusedVariables false
set_option linter.unusedSimpArgs false

/-- Where the frames end. -/
def endsM (A : List (List UInt8)) : List Nat := (List.range A.length).map (fun i => (framed (A.take (i + 1))).length)
theorem endsM_length (A : List (List UInt8)) : (endsM A).length = A.length := by simp [endsM]
theorem endsM_snoc (A : List (List UInt8)) (b : List UInt8) : endsM (A ++ [b]) = endsM A ++ [(framed (A ++ [b])).length] := by
  unfold endsM
  rw [List.length_append, List.length_singleton, List.range_succ, List.map_append]
  congr 1
  · refine List.map_congr_left fun i hi => ?_
    rw [List.take_append_of_le_length (by have := List.mem_range.1 hi; omega)]
  · simp [List.take_of_length_le]
theorem endsM_get (A : List (List UInt8)) (i : Nat) (h : i < A.length) : (endsM A)[i]? = some ((framed (A.take (i + 1))).length) := by
  simp [endsM, h]
theorem framed_le (A : List (List UInt8)) (h : ∀ b ∈ A, b.length ≤ 30) : (framed A).length ≤ 36 * A.length := by
  induction A with
  | nil => simp [framed]
  | cons a r ih =>
    rw [framed_cons, List.length_append, frameM_length, List.length_cons]
    have := h a List.mem_cons_self
    have := ih (fun b hb => h b (List.mem_cons_of_mem _ hb))
    omega
structure TornS (w1 w : World) (lb db mb : Nat) (A : List (List UInt8)) (v : Value) (R : List BE) (ve : Value) (E : List Nat) (j : Nat) : Prop where
  log : LSt w lb db mb 1048576 (oneM A) 0 A (fun k => (K0 w1 k ∨ RowsF v R k) ∨ ve.ownBlock = some k)
  rows : IsRows w v R
  is : R.map (·.b) = A
  ends : w.ownsRow 0 3 1 ve E.length (ints E)
  fresh : ∀ k, RowsF v R k ∨ ve.ownBlock = some k → w1.heap.size ≤ k
  ne : ∀ k, ve.ownBlock = some k → ¬ RowsF v R k
  tch : Tch No w1 w
  fit : ∀ b ∈ A, fits b ∧ b.length ≤ 30
  cnt : A.length ≤ j
theorem TornS.keep {w1 w w' : World} {lb db mb : Nat} {A : List (List UInt8)} {v : Value} {R : List BE} {ve : Value} {E : List Nat} {j i : Nat} (h : TornS w1 w lb db mb A v R ve E j) (t : Tch No w w') (hi : j ≤ i) : TornS w1 w' lb db mb A v R ve E i :=
  ⟨h.log.keep t, h.rows.tch0 t, h.is, own_tch h.ends t (fun _ _ h => h), h.fresh, h.ne, h.tch.trans0 t, h.fit, by have := h.cnt; omega⟩
/-- A text more. -/
theorem TornS.add {w1 w : World} {lb db mb : Nat} {A : List (List UInt8)} {v : Value} {R : List BE} {ve : Value} {E : List Nat} {j : Nat} (h : TornS w1 w lb db mb A v R ve E j) {w5 w6 wA w7 : World} {x : BE} (hb : fits x.b) (h30 : x.b.length ≤ 30) (t5 : Tch No w w5) (hx5 : SlB w5 x.v x.b) (hf : ∀ k, x.v.ownBlock = some k → w.heap.size ≤ k)
    (l6 : LSt w6 lb db mb 1048576 (oneM (A ++ [x.b])) 0 (A ++ [x.b]) (fun k => ((K0 w1 k ∨ RowsF v R k) ∨ ve.ownBlock = some k) ∨ x.v.ownBlock = some k)) (k6 : KT (fun k => ((K0 w1 k ∨ RowsF v R k) ∨ ve.ownBlock = some k) ∨ x.v.ownBlock = some k) w5 w6)
    (tA : Tch No w6 wA) {v1 : Value} (hA : AppR wA v (R.length + 1) (R.map (·.v) ++ [x.v]) v1 w7) : TornS w1 w7 lb db mb (A ++ [x.b]) v1 (R ++ [x]) ve E (j + 1) := by
  have hs5 := t5.size
  have r6 : IsRows w6 v R := (h.rows.tch0 t5).tch k6 (fun k hk hn => hn (.inl (.inl (.inr hk))))
  have x6 : SlB w6 x.v x.b := k6.slb hx5 (fun k hk => .inr hk)
  have e6 : w6.ownsRow 0 3 1 ve E.length (ints E) := k6.own (own_tch h.ends t5 (fun _ _ h => h)) (fun k hk => .inl (.inr hk))
  obtain ⟨q1, q2, q3⟩ := (r6.tch0 tA).app hA (x6.tch0 tA) (fun k hk e => by have := hf k hk; have := (h.rows.row.lt k e).2; omega)
  have hw := h.tch.size
  have hs6 := k6.size
  have hsA := tA.size
  have hve : ∀ k, ve.ownBlock = some k → k < w.heap.size := fun k hk => (h.ends.lt k hk).2
  refine ⟨?_, q1, by rw [List.map_append, h.is]; rfl, own_tch (own_tch e6 tA (fun _ _ h => h)) q2 (fun k hk e => h.ne k hk (.inl e)), fun k hk => ?_, fun k hk e => ?_, ?_, fun b hb' => ?_, by rw [List.length_append]; have := h.cnt; simp; omega⟩
  · refine (l6.keep tA).gen q2 (fun k hk => .inl (.inl (.inr (.inl hk)))) (fun k hk => ?_)
    rcases hk with (hk | hk) | hk
    · exact .inl (.inl (.inl (.inl hk)))
    · rcases q3 k hk with q | q | q
      · exact .inl (.inl (.inl (.inr q)))
      · exact .inl (.inr q)
      · exact .inr ⟨q, RowsF.lt q1 k hk⟩
    · exact .inl (.inl (.inr hk))
  · rcases hk with hk | hk
    · rcases q3 k hk with q | q | q
      · exact h.fresh k (.inl q)
      · have := hf k q; omega
      · omega
    · exact h.fresh k (.inr hk)
  · rcases q3 k e with q | q | q
    · exact h.ne k hk q
    · have := hf k q; have := hve k hk; omega
    · have := hve k hk; omega
  · have t56 : Tch No w1 w6 := (h.tch.trans0 t5).fresh (F := fun k => ¬ (((K0 w1 k ∨ RowsF v R k) ∨ ve.ownBlock = some k) ∨ x.v.ownBlock = some k)) k6 (fun k hk => by
      rcases Nat.lt_or_ge k w1.heap.size with q | q
      · exact absurd (.inl (.inl (.inl q))) hk
      · exact q)
    exact (t56.trans0 tA).fresh q2 (fun k hk => h.fresh k (.inl (.inl hk)))
  · rcases List.mem_append.1 hb' with q | q
    · exact h.fit b q
    · simp at q; subst q; exact ⟨hb, h30⟩
/-- An end more. -/
theorem TornS.end_ {w1 w : World} {lb db mb : Nat} {A : List (List UInt8)} {v : Value} {R : List BE} {ve : Value} {E : List Nat} {j : Nat} (h : TornS w1 w lb db mb A v R ve E j) {wA w7 : World} (tA : Tch No w wA) {y : Nat} {v1 : Value} (hA : AppI wA ve (E ++ [y]) v1 w7) : TornS w1 w7 lb db mb A v R v1 (E ++ [y]) j := by
  have hsA := tA.size
  have hw := h.tch.size
  have q2 : Tch (fun k => ve.ownBlock = some k) wA w7 := Tch.grown hA.grow (fun k hk _ => hk)
  have hl : ∀ k, v1.ownBlock = some k → ve.ownBlock = some k ∨ k = wA.heap.size := fun k hk => by
    rcases hA.loc with e | e
    · exact .inl (by rw [← e]; exact hk)
    · rw [e] at hk; simp at hk; exact .inr hk.symm
  refine ⟨?_, (h.rows.tch0 tA).tch q2 (fun k hk e => h.ne k e hk), h.is, hA.own, fun k hk => ?_, fun k hk e => ?_, (h.tch.trans0 tA).fresh q2 (fun k hk => h.fresh k (.inr hk)), h.fit, h.cnt⟩
  · refine (h.log.keep tA).gen q2 (fun k hk => .inr hk) (fun k hk => ?_)
    rcases hk with hk | hk
    · exact .inl (.inl hk)
    · rcases hl k hk with q | q
      · exact .inl (.inr q)
      · exact .inr ⟨by omega, (hA.own.lt k hk).2⟩
  · rcases hk with hk | hk
    · exact h.fresh k (.inl hk)
    · rcases hl k hk with q | q
      · exact h.fresh k (.inr q)
      · omega
  · rcases hl k hk with q | q
    · exact h.ne k q e
    · have := RowsF.lt h.rows k e; omega
/-- A text that does not fit. -/
theorem TornS.skip {w1 w : World} {lb db mb : Nat} {A : List (List UInt8)} {v : Value} {R : List BE} {ve : Value} {E : List Nat} {j : Nat} {P : Nat → Prop} (h : TornS w1 w lb db mb A v R ve E j) {w5 w6 : World} (t5 : Tch No w w5)
    (l6 : LSt w6 lb db mb 1048576 (oneM A) 0 A (fun k => ((K0 w1 k ∨ RowsF v R k) ∨ ve.ownBlock = some k) ∨ P k)) (k6 : KT (fun k => ((K0 w1 k ∨ RowsF v R k) ∨ ve.ownBlock = some k) ∨ P k) w5 w6) : TornS w1 w6 lb db mb A v R ve E (j + 1) :=
  ⟨l6.less (fun k hk => .inl hk), (h.rows.tch0 t5).tch k6 (fun k hk hn => hn (.inl (.inl (.inr hk)))), h.is, k6.own (own_tch h.ends t5 (fun _ _ h => h)) (fun k hk => .inl (.inr hk)), h.fresh, h.ne,
    (h.tch.trans0 t5).fresh (F := fun k => ¬ (((K0 w1 k ∨ RowsF v R k) ∨ ve.ownBlock = some k) ∨ P k)) k6 (fun k hk => by
      rcases Nat.lt_or_ge k w1.heap.size with q | q
      · exact absurd (.inl (.inl (.inl q))) hk
      · exact q), h.fit, by have := h.cnt; omega⟩
variable {K : Nat → Prop} {w : World} {db mb room lb last : Nat} {M : List FE}
/-- A literal is appended to a file. -/
theorem dk_appendLit (h : DK w db mb room M K) (s : ByteArray) (bs : List UInt8) (C : Array Value) (hC : C = (u8s bs).toArray) (hb : bs.length ≤ 900000000) (hs : s.data.toList.length ≤ lim) (hcnt : M.length ≤ 999999) :
    Calls Try.prog 29 #[.pointer (some ⟨db, 0, none⟩), .string s, .slice (some ⟨w.heap.size, 0, none⟩) bs.length bs.length] (w.alloc (.cells C 5 (C.size, C.size + 1))) fun e w' => e = .returned (.int .i64 ((mAppend M room s.data.toList bs).1 : Nat)) ∧ DK w' db mb room (mAppend M room s.data.toList bs).2 K ∧ KT K w w' := by
  have hs' := SlB.lit0 w bs C 5 hC (by unfold lim; omega)
  have h1 : DK (w.alloc (.cells C 5 (C.size, C.size + 1))) db mb room M (fun k => K k ∨ k = w.heap.size) := h.more (Tch.alloc _ _) (fun k hk => by
    rcases hk with hk | rfl
    · exact .inl hk
    · exact .inr ⟨Nat.le_refl _, by simp⟩)
  refine (dk_append h1 s _ bs hs' (fun k hk => by simp [Value.ownBlock] at hk; exact .inr hk.symm) hs hcnt hb).mono ?_
  rintro e w' ⟨rfl, q1, q2⟩
  exact ⟨rfl, q1.less (fun k hk => .inl hk), (KT.of0 (Tch.alloc _ _)).trans (q2.mono (fun k _ hk => .inl hk))⟩
end Go.Proofs.Ytcjlgdldhcbcjaa
