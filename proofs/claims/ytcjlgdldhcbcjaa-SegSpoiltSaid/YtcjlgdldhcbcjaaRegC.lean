/- A region that draws its order, step by step over a frame that is a variable; two chains of operations whose orders do not matter. No condition. -/
import Derived.Test.YtcjlgdldhcbcjaaMem
import Derived.OrdersHeld
import Derived.RegionTactic
namespace Go.Proofs.Ytcjlgdldhcbcjaa
open Go.RowKit Go.Maps
set_option linter.unusedVariables false
set_option linter.unusedSimpArgs false

variable {P : Program} {ops : Array Oper} {Q : Exit → Act → World → Prop} {md : Region.Mode}
theorem frame_gen {C : Code} {a : Act} {w : World} (n : Nat) (hn : a.tmps.size = n) (h : ∀ fr : Act, Hid (fr = a) → fr.tmps.size = n → Code.wp P C Q fr w) : Code.wp P C Q a w := h a rfl hn
theorem ev_eq {a : Act} {d : Nat} {v : Value} (h : d < a.tmps.size) : (a.put (some d) v).eval (.tmp d) = v := by
  simp [Act.put, Act.eval, h]
theorem ev_ne {a : Act} {d k : Nat} {v : Value} (h : d ≠ k) : (a.put (some d) v).eval (.tmp k) = a.eval (.tmp k) := by
  simp [Act.put, Act.eval, Array.getElem?_setIfInBounds, h]
theorem size_put {a : Act} {d : Nat} {v : Value} : (a.put (some d) v).tmps.size = a.tmps.size := by simp [Act.put]
theorem wanted_by {o oj : Oper} {j d : Nat} {want : Bool} {a : Act} (hg : o.guard = some (j, want)) (hj : ops[j]? = some oj) (hd : oj.dst = some d) (he : a.eval (.tmp d) = .bool want) : Region.wanted o (yielded ops a.tmps) = true := by
  have h1 : a.tmps[d]? = some (.bool want) := by
    simp only [Act.eval] at he
    rcases Nat.lt_or_ge d a.tmps.size with h | h
    · rw [Array.getElem?_eq_getElem h]
      simp [Array.getD, h] at he
      rw [he]
    · simp [Array.getD, Nat.not_lt.2 h, undef] at he
  simp [Region.wanted, hg, yielded, hj, hd, h1]
theorem wanted_no {o : Oper} {a : Act} (hg : o.guard = none) : Region.wanted o (yielded ops a.tmps) = true := by simp [Region.wanted, hg]
/-- An operation runs to a value. (A structure: nothing unfolds it.) -/
structure RunsTo (P : Program) (ρ : Operand → Value) (o : Oper) (W : World) (v : Value) (W' : World) : Prop where
  out : (execOp ρ o).run P W = .ok (.value v) W'
/-- An operation that yields a value, taken first. -/
theorem any_take (i d : Nat) (v : Value) {oi : Oper} {fuel : Nat} {listed : Array Bool} {a : Act} {w : World} (hi : ops[i]? = some oi) (hd : oi.dst = some d) (hs : Region.noSelect ops = true) (hf : Region.free md ops listed i = true) (hr : (Region.ready md ops listed).contains i = true)
    (hQ : ∀ (c : List PanicEntry) (a : Act) (w : World), Q (Exit.panic c) (a.put (some d) v) w → Q (Exit.panic c) a w) (hw : Region.wanted oi (yielded ops a.tmps) = true) (hv : ∀ W, RunsTo P a.eval oi W v W)
    (h : wpAny P md ops Q fuel (listed.setIfInBounds i true) (a.put (some d) v) w) : wpAny P md ops Q (fuel + 1) listed a w :=
  wpAny_take hi hs hf hr (by rw [hd]; exact hQ) (Or.inl ⟨hw, fun W => (hv W).out⟩) (by rw [hd]; exact h)
/-- The one operation that may come up. -/
theorem any_one (i d : Nat) {o : Oper} {fuel : Nat} {listed : Array Bool} {a : Act} {w : World} (hr : Region.ready md ops listed = [i]) (ho : ops[i]? = some o) (hd : o.dst = some d) (hw : Region.wanted o (yielded ops a.tmps) = true)
    (h : ∀ K : Act → World → Prop, (∀ v w', wpAny P md ops Q fuel (listed.setIfInBounds i true) (a.put (some d) v) w' → K (a.put o.dst v) w') → Oper.wp P o a w K Q) : wpAny P md ops Q (fuel + 1) listed a w :=
  wpAny_ready (rs := [i]) hr (by simp) (AllReady.cons ho (fun K hK => by rw [if_pos hw]; exact h K (fun v w' hh => hK _ _ (by rw [hd]; exact hh))) AllReady.nil)
/-- An operation that runs to a value. -/
theorem wp_run {o : Oper} {a : Act} {w : World} {K : Act → World → Prop} (v : Value) (w' : World) (hr : RunsTo P a.eval o w v w') (h : K (a.put o.dst v) w') : Oper.wp P o a w K Q := by
  unfold Oper.wp
  rw [hr.out]
  exact h
/-! ### What operations yield -/
variable {ρ : Operand → Value} {o : Oper}
theorem x_move (x : Operand) {v : Value} (ho : o.op = .move x) (hx : ρ x = v) (W : World) : RunsTo P ρ o W v W := by
  constructor
  unfold execOp; rw [ho]; subst hx; rfl
theorem x_assign (x : Operand) {v : Value} (ho : o.op = .assign x) (hx : ρ x = v) (W : World) : RunsTo P ρ o W v W := by
  constructor
  unfold execOp; rw [ho]; subst hx; rfl
/-- Two chains: whatever order their operations come up in. -/
theorem two_chains {S : Nat → Nat → Act → World → Prop} (m n fuel : Nat) (c1 c2 : Nat → Nat) (L : Nat → Nat → Array Bool)
    (hr : ((List.range (m + 1)).all fun i => (List.range (n + 1)).all fun j => (decide (i = m) && decide (j = n)) || (Region.ready md ops (L i j) == (if i < m then [c1 i] else []) ++ (if j < n then [c2 j] else []))) = true)
    (hl : ((List.range (m + 1)).all fun i => (List.range (n + 1)).all fun j => (decide (i = m) || (L i j).setIfInBounds (c1 i) true == L (i + 1) j) && (decide (j = n) || (L i j).setIfInBounds (c2 j) true == L i (j + 1))) = true)
    (h1 : ∀ i j a w, i < m → j ≤ n → S i j a w → wpOp P ops Q (c1 i) (S (i + 1) j) a w)
    (h2 : ∀ i j a w, i ≤ m → j < n → S i j a w → wpOp P ops Q (c2 j) (S i (j + 1)) a w)
    (hend : ∀ a w, S m n a w → wpAny P md ops Q fuel (L m n) a w) :
    ∀ d i j, i ≤ m → j ≤ n → (m - i) + (n - j) = d → ∀ a w, S i j a w → wpAny P md ops Q (fuel + d) (L i j) a w := by
  have hr' : ∀ i j, i ≤ m → j ≤ n → (i < m ∨ j < n) → Region.ready md ops (L i j) = (if i < m then [c1 i] else []) ++ (if j < n then [c2 j] else []) := by
    intro i j hi hj hd
    have q1 := List.all_eq_true.1 hr i (List.mem_range.2 (by omega))
    have q2 := List.all_eq_true.1 q1 j (List.mem_range.2 (by omega))
    simp only [Bool.or_eq_true, Bool.and_eq_true, decide_eq_true_eq, beq_iff_eq] at q2
    rcases q2 with q2 | q2
    · omega
    · exact q2
  have hl' : ∀ i j, i ≤ m → j ≤ n → (i < m → (L i j).setIfInBounds (c1 i) true = L (i + 1) j) ∧ (j < n → (L i j).setIfInBounds (c2 j) true = L i (j + 1)) := by
    intro i j hi hj
    have q1 := List.all_eq_true.1 hl i (List.mem_range.2 (by omega))
    have q2 := List.all_eq_true.1 q1 j (List.mem_range.2 (by omega))
    simp only [Bool.or_eq_true, Bool.and_eq_true, decide_eq_true_eq, beq_iff_eq] at q2
    refine ⟨fun h => q2.1.resolve_left (by omega), fun h => q2.2.resolve_left (by omega)⟩
  intro d
  induction d with
  | zero =>
    intro i j hi hj hd a w hS
    obtain rfl : i = m := by omega
    obtain rfl : j = n := by omega
    exact hend a w hS
  | succ d ih =>
    intro i j hi hj hd a w hS
    have hready := hr' i j hi hj (by omega)
    refine ⟨fun h0 => ?_, fun k hk => ?_⟩
    · rw [hready] at h0
      exfalso
      by_cases q : i < m
      · simp [q] at h0
      · simp [q, show j < n by omega] at h0
    · rw [hready] at hk
      rcases List.mem_append.1 hk with hk | hk
      · by_cases q : i < m
        · rw [if_pos q] at hk
          obtain rfl : k = c1 i := by simpa using hk
          refine wpOp_mono (fun a' w' hS' => ?_) (h1 i j a w q hj hS)
          rw [(hl' i j hi hj).1 q]
          exact ih (i + 1) j (by omega) hj (by omega) a' w' hS'
        · simp [q] at hk
      · by_cases q : j < n
        · rw [if_pos q] at hk
          obtain rfl : k = c2 j := by simpa using hk
          refine wpOp_mono (fun a' w' hS' => ?_) (h2 i j a w hi q hS)
          rw [(hl' i j hi hj).2 q]
          exact ih i (j + 1) hi (by omega) (by omega) a' w' hS'
        · simp [q] at hk
theorem op_by {i : Nat} {o : Oper} {K : Act → World → Prop} {a : Act} {w : World} (ho : ops[i]? = some o) (d : Nat) (hd : o.dst = some d) (hw : Region.wanted o (yielded ops a.tmps) = true) (h : ∀ K' : Act → World → Prop, (∀ v w', K (a.put (some d) v) w' → K' (a.put o.dst v) w') → Oper.wp P o a w K' Q) : wpOp P ops Q i K a w :=
  wpOp_step ho (fun K' hK => by rw [if_pos hw]; exact h K' (fun v w' hh => hK _ _ (by rw [hd]; exact hh)))
end Go.Proofs.Ytcjlgdldhcbcjaa
