/- Closed calls with arguments; comparisons of a number from outside of which bounds are known. No condition. -/
import Derived.Test.YtcmlgmiomcegeaaGreatEwF
import Derived.Test.YtcmlgmiomcegeaaGreatEwS
namespace Go.Proofs.YtcmlgmiomcegeaaGreat.Ev
open Go Go.RowKit Go.Maps
set_option linter.unusedVariables false
set_option linter.unusedSimpArgs false
set_option linter.unusedSectionVars false
variable [Env]
theorem closedA {P : Program} {hk : FuncId → Hook} {xo : BinOp → C → C → Option C} {orc : Orc} {N k : Nat} (hh : HooksOK P hk) (hx : XoOK P xo) (ho : OrcOK P orc) (hP : POk P) {f : FuncId} {c : Bool} (args : List S) (vals : List Value) (hv : RSL (fun _ => ⟨0, 0⟩) (fun _ => False) args vals) (h : evFK hk xo orc P N k f args HT.lf 0 (fun s _ _ _ _ => isB s c) = true) (w : World) :
    Calls P f vals.toArray w fun e w' => e = .returned (.bool c) ∧ Tch No w w' := by
  rw [evFK_eq] at h
  cases he : evF hk xo orc P N k f args HT.lf 0 with
  | none => rw [he] at h; cases h
  | some r =>
    obtain ⟨s, H, n, F, W⟩ := r
    rw [he] at h
    have := isB_eq (show isB s c = true from h)
    subst this
    obtain ⟨_, q⟩ := evF_ok hh hx ho hP k f args HT.lf 0 _ _ _ _ _ he
    have hlf : ∀ i, hg (HT.lf : HT) i = none := fun i => HT.get_lf i
    refine (q (fun _ => ⟨0, 0⟩) (fun _ => False) w vals hv ⟨fun i o e => ?_, fun i j e => ?_⟩ (fun i _ => hlf i) (fun _ _ _ h => h)).mono ?_
    · obtain ⟨_, e⟩ := rst_some.1 e; rw [hlf] at e; cases e
    · obtain ⟨x, hx⟩ := Option.isSome_iff_exists.1 e
      obtain ⟨_, e⟩ := rst_some.1 hx; rw [hlf] at e; cases e
    · rintro e w' ⟨v, σ', rfl, h1, h2⟩
      refine ⟨by rw [show v = .bool c from h1], h2.tch.mono (fun k _ ⟨i, _, g, _⟩ => ?_)⟩
      obtain ⟨x, hx⟩ := Option.isSome_iff_exists.1 g
      obtain ⟨_, e⟩ := rst_some.1 hx; rw [hlf] at e; cases e
/-! ### A number from outside between bounds, and not one of some -/
noncomputable def someB (b : Bool) : Option C := some (.bool b)
noncomputable def ltR (lo hi : Option Int) (c : Int) : Option Bool := match hi with
  | some h => if h < c then some true else (match lo with | some l => if c ≤ l then some false else none | none => none)
  | none => match lo with | some l => if c ≤ l then some false else none | none => none
noncomputable def eqR (lo hi : Option Int) (ne : List Int) (c : Int) : Option Bool := if ltR lo hi c = some true then some false else if ltR lo hi (c + 1) = some false then some false else if ne.contains c then some false else none
/-- x op c, for x from outside. -/
noncomputable def cmpR (lo hi : Option Int) (ne : List Int) (op : BinOp) (c : Int) : Option Bool := match op with
  | .lss => ltR lo hi c
  | .leq => ltR lo hi (c + 1)
  | .gtr => (ltR lo hi (c + 1)).map not
  | .geq => (ltR lo hi c).map not
  | .eql => eqR lo hi ne c
  | .neq => (eqR lo hi ne c).map not
  | _ => none
noncomputable def flipR : BinOp → BinOp
  | .lss => .gtr | .leq => .geq | .gtr => .lss | .geq => .leq | op => op
noncomputable def xoR (j : Nat) (lo hi : Option Int) (ne : List Int) (op : BinOp) (a b : C) : Option C := match a, b with
  | .ext i, .int .i64 c => if i = j then (cmpR lo hi ne op c).map .bool else none
  | .int .i64 c, .ext i => if i = j then (cmpR lo hi ne (flipR op) c).map .bool else none
  | _, _ => none
theorem ltR_ok {lo hi : Option Int} {c x : Int} {b : Bool} (h : ltR lo hi c = some b) (hl : ∀ l, lo = some l → l ≤ x) (hh : ∀ l, hi = some l → x ≤ l) : decide (x < c) = b := by
  unfold ltR at h
  split at h
  · rename_i u
    have := hh u rfl
    split at h
    · cases h; simp; omega
    · split at h
      · rename_i l
        have := hl l rfl
        split at h
        · cases h; simp; omega
        · cases h
      · cases h
  · split at h
    · rename_i l
      have := hl l rfl
      split at h
      · cases h; simp; omega
      · cases h
    · cases h
theorem eqR_ok {lo hi : Option Int} {ne : List Int} {c x : Int} {b : Bool} (h : eqR lo hi ne c = some b) (hl : ∀ l, lo = some l → l ≤ x) (hh : ∀ l, hi = some l → x ≤ l) (hn : ∀ y ∈ ne, x ≠ y) : (x == c) = b := by
  unfold eqR at h
  split at h
  · rename_i h1
    cases h
    have := ltR_ok h1 hl hh
    simp at this ⊢; omega
  · split at h
    · rename_i h1
      cases h
      have := ltR_ok h1 hl hh
      simp at this ⊢; omega
    · split at h
      · rename_i h1
        cases h
        have := hn c (List.contains_iff_mem.1 h1)
        simp [this]
      · cases h
theorem cmpR_ok {lo hi : Option Int} {ne : List Int} {op : BinOp} {c x : Int} {b : Bool} (h : cmpR lo hi ne op c = some b) (hl : ∀ l, lo = some l → l ≤ x) (hh : ∀ l, hi = some l → x ≤ l) (hn : ∀ y ∈ ne, x ≠ y) : intC op .i64 x .i64 c = some (.bool b) := by
  unfold cmpR at h
  split at h
  · have := ltR_ok h hl hh; simp only [intC, if_true]; rw [this]
  · have := ltR_ok h hl hh; simp only [intC, if_true]; rw [← this]; congr 2; simp; omega
  · rw [Option.map_eq_some_iff] at h
    obtain ⟨b', h1, rfl⟩ := h
    have := ltR_ok h1 hl hh; simp only [intC, if_true]; rw [← this]; congr 2; rw [Bool.eq_iff_iff]; simp; omega
  · rw [Option.map_eq_some_iff] at h
    obtain ⟨b', h1, rfl⟩ := h
    have := ltR_ok h1 hl hh; simp only [intC, if_true]; rw [← this]; congr 2; rw [Bool.eq_iff_iff]; simp
  · have := eqR_ok h hl hh hn; simp only [intC, if_true]; rw [this]
  · rw [Option.map_eq_some_iff] at h
    obtain ⟨b', h1, rfl⟩ := h
    have := eqR_ok h1 hl hh hn; simp only [intC, if_true]; rw [← this]; rfl
  · cases h
theorem flipR_ok {op : BinOp} {c x : Int} {b : Bool} (hop : op = .lss ∨ op = .leq ∨ op = .gtr ∨ op = .geq ∨ op = .eql ∨ op = .neq) (h : intC (flipR op) .i64 x .i64 c = some (.bool b)) : intC op .i64 c .i64 x = some (.bool b) := by
  rcases hop with rfl | rfl | rfl | rfl | rfl | rfl <;> simp only [flipR, intC, if_true] at h ⊢
  · exact h
  · exact h
  · exact h
  · exact h
  · rw [← h, show (c == x) = (x == c) by rw [Bool.eq_iff_iff, beq_iff_eq, beq_iff_eq]; exact ⟨Eq.symm, Eq.symm⟩]
  · rw [← h, bne, bne, show (c == x) = (x == c) by rw [Bool.eq_iff_iff, beq_iff_eq, beq_iff_eq]; exact ⟨Eq.symm, Eq.symm⟩]
theorem cmpR_op {lo hi : Option Int} {ne : List Int} {op : BinOp} {c : Int} {b : Bool} (h : cmpR lo hi ne (flipR op) c = some b) : op = .lss ∨ op = .leq ∨ op = .gtr ∨ op = .geq ∨ op = .eql ∨ op = .neq := by
  cases op <;> simp [flipR, cmpR] at h ⊢
/-- What is said of a number from outside is so. -/
theorem xoR_ok {P : Program} {j : Nat} {lo hi : Option Int} {ne : List Int} {x : Int} (hj : Env.val j = .int .i64 x) (hl : ∀ l, lo = some l → l ≤ x) (hh : ∀ l, hi = some l → x ≤ l) (hn : ∀ y ∈ ne, x ≠ y) : XoOK P (xoR j lo hi ne) := by
  intro op a b c h σ D u v w t ha hb
  unfold xoR at h
  split at h
  · rename_i i q
    split at h
    · rename_i hij
      subst hij
      rw [Option.map_eq_some_iff] at h
      obtain ⟨r, h1, rfl⟩ := h
      have e1 : u = .int .i64 x := (show u = Env.val i from ha).trans hj
      have e2 : v = .int .i64 q := hb
      subst e1; subst e2
      obtain ⟨z, g1, g2⟩ := intC_ok (P := P) (σ := σ) (D := D) (w := w) t (cmpR_ok h1 hl hh hn)
      exact ⟨z, g1, rfl, by simp, g2⟩
    · cases h
  · rename_i q i
    split at h
    · rename_i hij
      subst hij
      rw [Option.map_eq_some_iff] at h
      obtain ⟨r, h1, rfl⟩ := h
      have e1 : v = .int .i64 x := (show v = Env.val i from hb).trans hj
      have e2 : u = .int .i64 q := ha
      subst e1; subst e2
      obtain ⟨z, g1, g2⟩ := intC_ok (P := P) (σ := σ) (D := D) (w := w) t (flipR_ok (cmpR_op h1) (cmpR_ok h1 hl hh hn))
      exact ⟨z, g1, rfl, by simp, g2⟩
    · cases h
  · cases h
end Go.Proofs.YtcmlgmiomcegeaaGreat.Ev
