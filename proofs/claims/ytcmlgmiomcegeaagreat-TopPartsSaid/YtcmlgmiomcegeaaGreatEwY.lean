/- Closed calls with a row from outside; what is told of numbers from outside, by a list. No condition. -/
import Derived.Test.YtcmlgmiomcegeaaGreatEwX
namespace Go.Proofs.YtcmlgmiomcegeaaGreat.Ev
open Go Go.RowKit Go.Maps
set_option linter.unusedVariables false
set_option linter.unusedSimpArgs false
set_option linter.unusedSectionVars false
variable [Env]
/-- A heap that has a row from outside alone. -/
noncomputable def rowH (f m : Nat) : Option HT := HT.put HT.lf 0 (some ⟨0, [], false, .row f m⟩)
noncomputable def rowK (f m : Nat) (k : HT → Bool) : Bool := HT.putK HT.lf 0 (some ⟨0, [], false, .row f m⟩) k
noncomputable def isB0 (s : S) (c : Bool) (W : Nat) : Bool := Bool.rec (motive := fun _ => Bool) (isB s c) false (Nat.testBit W 0)
theorem closed1 {P : Program} {hk : FuncId → Hook} {xo : BinOp → C → C → Option C} {orc : Orc} {N k : Nat} (hh : HooksOK P hk) (hx : XoOK P xo) (ho : OrcOK P orc) (hP : POk P) {f : FuncId} {c : Bool} {fr m b : Nat} (args : List S) (vals : List Value) (hv : RSL (fun _ => ⟨b, 0⟩) (fun i => i = 0) args vals) (w : World) (hr : ObjRow (fun _ => ⟨b, 0⟩) 0 fr m w)
    (h : rowK fr m (fun H => evFK hk xo orc P N k f args H 1 (fun s _ _ _ W => isB0 s c W)) = true) :
    Calls P f vals.toArray w fun e w' => e = .returned (.bool c) ∧ Tch No w w' := by
  unfold rowK at h
  rw [HT.putK_eq] at h
  cases hH : HT.put HT.lf 0 (some ⟨0, [], false, .row fr m⟩) with
  | none => rw [hH] at h; cases h
  | some H0 =>
    rw [hH] at h
    have h : evFK hk xo orc P N k f args H0 1 (fun s _ _ _ W => isB0 s c W) = true := h
    rw [evFK_eq] at h
    cases he : evF hk xo orc P N k f args H0 1 with
    | none => rw [he] at h; cases h
    | some r =>
      obtain ⟨s, H, n, F, W⟩ := r
      rw [he] at h
      have h' : isB0 s c W = true := h
      have hW : tb W 0 = false := by
        unfold isB0 at h'
        unfold tb
        cases e : Nat.testBit W 0 with
        | false => rfl
        | true => rw [e] at h'; cases h'
      have h2 : isB s c = true := by
        unfold isB0 at h'
        rw [show Nat.testBit W 0 = false from hW] at h'
        exact h'
      have := isB_eq h2
      subst this
      obtain ⟨_, q⟩ := evF_ok hh hx ho hP k f args H0 1 _ _ _ _ _ he
      have hg0 : ∀ i, hg H0 i = if i = 0 then some ⟨0, [], false, .row fr m⟩ else none := fun i => by
        show HT.get H0 i = _
        rw [HT.get_put hH, HT.get_lf]
      have hob : ∀ i o, hg H0 i = some o → i = 0 ∧ o = ⟨0, [], false, .row fr m⟩ := fun i o e => by
        rw [hg0] at e
        split at e
        · rename_i hi; cases e; exact ⟨hi, rfl⟩
        · cases e
      refine (q (fun _ => ⟨b, 0⟩) (fun i => i = 0) w vals hv ⟨fun i o e => ?_, fun i j hi hj e => ?_⟩ (fun i hi => ?_) (fun i h1 _ h2 => ?_)).mono ?_
      · obtain ⟨_, e⟩ := rst_some.1 e
        obtain ⟨rfl, rfl⟩ := hob i o e
        exact ⟨rfl, rfl, hr⟩
      · obtain ⟨x, hx⟩ := Option.isSome_iff_exists.1 hi
        obtain ⟨y, hy⟩ := Option.isSome_iff_exists.1 hj
        rw [(hob i x (rst_some.1 hx).2).1, (hob j y (rst_some.1 hy).2).1]
      · rw [hg0, if_neg (by omega)]
      · omega
      · rintro e w' ⟨v, σ', rfl, h1, h2⟩
        refine ⟨by rw [show v = .bool c from h1], h2.tch.mono (fun k _ ⟨i, g1, g2, _⟩ => ?_)⟩
        obtain ⟨x, hx⟩ := Option.isSome_iff_exists.1 g2
        obtain ⟨rfl, _⟩ := hob i x (rst_some.1 hx).2
        rw [hW] at g1; cases g1
/-! ### What is told of numbers from outside -/
noncomputable def opN (o : BinOp) : Nat := BinOp.rec (motive := fun _ => Nat) 0 1 2 3 4 5 6 7 8 9 10 11 12 13 14 15 16 o
theorem opN_inj {a b : BinOp} (h : opN a = opN b) : a = b := by cases a <;> cases b <;> first | rfl | (cases h)
/-- The numbers from i to j, with that operation and that number: what it gives. -/
structure XE where
  op : BinOp
  i : Nat
  j : Nat
  c : Int
  r : C
  /-- The number from outside stands behind. -/
  sw : Bool := false
noncomputable def xoL (sw : Bool) : List XE → BinOp → Nat → Int → Option C
  | [], _, _, _ => none
  | e :: l, op, i, c => if (Nat.beq (opN e.op) (opN op) && Nat.ble e.i i && Nat.ble i e.j && eqF e.c c && (e.sw == sw)) = true then some e.r else xoL sw l op i c
noncomputable def xoE (l : List XE) (op : BinOp) (a b : C) : Option C := match a, b with
  | .ext i, .int .i64 c => xoL false l op i c
  | .int .i64 c, .ext i => xoL true l op i c
  | _, _ => none
/-- That is so. -/
def XE.Ok (e : XE) : Prop := ∀ i, e.i ≤ i → i ≤ e.j → ∃ x y, Env.val i = .int .i64 x ∧ (if e.sw then intC e.op .i64 e.c .i64 x else intC e.op .i64 x .i64 e.c) = some y ∧ ∀ (σ : Nat → Blk) (D : Nat → Prop) v, RC σ D y v → RC σ D e.r v
theorem xoL_mem {sw : Bool} : ∀ {l : List XE} {op : BinOp} {i : Nat} {c : Int} {r : C}, xoL sw l op i c = some r → ∃ e ∈ l, e.op = op ∧ e.i ≤ i ∧ i ≤ e.j ∧ e.c = c ∧ e.r = r ∧ e.sw = sw
  | e :: l, op, i, c, r, h => by
    simp only [xoL] at h
    split at h
    · rename_i hc
      rw [eqF_eq] at hc
      simp only [Bool.and_eq_true, beq_iff_eq] at hc
      obtain ⟨⟨⟨⟨h1, h2⟩, h3⟩, h4⟩, h5⟩ := hc
      cases h
      exact ⟨e, by simp, opN_inj (Nat.eq_of_beq_eq_true h1), Nat.le_of_ble_eq_true h2, Nat.le_of_ble_eq_true h3, h4, rfl, h5⟩
    · obtain ⟨e', h1, h2⟩ := xoL_mem h
      exact ⟨e', List.mem_cons_of_mem _ h1, h2⟩
theorem xoE_ok {P : Program} {l : List XE} (h : ∀ e ∈ l, e.Ok) : XoOK P (xoE l) := by
  intro op a b c hx σ D u v w t ha hb
  unfold xoE at hx
  split at hx
  · rename_i i q
    obtain ⟨e, he, rfl, h1, h2, rfl, rfl, hsw⟩ := xoL_mem hx
    obtain ⟨x, y, g1, g2, g3⟩ := h e he i h1 h2
    rw [hsw] at g2
    simp only [Bool.false_eq_true, if_false] at g2
    have e1 : u = .int .i64 x := (show u = Env.val i from ha).trans g1
    have e2 : v = .int .i64 e.c := hb
    subst e1; subst e2
    obtain ⟨z, k1, k2⟩ := intC_ok (P := P) (σ := σ) (D := D) (w := w) t g2
    exact ⟨z, g3 σ D z k1, rfl, by simp, k2⟩
  · rename_i q i
    obtain ⟨e, he, rfl, h1, h2, rfl, rfl, hsw⟩ := xoL_mem hx
    obtain ⟨x, y, g1, g2, g3⟩ := h e he i h1 h2
    rw [hsw] at g2
    simp only [if_true] at g2
    have e1 : v = .int .i64 x := (show v = Env.val i from hb).trans g1
    have e2 : u = .int .i64 e.c := ha
    subst e1; subst e2
    obtain ⟨z, k1, k2⟩ := intC_ok (P := P) (σ := σ) (D := D) (w := w) t g2
    exact ⟨z, g3 σ D z k1, rfl, by simp, k2⟩
  · cases hx
end Go.Proofs.YtcmlgmiomcegeaaGreat.Ev
