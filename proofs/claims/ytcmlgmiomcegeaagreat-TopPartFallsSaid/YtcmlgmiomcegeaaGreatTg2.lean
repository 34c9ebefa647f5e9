/- The texts EwT, Ew7, Ew8, Ew9, Ew10, Ew11, Ew12, Ew13, Ew14, EwP, one behind the other. No condition. -/
import Derived.Test.YtcmlgmiomcegeaaGreatTg1
namespace Go.Proofs.YtcmlgmiomcegeaaGreat.Ev
set_option linter.unusedVariables false
set_option linter.unusedSimpArgs false

inductive Dg | d0 | d1 | d2 | d3 | d4 | d5 | d6 | d7 | d8 | d9 | d10 | d11 | d12 | d13 | d14 | d15 | d16 | d17 | dx
noncomputable def bsel (b : Bool) (x y : Dg) : Dg := Bool.rec (motive := fun _ => Dg) x y b
theorem bsel_ne {b : Bool} {x y : Dg} (hx : x ≠ .dx) (hy : y ≠ .dx) : bsel b x y ≠ .dx := by cases b <;> assumption
noncomputable def dgt (k : Nat) : Dg := (bsel (Nat.ble 9 k) (bsel (Nat.ble 4 k) (bsel (Nat.ble 2 k) (bsel (Nat.ble 1 k) Dg.d0 Dg.d1) (bsel (Nat.ble 3 k) Dg.d2 Dg.d3)) (bsel (Nat.ble 6 k) (bsel (Nat.ble 5 k) Dg.d4 Dg.d5) (bsel (Nat.ble 7 k) Dg.d6 (bsel (Nat.ble 8 k) Dg.d7 Dg.d8)))) (bsel (Nat.ble 13 k) (bsel (Nat.ble 11 k) (bsel (Nat.ble 10 k) Dg.d9 Dg.d10) (bsel (Nat.ble 12 k) Dg.d11 Dg.d12)) (bsel (Nat.ble 15 k) (bsel (Nat.ble 14 k) Dg.d13 Dg.d14) (bsel (Nat.ble 16 k) Dg.d15 (bsel (Nat.ble 17 k) Dg.d16 Dg.d17)))))
/-- The highest digit: what lies beyond is nowhere. -/
noncomputable def dgo (k : Nat) : Dg := Bool.rec (motive := fun _ => Dg) (dgt k) Dg.dx (Nat.ble 18 k)
def Dg.n : Dg → Nat | .d0 => 0 | .d1 => 1 | .d2 => 2 | .d3 => 3 | .d4 => 4 | .d5 => 5 | .d6 => 6 | .d7 => 7 | .d8 => 8 | .d9 => 9 | .d10 => 10 | .d11 => 11 | .d12 => 12 | .d13 => 13 | .d14 => 14 | .d15 => 15 | .d16 => 16 | .d17 => 17 | .dx => 18
theorem dgt_ne (k : Nat) : dgt k ≠ .dx := by
  unfold dgt
  repeat' (first | apply bsel_ne | (intro h; cases h))
theorem dgt_inj {a b : Nat} (ha : a < 18) (hb : b < 18) (h : dgt a = dgt b) : a = b := by
  have key : ∀ a : Fin 18, (dgt a.val).n = a.val := by decide +kernel
  have h1 := key ⟨a, ha⟩
  have h2 := key ⟨b, hb⟩
  simp only at h1 h2
  rw [← h1, ← h2, h]
theorem dgo_dx {k : Nat} : dgo k = .dx ↔ 18 ≤ k := by
  unfold dgo
  by_cases h : 18 ≤ k
  · rw [Nat.ble_eq_true_of_le h]; exact ⟨fun _ => h, fun _ => rfl⟩
  · have e : Nat.ble 18 k = false := by
      cases e : Nat.ble 18 k with
      | false => rfl
      | true => exact absurd (Nat.le_of_ble_eq_true e) h
    rw [e]; exact ⟨fun h2 => absurd h2 (dgt_ne k), fun h2 => absurd h2 h⟩
theorem dgo_lt {k : Nat} (h : k < 18) : dgo k = dgt k := by
  unfold dgo
  have e : Nat.ble 18 k = false := by
    cases e : Nat.ble 18 k with
    | false => rfl
    | true => exact absurd (Nat.le_of_ble_eq_true e) (by omega)
  rw [e]
theorem bool_some {α : Type} {b : Bool} {x y : α} (h : Bool.rec (motive := fun _ => Option α) none (some x) b = some y) : b = true ∧ x = y := by
  cases b with
  | false => cases h
  | true => exact ⟨rfl, Option.some.inj h⟩

/-! ### Slots -/
inductive F1 | mk (c0 c1 c2 c3 c4 c5 c6 c7 c8 c9 c10 c11 c12 c13 c14 c15 c16 c17 : Option S)
def F1.all (x : Option S) : F1 := .mk x x x x x x x x x x x x x x x x x x
noncomputable def F1.sel (e : Option S) (d : Dg) (t : F1) : Option S := Dg.rec (motive := fun _ => F1 → Option S → Option S) (fun t _ => F1.rec (motive := fun _ => Option S) (fun c0 c1 c2 c3 c4 c5 c6 c7 c8 c9 c10 c11 c12 c13 c14 c15 c16 c17 => c0) t) (fun t _ => F1.rec (motive := fun _ => Option S) (fun c0 c1 c2 c3 c4 c5 c6 c7 c8 c9 c10 c11 c12 c13 c14 c15 c16 c17 => c1) t) (fun t _ => F1.rec (motive := fun _ => Option S) (fun c0 c1 c2 c3 c4 c5 c6 c7 c8 c9 c10 c11 c12 c13 c14 c15 c16 c17 => c2) t) (fun t _ => F1.rec (motive := fun _ => Option S) (fun c0 c1 c2 c3 c4 c5 c6 c7 c8 c9 c10 c11 c12 c13 c14 c15 c16 c17 => c3) t) (fun t _ => F1.rec (motive := fun _ => Option S) (fun c0 c1 c2 c3 c4 c5 c6 c7 c8 c9 c10 c11 c12 c13 c14 c15 c16 c17 => c4) t) (fun t _ => F1.rec (motive := fun _ => Option S) (fun c0 c1 c2 c3 c4 c5 c6 c7 c8 c9 c10 c11 c12 c13 c14 c15 c16 c17 => c5) t) (fun t _ => F1.rec (motive := fun _ => Option S) (fun c0 c1 c2 c3 c4 c5 c6 c7 c8 c9 c10 c11 c12 c13 c14 c15 c16 c17 => c6) t) (fun t _ => F1.rec (motive := fun _ => Option S) (fun c0 c1 c2 c3 c4 c5 c6 c7 c8 c9 c10 c11 c12 c13 c14 c15 c16 c17 => c7) t) (fun t _ => F1.rec (motive := fun _ => Option S) (fun c0 c1 c2 c3 c4 c5 c6 c7 c8 c9 c10 c11 c12 c13 c14 c15 c16 c17 => c8) t) (fun t _ => F1.rec (motive := fun _ => Option S) (fun c0 c1 c2 c3 c4 c5 c6 c7 c8 c9 c10 c11 c12 c13 c14 c15 c16 c17 => c9) t) (fun t _ => F1.rec (motive := fun _ => Option S) (fun c0 c1 c2 c3 c4 c5 c6 c7 c8 c9 c10 c11 c12 c13 c14 c15 c16 c17 => c10) t) (fun t _ => F1.rec (motive := fun _ => Option S) (fun c0 c1 c2 c3 c4 c5 c6 c7 c8 c9 c10 c11 c12 c13 c14 c15 c16 c17 => c11) t) (fun t _ => F1.rec (motive := fun _ => Option S) (fun c0 c1 c2 c3 c4 c5 c6 c7 c8 c9 c10 c11 c12 c13 c14 c15 c16 c17 => c12) t) (fun t _ => F1.rec (motive := fun _ => Option S) (fun c0 c1 c2 c3 c4 c5 c6 c7 c8 c9 c10 c11 c12 c13 c14 c15 c16 c17 => c13) t) (fun t _ => F1.rec (motive := fun _ => Option S) (fun c0 c1 c2 c3 c4 c5 c6 c7 c8 c9 c10 c11 c12 c13 c14 c15 c16 c17 => c14) t) (fun t _ => F1.rec (motive := fun _ => Option S) (fun c0 c1 c2 c3 c4 c5 c6 c7 c8 c9 c10 c11 c12 c13 c14 c15 c16 c17 => c15) t) (fun t _ => F1.rec (motive := fun _ => Option S) (fun c0 c1 c2 c3 c4 c5 c6 c7 c8 c9 c10 c11 c12 c13 c14 c15 c16 c17 => c16) t) (fun t _ => F1.rec (motive := fun _ => Option S) (fun c0 c1 c2 c3 c4 c5 c6 c7 c8 c9 c10 c11 c12 c13 c14 c15 c16 c17 => c17) t) (fun _ e => e) d t e
noncomputable def F1.up (d : Dg) (f : (Option S) → Option S) (t : F1) : F1 := Dg.rec (motive := fun _ => ((Option S) → Option S) → F1 → F1) (fun f t => F1.rec (motive := fun _ => F1) (fun c0 c1 c2 c3 c4 c5 c6 c7 c8 c9 c10 c11 c12 c13 c14 c15 c16 c17 => F1.mk (f c0) c1 c2 c3 c4 c5 c6 c7 c8 c9 c10 c11 c12 c13 c14 c15 c16 c17) t) (fun f t => F1.rec (motive := fun _ => F1) (fun c0 c1 c2 c3 c4 c5 c6 c7 c8 c9 c10 c11 c12 c13 c14 c15 c16 c17 => F1.mk c0 (f c1) c2 c3 c4 c5 c6 c7 c8 c9 c10 c11 c12 c13 c14 c15 c16 c17) t) (fun f t => F1.rec (motive := fun _ => F1) (fun c0 c1 c2 c3 c4 c5 c6 c7 c8 c9 c10 c11 c12 c13 c14 c15 c16 c17 => F1.mk c0 c1 (f c2) c3 c4 c5 c6 c7 c8 c9 c10 c11 c12 c13 c14 c15 c16 c17) t) (fun f t => F1.rec (motive := fun _ => F1) (fun c0 c1 c2 c3 c4 c5 c6 c7 c8 c9 c10 c11 c12 c13 c14 c15 c16 c17 => F1.mk c0 c1 c2 (f c3) c4 c5 c6 c7 c8 c9 c10 c11 c12 c13 c14 c15 c16 c17) t) (fun f t => F1.rec (motive := fun _ => F1) (fun c0 c1 c2 c3 c4 c5 c6 c7 c8 c9 c10 c11 c12 c13 c14 c15 c16 c17 => F1.mk c0 c1 c2 c3 (f c4) c5 c6 c7 c8 c9 c10 c11 c12 c13 c14 c15 c16 c17) t) (fun f t => F1.rec (motive := fun _ => F1) (fun c0 c1 c2 c3 c4 c5 c6 c7 c8 c9 c10 c11 c12 c13 c14 c15 c16 c17 => F1.mk c0 c1 c2 c3 c4 (f c5) c6 c7 c8 c9 c10 c11 c12 c13 c14 c15 c16 c17) t) (fun f t => F1.rec (motive := fun _ => F1) (fun c0 c1 c2 c3 c4 c5 c6 c7 c8 c9 c10 c11 c12 c13 c14 c15 c16 c17 => F1.mk c0 c1 c2 c3 c4 c5 (f c6) c7 c8 c9 c10 c11 c12 c13 c14 c15 c16 c17) t) (fun f t => F1.rec (motive := fun _ => F1) (fun c0 c1 c2 c3 c4 c5 c6 c7 c8 c9 c10 c11 c12 c13 c14 c15 c16 c17 => F1.mk c0 c1 c2 c3 c4 c5 c6 (f c7) c8 c9 c10 c11 c12 c13 c14 c15 c16 c17) t) (fun f t => F1.rec (motive := fun _ => F1) (fun c0 c1 c2 c3 c4 c5 c6 c7 c8 c9 c10 c11 c12 c13 c14 c15 c16 c17 => F1.mk c0 c1 c2 c3 c4 c5 c6 c7 (f c8) c9 c10 c11 c12 c13 c14 c15 c16 c17) t) (fun f t => F1.rec (motive := fun _ => F1) (fun c0 c1 c2 c3 c4 c5 c6 c7 c8 c9 c10 c11 c12 c13 c14 c15 c16 c17 => F1.mk c0 c1 c2 c3 c4 c5 c6 c7 c8 (f c9) c10 c11 c12 c13 c14 c15 c16 c17) t) (fun f t => F1.rec (motive := fun _ => F1) (fun c0 c1 c2 c3 c4 c5 c6 c7 c8 c9 c10 c11 c12 c13 c14 c15 c16 c17 => F1.mk c0 c1 c2 c3 c4 c5 c6 c7 c8 c9 (f c10) c11 c12 c13 c14 c15 c16 c17) t) (fun f t => F1.rec (motive := fun _ => F1) (fun c0 c1 c2 c3 c4 c5 c6 c7 c8 c9 c10 c11 c12 c13 c14 c15 c16 c17 => F1.mk c0 c1 c2 c3 c4 c5 c6 c7 c8 c9 c10 (f c11) c12 c13 c14 c15 c16 c17) t) (fun f t => F1.rec (motive := fun _ => F1) (fun c0 c1 c2 c3 c4 c5 c6 c7 c8 c9 c10 c11 c12 c13 c14 c15 c16 c17 => F1.mk c0 c1 c2 c3 c4 c5 c6 c7 c8 c9 c10 c11 (f c12) c13 c14 c15 c16 c17) t) (fun f t => F1.rec (motive := fun _ => F1) (fun c0 c1 c2 c3 c4 c5 c6 c7 c8 c9 c10 c11 c12 c13 c14 c15 c16 c17 => F1.mk c0 c1 c2 c3 c4 c5 c6 c7 c8 c9 c10 c11 c12 (f c13) c14 c15 c16 c17) t) (fun f t => F1.rec (motive := fun _ => F1) (fun c0 c1 c2 c3 c4 c5 c6 c7 c8 c9 c10 c11 c12 c13 c14 c15 c16 c17 => F1.mk c0 c1 c2 c3 c4 c5 c6 c7 c8 c9 c10 c11 c12 c13 (f c14) c15 c16 c17) t) (fun f t => F1.rec (motive := fun _ => F1) (fun c0 c1 c2 c3 c4 c5 c6 c7 c8 c9 c10 c11 c12 c13 c14 c15 c16 c17 => F1.mk c0 c1 c2 c3 c4 c5 c6 c7 c8 c9 c10 c11 c12 c13 c14 (f c15) c16 c17) t) (fun f t => F1.rec (motive := fun _ => F1) (fun c0 c1 c2 c3 c4 c5 c6 c7 c8 c9 c10 c11 c12 c13 c14 c15 c16 c17 => F1.mk c0 c1 c2 c3 c4 c5 c6 c7 c8 c9 c10 c11 c12 c13 c14 c15 (f c16) c17) t) (fun f t => F1.rec (motive := fun _ => F1) (fun c0 c1 c2 c3 c4 c5 c6 c7 c8 c9 c10 c11 c12 c13 c14 c15 c16 c17 => F1.mk c0 c1 c2 c3 c4 c5 c6 c7 c8 c9 c10 c11 c12 c13 c14 c15 c16 (f c17)) t) (fun _ t => t) d f t
noncomputable def F1.upK (d : Dg) (h : (Option S) → ((Option S) → Bool) → Bool) (k : F1 → Bool) (t : F1) : Bool := Dg.rec (motive := fun _ => ((Option S) → ((Option S) → Bool) → Bool) → (F1 → Bool) → F1 → Bool) (fun h k t => F1.rec (motive := fun _ => Bool) (fun c0 c1 c2 c3 c4 c5 c6 c7 c8 c9 c10 c11 c12 c13 c14 c15 c16 c17 => h c0 (fun x => k (F1.mk x c1 c2 c3 c4 c5 c6 c7 c8 c9 c10 c11 c12 c13 c14 c15 c16 c17))) t) (fun h k t => F1.rec (motive := fun _ => Bool) (fun c0 c1 c2 c3 c4 c5 c6 c7 c8 c9 c10 c11 c12 c13 c14 c15 c16 c17 => h c1 (fun x => k (F1.mk c0 x c2 c3 c4 c5 c6 c7 c8 c9 c10 c11 c12 c13 c14 c15 c16 c17))) t) (fun h k t => F1.rec (motive := fun _ => Bool) (fun c0 c1 c2 c3 c4 c5 c6 c7 c8 c9 c10 c11 c12 c13 c14 c15 c16 c17 => h c2 (fun x => k (F1.mk c0 c1 x c3 c4 c5 c6 c7 c8 c9 c10 c11 c12 c13 c14 c15 c16 c17))) t) (fun h k t => F1.rec (motive := fun _ => Bool) (fun c0 c1 c2 c3 c4 c5 c6 c7 c8 c9 c10 c11 c12 c13 c14 c15 c16 c17 => h c3 (fun x => k (F1.mk c0 c1 c2 x c4 c5 c6 c7 c8 c9 c10 c11 c12 c13 c14 c15 c16 c17))) t) (fun h k t => F1.rec (motive := fun _ => Bool) (fun c0 c1 c2 c3 c4 c5 c6 c7 c8 c9 c10 c11 c12 c13 c14 c15 c16 c17 => h c4 (fun x => k (F1.mk c0 c1 c2 c3 x c5 c6 c7 c8 c9 c10 c11 c12 c13 c14 c15 c16 c17))) t) (fun h k t => F1.rec (motive := fun _ => Bool) (fun c0 c1 c2 c3 c4 c5 c6 c7 c8 c9 c10 c11 c12 c13 c14 c15 c16 c17 => h c5 (fun x => k (F1.mk c0 c1 c2 c3 c4 x c6 c7 c8 c9 c10 c11 c12 c13 c14 c15 c16 c17))) t) (fun h k t => F1.rec (motive := fun _ => Bool) (fun c0 c1 c2 c3 c4 c5 c6 c7 c8 c9 c10 c11 c12 c13 c14 c15 c16 c17 => h c6 (fun x => k (F1.mk c0 c1 c2 c3 c4 c5 x c7 c8 c9 c10 c11 c12 c13 c14 c15 c16 c17))) t) (fun h k t => F1.rec (motive := fun _ => Bool) (fun c0 c1 c2 c3 c4 c5 c6 c7 c8 c9 c10 c11 c12 c13 c14 c15 c16 c17 => h c7 (fun x => k (F1.mk c0 c1 c2 c3 c4 c5 c6 x c8 c9 c10 c11 c12 c13 c14 c15 c16 c17))) t) (fun h k t => F1.rec (motive := fun _ => Bool) (fun c0 c1 c2 c3 c4 c5 c6 c7 c8 c9 c10 c11 c12 c13 c14 c15 c16 c17 => h c8 (fun x => k (F1.mk c0 c1 c2 c3 c4 c5 c6 c7 x c9 c10 c11 c12 c13 c14 c15 c16 c17))) t) (fun h k t => F1.rec (motive := fun _ => Bool) (fun c0 c1 c2 c3 c4 c5 c6 c7 c8 c9 c10 c11 c12 c13 c14 c15 c16 c17 => h c9 (fun x => k (F1.mk c0 c1 c2 c3 c4 c5 c6 c7 c8 x c10 c11 c12 c13 c14 c15 c16 c17))) t) (fun h k t => F1.rec (motive := fun _ => Bool) (fun c0 c1 c2 c3 c4 c5 c6 c7 c8 c9 c10 c11 c12 c13 c14 c15 c16 c17 => h c10 (fun x => k (F1.mk c0 c1 c2 c3 c4 c5 c6 c7 c8 c9 x c11 c12 c13 c14 c15 c16 c17))) t) (fun h k t => F1.rec (motive := fun _ => Bool) (fun c0 c1 c2 c3 c4 c5 c6 c7 c8 c9 c10 c11 c12 c13 c14 c15 c16 c17 => h c11 (fun x => k (F1.mk c0 c1 c2 c3 c4 c5 c6 c7 c8 c9 c10 x c12 c13 c14 c15 c16 c17))) t) (fun h k t => F1.rec (motive := fun _ => Bool) (fun c0 c1 c2 c3 c4 c5 c6 c7 c8 c9 c10 c11 c12 c13 c14 c15 c16 c17 => h c12 (fun x => k (F1.mk c0 c1 c2 c3 c4 c5 c6 c7 c8 c9 c10 c11 x c13 c14 c15 c16 c17))) t) (fun h k t => F1.rec (motive := fun _ => Bool) (fun c0 c1 c2 c3 c4 c5 c6 c7 c8 c9 c10 c11 c12 c13 c14 c15 c16 c17 => h c13 (fun x => k (F1.mk c0 c1 c2 c3 c4 c5 c6 c7 c8 c9 c10 c11 c12 x c14 c15 c16 c17))) t) (fun h k t => F1.rec (motive := fun _ => Bool) (fun c0 c1 c2 c3 c4 c5 c6 c7 c8 c9 c10 c11 c12 c13 c14 c15 c16 c17 => h c14 (fun x => k (F1.mk c0 c1 c2 c3 c4 c5 c6 c7 c8 c9 c10 c11 c12 c13 x c15 c16 c17))) t) (fun h k t => F1.rec (motive := fun _ => Bool) (fun c0 c1 c2 c3 c4 c5 c6 c7 c8 c9 c10 c11 c12 c13 c14 c15 c16 c17 => h c15 (fun x => k (F1.mk c0 c1 c2 c3 c4 c5 c6 c7 c8 c9 c10 c11 c12 c13 c14 x c16 c17))) t) (fun h k t => F1.rec (motive := fun _ => Bool) (fun c0 c1 c2 c3 c4 c5 c6 c7 c8 c9 c10 c11 c12 c13 c14 c15 c16 c17 => h c16 (fun x => k (F1.mk c0 c1 c2 c3 c4 c5 c6 c7 c8 c9 c10 c11 c12 c13 c14 c15 x c17))) t) (fun h k t => F1.rec (motive := fun _ => Bool) (fun c0 c1 c2 c3 c4 c5 c6 c7 c8 c9 c10 c11 c12 c13 c14 c15 c16 c17 => h c17 (fun x => k (F1.mk c0 c1 c2 c3 c4 c5 c6 c7 c8 c9 c10 c11 c12 c13 c14 c15 c16 x))) t) (fun _ _ _ => false) d h k t
theorem F1.get_same (e : Option S) (d : Dg) (f : (Option S) → Option S) (t : F1) (h : d ≠ .dx) : F1.sel e d (F1.up d f t) = f (F1.sel e d t) := by
  cases t
  cases d <;> first | rfl | exact absurd rfl h
theorem F1.get_ne (e : Option S) (d d' : Dg) (f : (Option S) → Option S) (t : F1) (h : d' ≠ d) : F1.sel e d' (F1.up d f t) = F1.sel e d' t := by
  cases t
  cases d <;> cases d' <;> first | rfl | exact absurd rfl h
theorem F1.get_all (e x : Option S) (d : Dg) (h : d ≠ .dx) : F1.sel e d (F1.all x) = x := by cases d <;> first | rfl | exact absurd rfl h
theorem F1.upK_eq (d : Dg) (f : (Option S) → Option S) (h : (Option S) → ((Option S) → Bool) → Bool) (k : F1 → Bool) (t : F1) (hd : d ≠ .dx) (hf : ∀ c k, h c k = k (f c)) : F1.upK d h k t = k (F1.up d f t) := by
  cases t
  cases d <;> first | exact hf _ _ | exact absurd rfl hd
inductive TS | mk (c0 c1 c2 c3 c4 c5 c6 c7 c8 c9 c10 c11 c12 c13 c14 c15 c16 c17 : F1)
def TS.all (x : F1) : TS := .mk x x x x x x x x x x x x x x x x x x
noncomputable def TS.sel (e : F1) (d : Dg) (t : TS) : F1 := Dg.rec (motive := fun _ => TS → F1 → F1) (fun t _ => TS.rec (motive := fun _ => F1) (fun c0 c1 c2 c3 c4 c5 c6 c7 c8 c9 c10 c11 c12 c13 c14 c15 c16 c17 => c0) t) (fun t _ => TS.rec (motive := fun _ => F1) (fun c0 c1 c2 c3 c4 c5 c6 c7 c8 c9 c10 c11 c12 c13 c14 c15 c16 c17 => c1) t) (fun t _ => TS.rec (motive := fun _ => F1) (fun c0 c1 c2 c3 c4 c5 c6 c7 c8 c9 c10 c11 c12 c13 c14 c15 c16 c17 => c2) t) (fun t _ => TS.rec (motive := fun _ => F1) (fun c0 c1 c2 c3 c4 c5 c6 c7 c8 c9 c10 c11 c12 c13 c14 c15 c16 c17 => c3) t) (fun t _ => TS.rec (motive := fun _ => F1) (fun c0 c1 c2 c3 c4 c5 c6 c7 c8 c9 c10 c11 c12 c13 c14 c15 c16 c17 => c4) t) (fun t _ => TS.rec (motive := fun _ => F1) (fun c0 c1 c2 c3 c4 c5 c6 c7 c8 c9 c10 c11 c12 c13 c14 c15 c16 c17 => c5) t) (fun t _ => TS.rec (motive := fun _ => F1) (fun c0 c1 c2 c3 c4 c5 c6 c7 c8 c9 c10 c11 c12 c13 c14 c15 c16 c17 => c6) t) (fun t _ => TS.rec (motive := fun _ => F1) (fun c0 c1 c2 c3 c4 c5 c6 c7 c8 c9 c10 c11 c12 c13 c14 c15 c16 c17 => c7) t) (fun t _ => TS.rec (motive := fun _ => F1) (fun c0 c1 c2 c3 c4 c5 c6 c7 c8 c9 c10 c11 c12 c13 c14 c15 c16 c17 => c8) t) (fun t _ => TS.rec (motive := fun _ => F1) (fun c0 c1 c2 c3 c4 c5 c6 c7 c8 c9 c10 c11 c12 c13 c14 c15 c16 c17 => c9) t) (fun t _ => TS.rec (motive := fun _ => F1) (fun c0 c1 c2 c3 c4 c5 c6 c7 c8 c9 c10 c11 c12 c13 c14 c15 c16 c17 => c10) t) (fun t _ => TS.rec (motive := fun _ => F1) (fun c0 c1 c2 c3 c4 c5 c6 c7 c8 c9 c10 c11 c12 c13 c14 c15 c16 c17 => c11) t) (fun t _ => TS.rec (motive := fun _ => F1) (fun c0 c1 c2 c3 c4 c5 c6 c7 c8 c9 c10 c11 c12 c13 c14 c15 c16 c17 => c12) t) (fun t _ => TS.rec (motive := fun _ => F1) (fun c0 c1 c2 c3 c4 c5 c6 c7 c8 c9 c10 c11 c12 c13 c14 c15 c16 c17 => c13) t) (fun t _ => TS.rec (motive := fun _ => F1) (fun c0 c1 c2 c3 c4 c5 c6 c7 c8 c9 c10 c11 c12 c13 c14 c15 c16 c17 => c14) t) (fun t _ => TS.rec (motive := fun _ => F1) (fun c0 c1 c2 c3 c4 c5 c6 c7 c8 c9 c10 c11 c12 c13 c14 c15 c16 c17 => c15) t) (fun t _ => TS.rec (motive := fun _ => F1) (fun c0 c1 c2 c3 c4 c5 c6 c7 c8 c9 c10 c11 c12 c13 c14 c15 c16 c17 => c16) t) (fun t _ => TS.rec (motive := fun _ => F1) (fun c0 c1 c2 c3 c4 c5 c6 c7 c8 c9 c10 c11 c12 c13 c14 c15 c16 c17 => c17) t) (fun _ e => e) d t e
noncomputable def TS.up (d : Dg) (f : F1 → F1) (t : TS) : TS := Dg.rec (motive := fun _ => (F1 → F1) → TS → TS) (fun f t => TS.rec (motive := fun _ => TS) (fun c0 c1 c2 c3 c4 c5 c6 c7 c8 c9 c10 c11 c12 c13 c14 c15 c16 c17 => TS.mk (f c0) c1 c2 c3 c4 c5 c6 c7 c8 c9 c10 c11 c12 c13 c14 c15 c16 c17) t) (fun f t => TS.rec (motive := fun _ => TS) (fun c0 c1 c2 c3 c4 c5 c6 c7 c8 c9 c10 c11 c12 c13 c14 c15 c16 c17 => TS.mk c0 (f c1) c2 c3 c4 c5 c6 c7 c8 c9 c10 c11 c12 c13 c14 c15 c16 c17) t) (fun f t => TS.rec (motive := fun _ => TS) (fun c0 c1 c2 c3 c4 c5 c6 c7 c8 c9 c10 c11 c12 c13 c14 c15 c16 c17 => TS.mk c0 c1 (f c2) c3 c4 c5 c6 c7 c8 c9 c10 c11 c12 c13 c14 c15 c16 c17) t) (fun f t => TS.rec (motive := fun _ => TS) (fun c0 c1 c2 c3 c4 c5 c6 c7 c8 c9 c10 c11 c12 c13 c14 c15 c16 c17 => TS.mk c0 c1 c2 (f c3) c4 c5 c6 c7 c8 c9 c10 c11 c12 c13 c14 c15 c16 c17) t) (fun f t => TS.rec (motive := fun _ => TS) (fun c0 c1 c2 c3 c4 c5 c6 c7 c8 c9 c10 c11 c12 c13 c14 c15 c16 c17 => TS.mk c0 c1 c2 c3 (f c4) c5 c6 c7 c8 c9 c10 c11 c12 c13 c14 c15 c16 c17) t) (fun f t => TS.rec (motive := fun _ => TS) (fun c0 c1 c2 c3 c4 c5 c6 c7 c8 c9 c10 c11 c12 c13 c14 c15 c16 c17 => TS.mk c0 c1 c2 c3 c4 (f c5) c6 c7 c8 c9 c10 c11 c12 c13 c14 c15 c16 c17) t) (fun f t => TS.rec (motive := fun _ => TS) (fun c0 c1 c2 c3 c4 c5 c6 c7 c8 c9 c10 c11 c12 c13 c14 c15 c16 c17 => TS.mk c0 c1 c2 c3 c4 c5 (f c6) c7 c8 c9 c10 c11 c12 c13 c14 c15 c16 c17) t) (fun f t => TS.rec (motive := fun _ => TS) (fun c0 c1 c2 c3 c4 c5 c6 c7 c8 c9 c10 c11 c12 c13 c14 c15 c16 c17 => TS.mk c0 c1 c2 c3 c4 c5 c6 (f c7) c8 c9 c10 c11 c12 c13 c14 c15 c16 c17) t) (fun f t => TS.rec (motive := fun _ => TS) (fun c0 c1 c2 c3 c4 c5 c6 c7 c8 c9 c10 c11 c12 c13 c14 c15 c16 c17 => TS.mk c0 c1 c2 c3 c4 c5 c6 c7 (f c8) c9 c10 c11 c12 c13 c14 c15 c16 c17) t) (fun f t => TS.rec (motive := fun _ => TS) (fun c0 c1 c2 c3 c4 c5 c6 c7 c8 c9 c10 c11 c12 c13 c14 c15 c16 c17 => TS.mk c0 c1 c2 c3 c4 c5 c6 c7 c8 (f c9) c10 c11 c12 c13 c14 c15 c16 c17) t) (fun f t => TS.rec (motive := fun _ => TS) (fun c0 c1 c2 c3 c4 c5 c6 c7 c8 c9 c10 c11 c12 c13 c14 c15 c16 c17 => TS.mk c0 c1 c2 c3 c4 c5 c6 c7 c8 c9 (f c10) c11 c12 c13 c14 c15 c16 c17) t) (fun f t => TS.rec (motive := fun _ => TS) (fun c0 c1 c2 c3 c4 c5 c6 c7 c8 c9 c10 c11 c12 c13 c14 c15 c16 c17 => TS.mk c0 c1 c2 c3 c4 c5 c6 c7 c8 c9 c10 (f c11) c12 c13 c14 c15 c16 c17) t) (fun f t => TS.rec (motive := fun _ => TS) (fun c0 c1 c2 c3 c4 c5 c6 c7 c8 c9 c10 c11 c12 c13 c14 c15 c16 c17 => TS.mk c0 c1 c2 c3 c4 c5 c6 c7 c8 c9 c10 c11 (f c12) c13 c14 c15 c16 c17) t) (fun f t => TS.rec (motive := fun _ => TS) (fun c0 c1 c2 c3 c4 c5 c6 c7 c8 c9 c10 c11 c12 c13 c14 c15 c16 c17 => TS.mk c0 c1 c2 c3 c4 c5 c6 c7 c8 c9 c10 c11 c12 (f c13) c14 c15 c16 c17) t) (fun f t => TS.rec (motive := fun _ => TS) (fun c0 c1 c2 c3 c4 c5 c6 c7 c8 c9 c10 c11 c12 c13 c14 c15 c16 c17 => TS.mk c0 c1 c2 c3 c4 c5 c6 c7 c8 c9 c10 c11 c12 c13 (f c14) c15 c16 c17) t) (fun f t => TS.rec (motive := fun _ => TS) (fun c0 c1 c2 c3 c4 c5 c6 c7 c8 c9 c10 c11 c12 c13 c14 c15 c16 c17 => TS.mk c0 c1 c2 c3 c4 c5 c6 c7 c8 c9 c10 c11 c12 c13 c14 (f c15) c16 c17) t) (fun f t => TS.rec (motive := fun _ => TS) (fun c0 c1 c2 c3 c4 c5 c6 c7 c8 c9 c10 c11 c12 c13 c14 c15 c16 c17 => TS.mk c0 c1 c2 c3 c4 c5 c6 c7 c8 c9 c10 c11 c12 c13 c14 c15 (f c16) c17) t) (fun f t => TS.rec (motive := fun _ => TS) (fun c0 c1 c2 c3 c4 c5 c6 c7 c8 c9 c10 c11 c12 c13 c14 c15 c16 c17 => TS.mk c0 c1 c2 c3 c4 c5 c6 c7 c8 c9 c10 c11 c12 c13 c14 c15 c16 (f c17)) t) (fun _ t => t) d f t
noncomputable def TS.upK (d : Dg) (h : F1 → (F1 → Bool) → Bool) (k : TS → Bool) (t : TS) : Bool := Dg.rec (motive := fun _ => (F1 → (F1 → Bool) → Bool) → (TS → Bool) → TS → Bool) (fun h k t => TS.rec (motive := fun _ => Bool) (fun c0 c1 c2 c3 c4 c5 c6 c7 c8 c9 c10 c11 c12 c13 c14 c15 c16 c17 => h c0 (fun x => k (TS.mk x c1 c2 c3 c4 c5 c6 c7 c8 c9 c10 c11 c12 c13 c14 c15 c16 c17))) t) (fun h k t => TS.rec (motive := fun _ => Bool) (fun c0 c1 c2 c3 c4 c5 c6 c7 c8 c9 c10 c11 c12 c13 c14 c15 c16 c17 => h c1 (fun x => k (TS.mk c0 x c2 c3 c4 c5 c6 c7 c8 c9 c10 c11 c12 c13 c14 c15 c16 c17))) t) (fun h k t => TS.rec (motive := fun _ => Bool) (fun c0 c1 c2 c3 c4 c5 c6 c7 c8 c9 c10 c11 c12 c13 c14 c15 c16 c17 => h c2 (fun x => k (TS.mk c0 c1 x c3 c4 c5 c6 c7 c8 c9 c10 c11 c12 c13 c14 c15 c16 c17))) t) (fun h k t => TS.rec (motive := fun _ => Bool) (fun c0 c1 c2 c3 c4 c5 c6 c7 c8 c9 c10 c11 c12 c13 c14 c15 c16 c17 => h c3 (fun x => k (TS.mk c0 c1 c2 x c4 c5 c6 c7 c8 c9 c10 c11 c12 c13 c14 c15 c16 c17))) t) (fun h k t => TS.rec (motive := fun _ => Bool) (fun c0 c1 c2 c3 c4 c5 c6 c7 c8 c9 c10 c11 c12 c13 c14 c15 c16 c17 => h c4 (fun x => k (TS.mk c0 c1 c2 c3 x c5 c6 c7 c8 c9 c10 c11 c12 c13 c14 c15 c16 c17))) t) (fun h k t => TS.rec (motive := fun _ => Bool) (fun c0 c1 c2 c3 c4 c5 c6 c7 c8 c9 c10 c11 c12 c13 c14 c15 c16 c17 => h c5 (fun x => k (TS.mk c0 c1 c2 c3 c4 x c6 c7 c8 c9 c10 c11 c12 c13 c14 c15 c16 c17))) t) (fun h k t => TS.rec (motive := fun _ => Bool) (fun c0 c1 c2 c3 c4 c5 c6 c7 c8 c9 c10 c11 c12 c13 c14 c15 c16 c17 => h c6 (fun x => k (TS.mk c0 c1 c2 c3 c4 c5 x c7 c8 c9 c10 c11 c12 c13 c14 c15 c16 c17))) t) (fun h k t => TS.rec (motive := fun _ => Bool) (fun c0 c1 c2 c3 c4 c5 c6 c7 c8 c9 c10 c11 c12 c13 c14 c15 c16 c17 => h c7 (fun x => k (TS.mk c0 c1 c2 c3 c4 c5 c6 x c8 c9 c10 c11 c12 c13 c14 c15 c16 c17))) t) (fun h k t => TS.rec (motive := fun _ => Bool) (fun c0 c1 c2 c3 c4 c5 c6 c7 c8 c9 c10 c11 c12 c13 c14 c15 c16 c17 => h c8 (fun x => k (TS.mk c0 c1 c2 c3 c4 c5 c6 c7 x c9 c10 c11 c12 c13 c14 c15 c16 c17))) t) (fun h k t => TS.rec (motive := fun _ => Bool) (fun c0 c1 c2 c3 c4 c5 c6 c7 c8 c9 c10 c11 c12 c13 c14 c15 c16 c17 => h c9 (fun x => k (TS.mk c0 c1 c2 c3 c4 c5 c6 c7 c8 x c10 c11 c12 c13 c14 c15 c16 c17))) t) (fun h k t => TS.rec (motive := fun _ => Bool) (fun c0 c1 c2 c3 c4 c5 c6 c7 c8 c9 c10 c11 c12 c13 c14 c15 c16 c17 => h c10 (fun x => k (TS.mk c0 c1 c2 c3 c4 c5 c6 c7 c8 c9 x c11 c12 c13 c14 c15 c16 c17))) t) (fun h k t => TS.rec (motive := fun _ => Bool) (fun c0 c1 c2 c3 c4 c5 c6 c7 c8 c9 c10 c11 c12 c13 c14 c15 c16 c17 => h c11 (fun x => k (TS.mk c0 c1 c2 c3 c4 c5 c6 c7 c8 c9 c10 x c12 c13 c14 c15 c16 c17))) t) (fun h k t => TS.rec (motive := fun _ => Bool) (fun c0 c1 c2 c3 c4 c5 c6 c7 c8 c9 c10 c11 c12 c13 c14 c15 c16 c17 => h c12 (fun x => k (TS.mk c0 c1 c2 c3 c4 c5 c6 c7 c8 c9 c10 c11 x c13 c14 c15 c16 c17))) t) (fun h k t => TS.rec (motive := fun _ => Bool) (fun c0 c1 c2 c3 c4 c5 c6 c7 c8 c9 c10 c11 c12 c13 c14 c15 c16 c17 => h c13 (fun x => k (TS.mk c0 c1 c2 c3 c4 c5 c6 c7 c8 c9 c10 c11 c12 x c14 c15 c16 c17))) t) (fun h k t => TS.rec (motive := fun _ => Bool) (fun c0 c1 c2 c3 c4 c5 c6 c7 c8 c9 c10 c11 c12 c13 c14 c15 c16 c17 => h c14 (fun x => k (TS.mk c0 c1 c2 c3 c4 c5 c6 c7 c8 c9 c10 c11 c12 c13 x c15 c16 c17))) t) (fun h k t => TS.rec (motive := fun _ => Bool) (fun c0 c1 c2 c3 c4 c5 c6 c7 c8 c9 c10 c11 c12 c13 c14 c15 c16 c17 => h c15 (fun x => k (TS.mk c0 c1 c2 c3 c4 c5 c6 c7 c8 c9 c10 c11 c12 c13 c14 x c16 c17))) t) (fun h k t => TS.rec (motive := fun _ => Bool) (fun c0 c1 c2 c3 c4 c5 c6 c7 c8 c9 c10 c11 c12 c13 c14 c15 c16 c17 => h c16 (fun x => k (TS.mk c0 c1 c2 c3 c4 c5 c6 c7 c8 c9 c10 c11 c12 c13 c14 c15 x c17))) t) (fun h k t => TS.rec (motive := fun _ => Bool) (fun c0 c1 c2 c3 c4 c5 c6 c7 c8 c9 c10 c11 c12 c13 c14 c15 c16 c17 => h c17 (fun x => k (TS.mk c0 c1 c2 c3 c4 c5 c6 c7 c8 c9 c10 c11 c12 c13 c14 c15 c16 x))) t) (fun _ _ _ => false) d h k t
theorem TS.get_same (e : F1) (d : Dg) (f : F1 → F1) (t : TS) (h : d ≠ .dx) : TS.sel e d (TS.up d f t) = f (TS.sel e d t) := by
  cases t
  cases d <;> first | rfl | exact absurd rfl h
theorem TS.get_ne (e : F1) (d d' : Dg) (f : F1 → F1) (t : TS) (h : d' ≠ d) : TS.sel e d' (TS.up d f t) = TS.sel e d' t := by
  cases t
  cases d <;> cases d' <;> first | rfl | exact absurd rfl h
theorem TS.get_all (e x : F1) (d : Dg) (h : d ≠ .dx) : TS.sel e d (TS.all x) = x := by cases d <;> first | rfl | exact absurd rfl h
theorem TS.upK_eq (d : Dg) (f : F1 → F1) (h : F1 → (F1 → Bool) → Bool) (k : TS → Bool) (t : TS) (hd : d ≠ .dx) (hf : ∀ c k, h c k = k (f c)) : TS.upK d h k t = k (TS.up d f t) := by
  cases t
  cases d <;> first | exact hf _ _ | exact absurd rfl hd
def F1.emp : F1 := F1.all none
def TS.lf : TS := TS.all F1.emp
noncomputable def TS.get (t : TS) (k : Nat) : Option S := (F1.sel none (dgt (Nat.mod k 18)) (TS.sel F1.emp (dgo (Nat.div k 18)) t))
noncomputable def TS.put (t : TS) (k : Nat) (x : Option S) : Option TS := Bool.rec (motive := fun _ => Option TS) none (some (TS.up (dgo (Nat.div k 18)) (F1.up (dgt (Nat.mod k 18)) (fun _ => x)) t)) (Nat.ble (Nat.succ k) 324)
noncomputable def TS.putK (t : TS) (k : Nat) (x : Option S) (K : TS → Bool) : Bool := TS.upK (dgo (Nat.div k 18)) (fun c K => F1.upK (dgt (Nat.mod k 18)) (fun _ K => K x) K c) K t
theorem TS.get_lf (k : Nat) : TS.lf.get k = none := by
  unfold TS.get TS.lf
  have g : ∀ d, TS.sel F1.emp d (TS.all F1.emp) = F1.emp := fun d => by
    by_cases h : d = .dx
    · rw [h]; rfl
    · exact TS.get_all _ _ _ h
  rw [g]
  exact F1.get_all _ _ _ (dgt_ne _)
theorem TS.dig {a b : Nat} (h0 : a % 18 = b % 18)  (ht : a / 18 = b / 18) : a = b := by omega
theorem TS.get_put {t t' : TS} {k : Nat} {x : Option S} (h : t.put k x = some t') : ∀ j, t'.get j = if j = k then x else t.get j := by
  obtain ⟨hb, rfl⟩ := bool_some h
  have hk : k < 324 := Nat.le_of_ble_eq_true hb
  intro j
  unfold TS.get
  have k1 : k / 18 < 18 := by omega
  have hd : dgo (Nat.div k 18) ≠ .dx := fun e => by have := dgo_dx.1 e; exact absurd (show 18 ≤ k / 18 from this) (by omega)
  have ml : ∀ n : Nat, n % 18 < 18 := fun n => Nat.mod_lt _ (by decide)
  by_cases e1 : (dgo (Nat.div j 18)) = (dgo (Nat.div k 18))
  · have hj : j / 18 < 18 := by
      by_cases c : j / 18 < 18
      · exact c
      · exact absurd (e1 ▸ dgo_dx.2 (show 18 ≤ j / 18 from by omega)) hd
    have hjk : j / 18 = k / 18 := by
      have e2 := e1
      rw [dgo_lt (show Nat.div j 18 < 18 from hj), dgo_lt (show Nat.div k 18 < 18 from k1)] at e2
      exact dgt_inj hj k1 e2
    rw [e1, TS.get_same _ _ _ _ hd]
    by_cases ejk : j = k
    · subst ejk; rw [if_pos rfl, F1.get_same _ _ _ _ (dgt_ne _)]
    · rw [if_neg ejk, F1.get_ne none (dgt (Nat.mod k 18)) (dgt (Nat.mod j 18)) _ _ (fun e0 => ejk (TS.dig (dgt_inj (ml _) (ml _) e0) hjk))]
  · rw [TS.get_ne _ _ _ _ _ e1, if_neg (fun ez => e1 (by rw [ez]))]
theorem TS.putK_eq (t : TS) (k : Nat) (x : Option S) (K : TS → Bool) : t.putK k x K = (match t.put k x with | some t' => K t' | none => false) := by
  unfold TS.putK TS.put
  by_cases h : k < 324
  · rw [Nat.ble_eq_true_of_le (show Nat.succ k ≤ 324 from h)]
    refine TS.upK_eq _ _ _ _ _ (fun e => ?_) (fun c k => F1.upK_eq _ _ _ _ _ (dgt_ne _) (fun _ _ => rfl))
    have := dgo_dx.1 e
    exact absurd (show 18 ≤ k / 18 from this) (by omega)
  · have e : Nat.ble (Nat.succ k) 324 = false := by
      cases e : Nat.ble (Nat.succ k) 324 with
      | false => rfl
      | true => exact absurd (Nat.le_of_ble_eq_true e) h
    rw [e, show dgo (Nat.div k 18) = .dx from dgo_dx.2 (show 18 ≤ k / 18 from by omega)]
    rfl

/-! ### Objects: four digits -/
inductive H1 | mk (c0 c1 c2 c3 c4 c5 c6 c7 c8 c9 c10 c11 c12 c13 c14 c15 c16 c17 : Option AO)
def H1.all (x : Option AO) : H1 := .mk x x x x x x x x x x x x x x x x x x
noncomputable def H1.sel (e : Option AO) (d : Dg) (t : H1) : Option AO := Dg.rec (motive := fun _ => H1 → Option AO → Option AO) (fun t _ => H1.rec (motive := fun _ => Option AO) (fun c0 c1 c2 c3 c4 c5 c6 c7 c8 c9 c10 c11 c12 c13 c14 c15 c16 c17 => c0) t) (fun t _ => H1.rec (motive := fun _ => Option AO) (fun c0 c1 c2 c3 c4 c5 c6 c7 c8 c9 c10 c11 c12 c13 c14 c15 c16 c17 => c1) t) (fun t _ => H1.rec (motive := fun _ => Option AO) (fun c0 c1 c2 c3 c4 c5 c6 c7 c8 c9 c10 c11 c12 c13 c14 c15 c16 c17 => c2) t) (fun t _ => H1.rec (motive := fun _ => Option AO) (fun c0 c1 c2 c3 c4 c5 c6 c7 c8 c9 c10 c11 c12 c13 c14 c15 c16 c17 => c3) t) (fun t _ => H1.rec (motive := fun _ => Option AO) (fun c0 c1 c2 c3 c4 c5 c6 c7 c8 c9 c10 c11 c12 c13 c14 c15 c16 c17 => c4) t) (fun t _ => H1.rec (motive := fun _ => Option AO) (fun c0 c1 c2 c3 c4 c5 c6 c7 c8 c9 c10 c11 c12 c13 c14 c15 c16 c17 => c5) t) (fun t _ => H1.rec (motive := fun _ => Option AO) (fun c0 c1 c2 c3 c4 c5 c6 c7 c8 c9 c10 c11 c12 c13 c14 c15 c16 c17 => c6) t) (fun t _ => H1.rec (motive := fun _ => Option AO) (fun c0 c1 c2 c3 c4 c5 c6 c7 c8 c9 c10 c11 c12 c13 c14 c15 c16 c17 => c7) t) (fun t _ => H1.rec (motive := fun _ => Option AO) (fun c0 c1 c2 c3 c4 c5 c6 c7 c8 c9 c10 c11 c12 c13 c14 c15 c16 c17 => c8) t) (fun t _ => H1.rec (motive := fun _ => Option AO) (fun c0 c1 c2 c3 c4 c5 c6 c7 c8 c9 c10 c11 c12 c13 c14 c15 c16 c17 => c9) t) (fun t _ => H1.rec (motive := fun _ => Option AO) (fun c0 c1 c2 c3 c4 c5 c6 c7 c8 c9 c10 c11 c12 c13 c14 c15 c16 c17 => c10) t) (fun t _ => H1.rec (motive := fun _ => Option AO) (fun c0 c1 c2 c3 c4 c5 c6 c7 c8 c9 c10 c11 c12 c13 c14 c15 c16 c17 => c11) t) (fun t _ => H1.rec (motive := fun _ => Option AO) (fun c0 c1 c2 c3 c4 c5 c6 c7 c8 c9 c10 c11 c12 c13 c14 c15 c16 c17 => c12) t) (fun t _ => H1.rec (motive := fun _ => Option AO) (fun c0 c1 c2 c3 c4 c5 c6 c7 c8 c9 c10 c11 c12 c13 c14 c15 c16 c17 => c13) t) (fun t _ => H1.rec (motive := fun _ => Option AO) (fun c0 c1 c2 c3 c4 c5 c6 c7 c8 c9 c10 c11 c12 c13 c14 c15 c16 c17 => c14) t) (fun t _ => H1.rec (motive := fun _ => Option AO) (fun c0 c1 c2 c3 c4 c5 c6 c7 c8 c9 c10 c11 c12 c13 c14 c15 c16 c17 => c15) t) (fun t _ => H1.rec (motive := fun _ => Option AO) (fun c0 c1 c2 c3 c4 c5 c6 c7 c8 c9 c10 c11 c12 c13 c14 c15 c16 c17 => c16) t) (fun t _ => H1.rec (motive := fun _ => Option AO) (fun c0 c1 c2 c3 c4 c5 c6 c7 c8 c9 c10 c11 c12 c13 c14 c15 c16 c17 => c17) t) (fun _ e => e) d t e
noncomputable def H1.up (d : Dg) (f : (Option AO) → Option AO) (t : H1) : H1 := Dg.rec (motive := fun _ => ((Option AO) → Option AO) → H1 → H1) (fun f t => H1.rec (motive := fun _ => H1) (fun c0 c1 c2 c3 c4 c5 c6 c7 c8 c9 c10 c11 c12 c13 c14 c15 c16 c17 => H1.mk (f c0) c1 c2 c3 c4 c5 c6 c7 c8 c9 c10 c11 c12 c13 c14 c15 c16 c17) t) (fun f t => H1.rec (motive := fun _ => H1) (fun c0 c1 c2 c3 c4 c5 c6 c7 c8 c9 c10 c11 c12 c13 c14 c15 c16 c17 => H1.mk c0 (f c1) c2 c3 c4 c5 c6 c7 c8 c9 c10 c11 c12 c13 c14 c15 c16 c17) t) (fun f t => H1.rec (motive := fun _ => H1) (fun c0 c1 c2 c3 c4 c5 c6 c7 c8 c9 c10 c11 c12 c13 c14 c15 c16 c17 => H1.mk c0 c1 (f c2) c3 c4 c5 c6 c7 c8 c9 c10 c11 c12 c13 c14 c15 c16 c17) t) (fun f t => H1.rec (motive := fun _ => H1) (fun c0 c1 c2 c3 c4 c5 c6 c7 c8 c9 c10 c11 c12 c13 c14 c15 c16 c17 => H1.mk c0 c1 c2 (f c3) c4 c5 c6 c7 c8 c9 c10 c11 c12 c13 c14 c15 c16 c17) t) (fun f t => H1.rec (motive := fun _ => H1) (fun c0 c1 c2 c3 c4 c5 c6 c7 c8 c9 c10 c11 c12 c13 c14 c15 c16 c17 => H1.mk c0 c1 c2 c3 (f c4) c5 c6 c7 c8 c9 c10 c11 c12 c13 c14 c15 c16 c17) t) (fun f t => H1.rec (motive := fun _ => H1) (fun c0 c1 c2 c3 c4 c5 c6 c7 c8 c9 c10 c11 c12 c13 c14 c15 c16 c17 => H1.mk c0 c1 c2 c3 c4 (f c5) c6 c7 c8 c9 c10 c11 c12 c13 c14 c15 c16 c17) t) (fun f t => H1.rec (motive := fun _ => H1) (fun c0 c1 c2 c3 c4 c5 c6 c7 c8 c9 c10 c11 c12 c13 c14 c15 c16 c17 => H1.mk c0 c1 c2 c3 c4 c5 (f c6) c7 c8 c9 c10 c11 c12 c13 c14 c15 c16 c17) t) (fun f t => H1.rec (motive := fun _ => H1) (fun c0 c1 c2 c3 c4 c5 c6 c7 c8 c9 c10 c11 c12 c13 c14 c15 c16 c17 => H1.mk c0 c1 c2 c3 c4 c5 c6 (f c7) c8 c9 c10 c11 c12 c13 c14 c15 c16 c17) t) (fun f t => H1.rec (motive := fun _ => H1) (fun c0 c1 c2 c3 c4 c5 c6 c7 c8 c9 c10 c11 c12 c13 c14 c15 c16 c17 => H1.mk c0 c1 c2 c3 c4 c5 c6 c7 (f c8) c9 c10 c11 c12 c13 c14 c15 c16 c17) t) (fun f t => H1.rec (motive := fun _ => H1) (fun c0 c1 c2 c3 c4 c5 c6 c7 c8 c9 c10 c11 c12 c13 c14 c15 c16 c17 => H1.mk c0 c1 c2 c3 c4 c5 c6 c7 c8 (f c9) c10 c11 c12 c13 c14 c15 c16 c17) t) (fun f t => H1.rec (motive := fun _ => H1) (fun c0 c1 c2 c3 c4 c5 c6 c7 c8 c9 c10 c11 c12 c13 c14 c15 c16 c17 => H1.mk c0 c1 c2 c3 c4 c5 c6 c7 c8 c9 (f c10) c11 c12 c13 c14 c15 c16 c17) t) (fun f t => H1.rec (motive := fun _ => H1) (fun c0 c1 c2 c3 c4 c5 c6 c7 c8 c9 c10 c11 c12 c13 c14 c15 c16 c17 => H1.mk c0 c1 c2 c3 c4 c5 c6 c7 c8 c9 c10 (f c11) c12 c13 c14 c15 c16 c17) t) (fun f t => H1.rec (motive := fun _ => H1) (fun c0 c1 c2 c3 c4 c5 c6 c7 c8 c9 c10 c11 c12 c13 c14 c15 c16 c17 => H1.mk c0 c1 c2 c3 c4 c5 c6 c7 c8 c9 c10 c11 (f c12) c13 c14 c15 c16 c17) t) (fun f t => H1.rec (motive := fun _ => H1) (fun c0 c1 c2 c3 c4 c5 c6 c7 c8 c9 c10 c11 c12 c13 c14 c15 c16 c17 => H1.mk c0 c1 c2 c3 c4 c5 c6 c7 c8 c9 c10 c11 c12 (f c13) c14 c15 c16 c17) t) (fun f t => H1.rec (motive := fun _ => H1) (fun c0 c1 c2 c3 c4 c5 c6 c7 c8 c9 c10 c11 c12 c13 c14 c15 c16 c17 => H1.mk c0 c1 c2 c3 c4 c5 c6 c7 c8 c9 c10 c11 c12 c13 (f c14) c15 c16 c17) t) (fun f t => H1.rec (motive := fun _ => H1) (fun c0 c1 c2 c3 c4 c5 c6 c7 c8 c9 c10 c11 c12 c13 c14 c15 c16 c17 => H1.mk c0 c1 c2 c3 c4 c5 c6 c7 c8 c9 c10 c11 c12 c13 c14 (f c15) c16 c17) t) (fun f t => H1.rec (motive := fun _ => H1) (fun c0 c1 c2 c3 c4 c5 c6 c7 c8 c9 c10 c11 c12 c13 c14 c15 c16 c17 => H1.mk c0 c1 c2 c3 c4 c5 c6 c7 c8 c9 c10 c11 c12 c13 c14 c15 (f c16) c17) t) (fun f t => H1.rec (motive := fun _ => H1) (fun c0 c1 c2 c3 c4 c5 c6 c7 c8 c9 c10 c11 c12 c13 c14 c15 c16 c17 => H1.mk c0 c1 c2 c3 c4 c5 c6 c7 c8 c9 c10 c11 c12 c13 c14 c15 c16 (f c17)) t) (fun _ t => t) d f t
noncomputable def H1.upK (d : Dg) (h : (Option AO) → ((Option AO) → Bool) → Bool) (k : H1 → Bool) (t : H1) : Bool := Dg.rec (motive := fun _ => ((Option AO) → ((Option AO) → Bool) → Bool) → (H1 → Bool) → H1 → Bool) (fun h k t => H1.rec (motive := fun _ => Bool) (fun c0 c1 c2 c3 c4 c5 c6 c7 c8 c9 c10 c11 c12 c13 c14 c15 c16 c17 => h c0 (fun x => k (H1.mk x c1 c2 c3 c4 c5 c6 c7 c8 c9 c10 c11 c12 c13 c14 c15 c16 c17))) t) (fun h k t => H1.rec (motive := fun _ => Bool) (fun c0 c1 c2 c3 c4 c5 c6 c7 c8 c9 c10 c11 c12 c13 c14 c15 c16 c17 => h c1 (fun x => k (H1.mk c0 x c2 c3 c4 c5 c6 c7 c8 c9 c10 c11 c12 c13 c14 c15 c16 c17))) t) (fun h k t => H1.rec (motive := fun _ => Bool) (fun c0 c1 c2 c3 c4 c5 c6 c7 c8 c9 c10 c11 c12 c13 c14 c15 c16 c17 => h c2 (fun x => k (H1.mk c0 c1 x c3 c4 c5 c6 c7 c8 c9 c10 c11 c12 c13 c14 c15 c16 c17))) t) (fun h k t => H1.rec (motive := fun _ => Bool) (fun c0 c1 c2 c3 c4 c5 c6 c7 c8 c9 c10 c11 c12 c13 c14 c15 c16 c17 => h c3 (fun x => k (H1.mk c0 c1 c2 x c4 c5 c6 c7 c8 c9 c10 c11 c12 c13 c14 c15 c16 c17))) t) (fun h k t => H1.rec (motive := fun _ => Bool) (fun c0 c1 c2 c3 c4 c5 c6 c7 c8 c9 c10 c11 c12 c13 c14 c15 c16 c17 => h c4 (fun x => k (H1.mk c0 c1 c2 c3 x c5 c6 c7 c8 c9 c10 c11 c12 c13 c14 c15 c16 c17))) t) (fun h k t => H1.rec (motive := fun _ => Bool) (fun c0 c1 c2 c3 c4 c5 c6 c7 c8 c9 c10 c11 c12 c13 c14 c15 c16 c17 => h c5 (fun x => k (H1.mk c0 c1 c2 c3 c4 x c6 c7 c8 c9 c10 c11 c12 c13 c14 c15 c16 c17))) t) (fun h k t => H1.rec (motive := fun _ => Bool) (fun c0 c1 c2 c3 c4 c5 c6 c7 c8 c9 c10 c11 c12 c13 c14 c15 c16 c17 => h c6 (fun x => k (H1.mk c0 c1 c2 c3 c4 c5 x c7 c8 c9 c10 c11 c12 c13 c14 c15 c16 c17))) t) (fun h k t => H1.rec (motive := fun _ => Bool) (fun c0 c1 c2 c3 c4 c5 c6 c7 c8 c9 c10 c11 c12 c13 c14 c15 c16 c17 => h c7 (fun x => k (H1.mk c0 c1 c2 c3 c4 c5 c6 x c8 c9 c10 c11 c12 c13 c14 c15 c16 c17))) t) (fun h k t => H1.rec (motive := fun _ => Bool) (fun c0 c1 c2 c3 c4 c5 c6 c7 c8 c9 c10 c11 c12 c13 c14 c15 c16 c17 => h c8 (fun x => k (H1.mk c0 c1 c2 c3 c4 c5 c6 c7 x c9 c10 c11 c12 c13 c14 c15 c16 c17))) t) (fun h k t => H1.rec (motive := fun _ => Bool) (fun c0 c1 c2 c3 c4 c5 c6 c7 c8 c9 c10 c11 c12 c13 c14 c15 c16 c17 => h c9 (fun x => k (H1.mk c0 c1 c2 c3 c4 c5 c6 c7 c8 x c10 c11 c12 c13 c14 c15 c16 c17))) t) (fun h k t => H1.rec (motive := fun _ => Bool) (fun c0 c1 c2 c3 c4 c5 c6 c7 c8 c9 c10 c11 c12 c13 c14 c15 c16 c17 => h c10 (fun x => k (H1.mk c0 c1 c2 c3 c4 c5 c6 c7 c8 c9 x c11 c12 c13 c14 c15 c16 c17))) t) (fun h k t => H1.rec (motive := fun _ => Bool) (fun c0 c1 c2 c3 c4 c5 c6 c7 c8 c9 c10 c11 c12 c13 c14 c15 c16 c17 => h c11 (fun x => k (H1.mk c0 c1 c2 c3 c4 c5 c6 c7 c8 c9 c10 x c12 c13 c14 c15 c16 c17))) t) (fun h k t => H1.rec (motive := fun _ => Bool) (fun c0 c1 c2 c3 c4 c5 c6 c7 c8 c9 c10 c11 c12 c13 c14 c15 c16 c17 => h c12 (fun x => k (H1.mk c0 c1 c2 c3 c4 c5 c6 c7 c8 c9 c10 c11 x c13 c14 c15 c16 c17))) t) (fun h k t => H1.rec (motive := fun _ => Bool) (fun c0 c1 c2 c3 c4 c5 c6 c7 c8 c9 c10 c11 c12 c13 c14 c15 c16 c17 => h c13 (fun x => k (H1.mk c0 c1 c2 c3 c4 c5 c6 c7 c8 c9 c10 c11 c12 x c14 c15 c16 c17))) t) (fun h k t => H1.rec (motive := fun _ => Bool) (fun c0 c1 c2 c3 c4 c5 c6 c7 c8 c9 c10 c11 c12 c13 c14 c15 c16 c17 => h c14 (fun x => k (H1.mk c0 c1 c2 c3 c4 c5 c6 c7 c8 c9 c10 c11 c12 c13 x c15 c16 c17))) t) (fun h k t => H1.rec (motive := fun _ => Bool) (fun c0 c1 c2 c3 c4 c5 c6 c7 c8 c9 c10 c11 c12 c13 c14 c15 c16 c17 => h c15 (fun x => k (H1.mk c0 c1 c2 c3 c4 c5 c6 c7 c8 c9 c10 c11 c12 c13 c14 x c16 c17))) t) (fun h k t => H1.rec (motive := fun _ => Bool) (fun c0 c1 c2 c3 c4 c5 c6 c7 c8 c9 c10 c11 c12 c13 c14 c15 c16 c17 => h c16 (fun x => k (H1.mk c0 c1 c2 c3 c4 c5 c6 c7 c8 c9 c10 c11 c12 c13 c14 c15 x c17))) t) (fun h k t => H1.rec (motive := fun _ => Bool) (fun c0 c1 c2 c3 c4 c5 c6 c7 c8 c9 c10 c11 c12 c13 c14 c15 c16 c17 => h c17 (fun x => k (H1.mk c0 c1 c2 c3 c4 c5 c6 c7 c8 c9 c10 c11 c12 c13 c14 c15 c16 x))) t) (fun _ _ _ => false) d h k t
theorem H1.get_same (e : Option AO) (d : Dg) (f : (Option AO) → Option AO) (t : H1) (h : d ≠ .dx) : H1.sel e d (H1.up d f t) = f (H1.sel e d t) := by
  cases t
  cases d <;> first | rfl | exact absurd rfl h
theorem H1.get_ne (e : Option AO) (d d' : Dg) (f : (Option AO) → Option AO) (t : H1) (h : d' ≠ d) : H1.sel e d' (H1.up d f t) = H1.sel e d' t := by
  cases t
  cases d <;> cases d' <;> first | rfl | exact absurd rfl h
theorem H1.get_all (e x : Option AO) (d : Dg) (h : d ≠ .dx) : H1.sel e d (H1.all x) = x := by cases d <;> first | rfl | exact absurd rfl h
theorem H1.upK_eq (d : Dg) (f : (Option AO) → Option AO) (h : (Option AO) → ((Option AO) → Bool) → Bool) (k : H1 → Bool) (t : H1) (hd : d ≠ .dx) (hf : ∀ c k, h c k = k (f c)) : H1.upK d h k t = k (H1.up d f t) := by
  cases t
  cases d <;> first | exact hf _ _ | exact absurd rfl hd
inductive H2 | mk (c0 c1 c2 c3 c4 c5 c6 c7 c8 c9 c10 c11 c12 c13 c14 c15 c16 c17 : H1)
def H2.all (x : H1) : H2 := .mk x x x x x x x x x x x x x x x x x x
noncomputable def H2.sel (e : H1) (d : Dg) (t : H2) : H1 := Dg.rec (motive := fun _ => H2 → H1 → H1) (fun t _ => H2.rec (motive := fun _ => H1) (fun c0 c1 c2 c3 c4 c5 c6 c7 c8 c9 c10 c11 c12 c13 c14 c15 c16 c17 => c0) t) (fun t _ => H2.rec (motive := fun _ => H1) (fun c0 c1 c2 c3 c4 c5 c6 c7 c8 c9 c10 c11 c12 c13 c14 c15 c16 c17 => c1) t) (fun t _ => H2.rec (motive := fun _ => H1) (fun c0 c1 c2 c3 c4 c5 c6 c7 c8 c9 c10 c11 c12 c13 c14 c15 c16 c17 => c2) t) (fun t _ => H2.rec (motive := fun _ => H1) (fun c0 c1 c2 c3 c4 c5 c6 c7 c8 c9 c10 c11 c12 c13 c14 c15 c16 c17 => c3) t) (fun t _ => H2.rec (motive := fun _ => H1) (fun c0 c1 c2 c3 c4 c5 c6 c7 c8 c9 c10 c11 c12 c13 c14 c15 c16 c17 => c4) t) (fun t _ => H2.rec (motive := fun _ => H1) (fun c0 c1 c2 c3 c4 c5 c6 c7 c8 c9 c10 c11 c12 c13 c14 c15 c16 c17 => c5) t) (fun t _ => H2.rec (motive := fun _ => H1) (fun c0 c1 c2 c3 c4 c5 c6 c7 c8 c9 c10 c11 c12 c13 c14 c15 c16 c17 => c6) t) (fun t _ => H2.rec (motive := fun _ => H1) (fun c0 c1 c2 c3 c4 c5 c6 c7 c8 c9 c10 c11 c12 c13 c14 c15 c16 c17 => c7) t) (fun t _ => H2.rec (motive := fun _ => H1) (fun c0 c1 c2 c3 c4 c5 c6 c7 c8 c9 c10 c11 c12 c13 c14 c15 c16 c17 => c8) t) (fun t _ => H2.rec (motive := fun _ => H1) (fun c0 c1 c2 c3 c4 c5 c6 c7 c8 c9 c10 c11 c12 c13 c14 c15 c16 c17 => c9) t) (fun t _ => H2.rec (motive := fun _ => H1) (fun c0 c1 c2 c3 c4 c5 c6 c7 c8 c9 c10 c11 c12 c13 c14 c15 c16 c17 => c10) t) (fun t _ => H2.rec (motive := fun _ => H1) (fun c0 c1 c2 c3 c4 c5 c6 c7 c8 c9 c10 c11 c12 c13 c14 c15 c16 c17 => c11) t) (fun t _ => H2.rec (motive := fun _ => H1) (fun c0 c1 c2 c3 c4 c5 c6 c7 c8 c9 c10 c11 c12 c13 c14 c15 c16 c17 => c12) t) (fun t _ => H2.rec (motive := fun _ => H1) (fun c0 c1 c2 c3 c4 c5 c6 c7 c8 c9 c10 c11 c12 c13 c14 c15 c16 c17 => c13) t) (fun t _ => H2.rec (motive := fun _ => H1) (fun c0 c1 c2 c3 c4 c5 c6 c7 c8 c9 c10 c11 c12 c13 c14 c15 c16 c17 => c14) t) (fun t _ => H2.rec (motive := fun _ => H1) (fun c0 c1 c2 c3 c4 c5 c6 c7 c8 c9 c10 c11 c12 c13 c14 c15 c16 c17 => c15) t) (fun t _ => H2.rec (motive := fun _ => H1) (fun c0 c1 c2 c3 c4 c5 c6 c7 c8 c9 c10 c11 c12 c13 c14 c15 c16 c17 => c16) t) (fun t _ => H2.rec (motive := fun _ => H1) (fun c0 c1 c2 c3 c4 c5 c6 c7 c8 c9 c10 c11 c12 c13 c14 c15 c16 c17 => c17) t) (fun _ e => e) d t e
noncomputable def H2.up (d : Dg) (f : H1 → H1) (t : H2) : H2 := Dg.rec (motive := fun _ => (H1 → H1) → H2 → H2) (fun f t => H2.rec (motive := fun _ => H2) (fun c0 c1 c2 c3 c4 c5 c6 c7 c8 c9 c10 c11 c12 c13 c14 c15 c16 c17 => H2.mk (f c0) c1 c2 c3 c4 c5 c6 c7 c8 c9 c10 c11 c12 c13 c14 c15 c16 c17) t) (fun f t => H2.rec (motive := fun _ => H2) (fun c0 c1 c2 c3 c4 c5 c6 c7 c8 c9 c10 c11 c12 c13 c14 c15 c16 c17 => H2.mk c0 (f c1) c2 c3 c4 c5 c6 c7 c8 c9 c10 c11 c12 c13 c14 c15 c16 c17) t) (fun f t => H2.rec (motive := fun _ => H2) (fun c0 c1 c2 c3 c4 c5 c6 c7 c8 c9 c10 c11 c12 c13 c14 c15 c16 c17 => H2.mk c0 c1 (f c2) c3 c4 c5 c6 c7 c8 c9 c10 c11 c12 c13 c14 c15 c16 c17) t) (fun f t => H2.rec (motive := fun _ => H2) (fun c0 c1 c2 c3 c4 c5 c6 c7 c8 c9 c10 c11 c12 c13 c14 c15 c16 c17 => H2.mk c0 c1 c2 (f c3) c4 c5 c6 c7 c8 c9 c10 c11 c12 c13 c14 c15 c16 c17) t) (fun f t => H2.rec (motive := fun _ => H2) (fun c0 c1 c2 c3 c4 c5 c6 c7 c8 c9 c10 c11 c12 c13 c14 c15 c16 c17 => H2.mk c0 c1 c2 c3 (f c4) c5 c6 c7 c8 c9 c10 c11 c12 c13 c14 c15 c16 c17) t) (fun f t => H2.rec (motive := fun _ => H2) (fun c0 c1 c2 c3 c4 c5 c6 c7 c8 c9 c10 c11 c12 c13 c14 c15 c16 c17 => H2.mk c0 c1 c2 c3 c4 (f c5) c6 c7 c8 c9 c10 c11 c12 c13 c14 c15 c16 c17) t) (fun f t => H2.rec (motive := fun _ => H2) (fun c0 c1 c2 c3 c4 c5 c6 c7 c8 c9 c10 c11 c12 c13 c14 c15 c16 c17 => H2.mk c0 c1 c2 c3 c4 c5 (f c6) c7 c8 c9 c10 c11 c12 c13 c14 c15 c16 c17) t) (fun f t => H2.rec (motive := fun _ => H2) (fun c0 c1 c2 c3 c4 c5 c6 c7 c8 c9 c10 c11 c12 c13 c14 c15 c16 c17 => H2.mk c0 c1 c2 c3 c4 c5 c6 (f c7) c8 c9 c10 c11 c12 c13 c14 c15 c16 c17) t) (fun f t => H2.rec (motive := fun _ => H2) (fun c0 c1 c2 c3 c4 c5 c6 c7 c8 c9 c10 c11 c12 c13 c14 c15 c16 c17 => H2.mk c0 c1 c2 c3 c4 c5 c6 c7 (f c8) c9 c10 c11 c12 c13 c14 c15 c16 c17) t) (fun f t => H2.rec (motive := fun _ => H2) (fun c0 c1 c2 c3 c4 c5 c6 c7 c8 c9 c10 c11 c12 c13 c14 c15 c16 c17 => H2.mk c0 c1 c2 c3 c4 c5 c6 c7 c8 (f c9) c10 c11 c12 c13 c14 c15 c16 c17) t) (fun f t => H2.rec (motive := fun _ => H2) (fun c0 c1 c2 c3 c4 c5 c6 c7 c8 c9 c10 c11 c12 c13 c14 c15 c16 c17 => H2.mk c0 c1 c2 c3 c4 c5 c6 c7 c8 c9 (f c10) c11 c12 c13 c14 c15 c16 c17) t) (fun f t => H2.rec (motive := fun _ => H2) (fun c0 c1 c2 c3 c4 c5 c6 c7 c8 c9 c10 c11 c12 c13 c14 c15 c16 c17 => H2.mk c0 c1 c2 c3 c4 c5 c6 c7 c8 c9 c10 (f c11) c12 c13 c14 c15 c16 c17) t) (fun f t => H2.rec (motive := fun _ => H2) (fun c0 c1 c2 c3 c4 c5 c6 c7 c8 c9 c10 c11 c12 c13 c14 c15 c16 c17 => H2.mk c0 c1 c2 c3 c4 c5 c6 c7 c8 c9 c10 c11 (f c12) c13 c14 c15 c16 c17) t) (fun f t => H2.rec (motive := fun _ => H2) (fun c0 c1 c2 c3 c4 c5 c6 c7 c8 c9 c10 c11 c12 c13 c14 c15 c16 c17 => H2.mk c0 c1 c2 c3 c4 c5 c6 c7 c8 c9 c10 c11 c12 (f c13) c14 c15 c16 c17) t) (fun f t => H2.rec (motive := fun _ => H2) (fun c0 c1 c2 c3 c4 c5 c6 c7 c8 c9 c10 c11 c12 c13 c14 c15 c16 c17 => H2.mk c0 c1 c2 c3 c4 c5 c6 c7 c8 c9 c10 c11 c12 c13 (f c14) c15 c16 c17) t) (fun f t => H2.rec (motive := fun _ => H2) (fun c0 c1 c2 c3 c4 c5 c6 c7 c8 c9 c10 c11 c12 c13 c14 c15 c16 c17 => H2.mk c0 c1 c2 c3 c4 c5 c6 c7 c8 c9 c10 c11 c12 c13 c14 (f c15) c16 c17) t) (fun f t => H2.rec (motive := fun _ => H2) (fun c0 c1 c2 c3 c4 c5 c6 c7 c8 c9 c10 c11 c12 c13 c14 c15 c16 c17 => H2.mk c0 c1 c2 c3 c4 c5 c6 c7 c8 c9 c10 c11 c12 c13 c14 c15 (f c16) c17) t) (fun f t => H2.rec (motive := fun _ => H2) (fun c0 c1 c2 c3 c4 c5 c6 c7 c8 c9 c10 c11 c12 c13 c14 c15 c16 c17 => H2.mk c0 c1 c2 c3 c4 c5 c6 c7 c8 c9 c10 c11 c12 c13 c14 c15 c16 (f c17)) t) (fun _ t => t) d f t
noncomputable def H2.upK (d : Dg) (h : H1 → (H1 → Bool) → Bool) (k : H2 → Bool) (t : H2) : Bool := Dg.rec (motive := fun _ => (H1 → (H1 → Bool) → Bool) → (H2 → Bool) → H2 → Bool) (fun h k t => H2.rec (motive := fun _ => Bool) (fun c0 c1 c2 c3 c4 c5 c6 c7 c8 c9 c10 c11 c12 c13 c14 c15 c16 c17 => h c0 (fun x => k (H2.mk x c1 c2 c3 c4 c5 c6 c7 c8 c9 c10 c11 c12 c13 c14 c15 c16 c17))) t) (fun h k t => H2.rec (motive := fun _ => Bool) (fun c0 c1 c2 c3 c4 c5 c6 c7 c8 c9 c10 c11 c12 c13 c14 c15 c16 c17 => h c1 (fun x => k (H2.mk c0 x c2 c3 c4 c5 c6 c7 c8 c9 c10 c11 c12 c13 c14 c15 c16 c17))) t) (fun h k t => H2.rec (motive := fun _ => Bool) (fun c0 c1 c2 c3 c4 c5 c6 c7 c8 c9 c10 c11 c12 c13 c14 c15 c16 c17 => h c2 (fun x => k (H2.mk c0 c1 x c3 c4 c5 c6 c7 c8 c9 c10 c11 c12 c13 c14 c15 c16 c17))) t) (fun h k t => H2.rec (motive := fun _ => Bool) (fun c0 c1 c2 c3 c4 c5 c6 c7 c8 c9 c10 c11 c12 c13 c14 c15 c16 c17 => h c3 (fun x => k (H2.mk c0 c1 c2 x c4 c5 c6 c7 c8 c9 c10 c11 c12 c13 c14 c15 c16 c17))) t) (fun h k t => H2.rec (motive := fun _ => Bool) (fun c0 c1 c2 c3 c4 c5 c6 c7 c8 c9 c10 c11 c12 c13 c14 c15 c16 c17 => h c4 (fun x => k (H2.mk c0 c1 c2 c3 x c5 c6 c7 c8 c9 c10 c11 c12 c13 c14 c15 c16 c17))) t) (fun h k t => H2.rec (motive := fun _ => Bool) (fun c0 c1 c2 c3 c4 c5 c6 c7 c8 c9 c10 c11 c12 c13 c14 c15 c16 c17 => h c5 (fun x => k (H2.mk c0 c1 c2 c3 c4 x c6 c7 c8 c9 c10 c11 c12 c13 c14 c15 c16 c17))) t) (fun h k t => H2.rec (motive := fun _ => Bool) (fun c0 c1 c2 c3 c4 c5 c6 c7 c8 c9 c10 c11 c12 c13 c14 c15 c16 c17 => h c6 (fun x => k (H2.mk c0 c1 c2 c3 c4 c5 x c7 c8 c9 c10 c11 c12 c13 c14 c15 c16 c17))) t) (fun h k t => H2.rec (motive := fun _ => Bool) (fun c0 c1 c2 c3 c4 c5 c6 c7 c8 c9 c10 c11 c12 c13 c14 c15 c16 c17 => h c7 (fun x => k (H2.mk c0 c1 c2 c3 c4 c5 c6 x c8 c9 c10 c11 c12 c13 c14 c15 c16 c17))) t) (fun h k t => H2.rec (motive := fun _ => Bool) (fun c0 c1 c2 c3 c4 c5 c6 c7 c8 c9 c10 c11 c12 c13 c14 c15 c16 c17 => h c8 (fun x => k (H2.mk c0 c1 c2 c3 c4 c5 c6 c7 x c9 c10 c11 c12 c13 c14 c15 c16 c17))) t) (fun h k t => H2.rec (motive := fun _ => Bool) (fun c0 c1 c2 c3 c4 c5 c6 c7 c8 c9 c10 c11 c12 c13 c14 c15 c16 c17 => h c9 (fun x => k (H2.mk c0 c1 c2 c3 c4 c5 c6 c7 c8 x c10 c11 c12 c13 c14 c15 c16 c17))) t) (fun h k t => H2.rec (motive := fun _ => Bool) (fun c0 c1 c2 c3 c4 c5 c6 c7 c8 c9 c10 c11 c12 c13 c14 c15 c16 c17 => h c10 (fun x => k (H2.mk c0 c1 c2 c3 c4 c5 c6 c7 c8 c9 x c11 c12 c13 c14 c15 c16 c17))) t) (fun h k t => H2.rec (motive := fun _ => Bool) (fun c0 c1 c2 c3 c4 c5 c6 c7 c8 c9 c10 c11 c12 c13 c14 c15 c16 c17 => h c11 (fun x => k (H2.mk c0 c1 c2 c3 c4 c5 c6 c7 c8 c9 c10 x c12 c13 c14 c15 c16 c17))) t) (fun h k t => H2.rec (motive := fun _ => Bool) (fun c0 c1 c2 c3 c4 c5 c6 c7 c8 c9 c10 c11 c12 c13 c14 c15 c16 c17 => h c12 (fun x => k (H2.mk c0 c1 c2 c3 c4 c5 c6 c7 c8 c9 c10 c11 x c13 c14 c15 c16 c17))) t) (fun h k t => H2.rec (motive := fun _ => Bool) (fun c0 c1 c2 c3 c4 c5 c6 c7 c8 c9 c10 c11 c12 c13 c14 c15 c16 c17 => h c13 (fun x => k (H2.mk c0 c1 c2 c3 c4 c5 c6 c7 c8 c9 c10 c11 c12 x c14 c15 c16 c17))) t) (fun h k t => H2.rec (motive := fun _ => Bool) (fun c0 c1 c2 c3 c4 c5 c6 c7 c8 c9 c10 c11 c12 c13 c14 c15 c16 c17 => h c14 (fun x => k (H2.mk c0 c1 c2 c3 c4 c5 c6 c7 c8 c9 c10 c11 c12 c13 x c15 c16 c17))) t) (fun h k t => H2.rec (motive := fun _ => Bool) (fun c0 c1 c2 c3 c4 c5 c6 c7 c8 c9 c10 c11 c12 c13 c14 c15 c16 c17 => h c15 (fun x => k (H2.mk c0 c1 c2 c3 c4 c5 c6 c7 c8 c9 c10 c11 c12 c13 c14 x c16 c17))) t) (fun h k t => H2.rec (motive := fun _ => Bool) (fun c0 c1 c2 c3 c4 c5 c6 c7 c8 c9 c10 c11 c12 c13 c14 c15 c16 c17 => h c16 (fun x => k (H2.mk c0 c1 c2 c3 c4 c5 c6 c7 c8 c9 c10 c11 c12 c13 c14 c15 x c17))) t) (fun h k t => H2.rec (motive := fun _ => Bool) (fun c0 c1 c2 c3 c4 c5 c6 c7 c8 c9 c10 c11 c12 c13 c14 c15 c16 c17 => h c17 (fun x => k (H2.mk c0 c1 c2 c3 c4 c5 c6 c7 c8 c9 c10 c11 c12 c13 c14 c15 c16 x))) t) (fun _ _ _ => false) d h k t
theorem H2.get_same (e : H1) (d : Dg) (f : H1 → H1) (t : H2) (h : d ≠ .dx) : H2.sel e d (H2.up d f t) = f (H2.sel e d t) := by
  cases t
  cases d <;> first | rfl | exact absurd rfl h
theorem H2.get_ne (e : H1) (d d' : Dg) (f : H1 → H1) (t : H2) (h : d' ≠ d) : H2.sel e d' (H2.up d f t) = H2.sel e d' t := by
  cases t
  cases d <;> cases d' <;> first | rfl | exact absurd rfl h
theorem H2.get_all (e x : H1) (d : Dg) (h : d ≠ .dx) : H2.sel e d (H2.all x) = x := by cases d <;> first | rfl | exact absurd rfl h
theorem H2.upK_eq (d : Dg) (f : H1 → H1) (h : H1 → (H1 → Bool) → Bool) (k : H2 → Bool) (t : H2) (hd : d ≠ .dx) (hf : ∀ c k, h c k = k (f c)) : H2.upK d h k t = k (H2.up d f t) := by
  cases t
  cases d <;> first | exact hf _ _ | exact absurd rfl hd
inductive H3 | mk (c0 c1 c2 c3 c4 c5 c6 c7 c8 c9 c10 c11 c12 c13 c14 c15 c16 c17 : H2)
def H3.all (x : H2) : H3 := .mk x x x x x x x x x x x x x x x x x x
noncomputable def H3.sel (e : H2) (d : Dg) (t : H3) : H2 := Dg.rec (motive := fun _ => H3 → H2 → H2) (fun t _ => H3.rec (motive := fun _ => H2) (fun c0 c1 c2 c3 c4 c5 c6 c7 c8 c9 c10 c11 c12 c13 c14 c15 c16 c17 => c0) t) (fun t _ => H3.rec (motive := fun _ => H2) (fun c0 c1 c2 c3 c4 c5 c6 c7 c8 c9 c10 c11 c12 c13 c14 c15 c16 c17 => c1) t) (fun t _ => H3.rec (motive := fun _ => H2) (fun c0 c1 c2 c3 c4 c5 c6 c7 c8 c9 c10 c11 c12 c13 c14 c15 c16 c17 => c2) t) (fun t _ => H3.rec (motive := fun _ => H2) (fun c0 c1 c2 c3 c4 c5 c6 c7 c8 c9 c10 c11 c12 c13 c14 c15 c16 c17 => c3) t) (fun t _ => H3.rec (motive := fun _ => H2) (fun c0 c1 c2 c3 c4 c5 c6 c7 c8 c9 c10 c11 c12 c13 c14 c15 c16 c17 => c4) t) (fun t _ => H3.rec (motive := fun _ => H2) (fun c0 c1 c2 c3 c4 c5 c6 c7 c8 c9 c10 c11 c12 c13 c14 c15 c16 c17 => c5) t) (fun t _ => H3.rec (motive := fun _ => H2) (fun c0 c1 c2 c3 c4 c5 c6 c7 c8 c9 c10 c11 c12 c13 c14 c15 c16 c17 => c6) t) (fun t _ => H3.rec (motive := fun _ => H2) (fun c0 c1 c2 c3 c4 c5 c6 c7 c8 c9 c10 c11 c12 c13 c14 c15 c16 c17 => c7) t) (fun t _ => H3.rec (motive := fun _ => H2) (fun c0 c1 c2 c3 c4 c5 c6 c7 c8 c9 c10 c11 c12 c13 c14 c15 c16 c17 => c8) t) (fun t _ => H3.rec (motive := fun _ => H2) (fun c0 c1 c2 c3 c4 c5 c6 c7 c8 c9 c10 c11 c12 c13 c14 c15 c16 c17 => c9) t) (fun t _ => H3.rec (motive := fun _ => H2) (fun c0 c1 c2 c3 c4 c5 c6 c7 c8 c9 c10 c11 c12 c13 c14 c15 c16 c17 => c10) t) (fun t _ => H3.rec (motive := fun _ => H2) (fun c0 c1 c2 c3 c4 c5 c6 c7 c8 c9 c10 c11 c12 c13 c14 c15 c16 c17 => c11) t) (fun t _ => H3.rec (motive := fun _ => H2) (fun c0 c1 c2 c3 c4 c5 c6 c7 c8 c9 c10 c11 c12 c13 c14 c15 c16 c17 => c12) t) (fun t _ => H3.rec (motive := fun _ => H2) (fun c0 c1 c2 c3 c4 c5 c6 c7 c8 c9 c10 c11 c12 c13 c14 c15 c16 c17 => c13) t) (fun t _ => H3.rec (motive := fun _ => H2) (fun c0 c1 c2 c3 c4 c5 c6 c7 c8 c9 c10 c11 c12 c13 c14 c15 c16 c17 => c14) t) (fun t _ => H3.rec (motive := fun _ => H2) (fun c0 c1 c2 c3 c4 c5 c6 c7 c8 c9 c10 c11 c12 c13 c14 c15 c16 c17 => c15) t) (fun t _ => H3.rec (motive := fun _ => H2) (fun c0 c1 c2 c3 c4 c5 c6 c7 c8 c9 c10 c11 c12 c13 c14 c15 c16 c17 => c16) t) (fun t _ => H3.rec (motive := fun _ => H2) (fun c0 c1 c2 c3 c4 c5 c6 c7 c8 c9 c10 c11 c12 c13 c14 c15 c16 c17 => c17) t) (fun _ e => e) d t e
noncomputable def H3.up (d : Dg) (f : H2 → H2) (t : H3) : H3 := Dg.rec (motive := fun _ => (H2 → H2) → H3 → H3) (fun f t => H3.rec (motive := fun _ => H3) (fun c0 c1 c2 c3 c4 c5 c6 c7 c8 c9 c10 c11 c12 c13 c14 c15 c16 c17 => H3.mk (f c0) c1 c2 c3 c4 c5 c6 c7 c8 c9 c10 c11 c12 c13 c14 c15 c16 c17) t) (fun f t => H3.rec (motive := fun _ => H3) (fun c0 c1 c2 c3 c4 c5 c6 c7 c8 c9 c10 c11 c12 c13 c14 c15 c16 c17 => H3.mk c0 (f c1) c2 c3 c4 c5 c6 c7 c8 c9 c10 c11 c12 c13 c14 c15 c16 c17) t) (fun f t => H3.rec (motive := fun _ => H3) (fun c0 c1 c2 c3 c4 c5 c6 c7 c8 c9 c10 c11 c12 c13 c14 c15 c16 c17 => H3.mk c0 c1 (f c2) c3 c4 c5 c6 c7 c8 c9 c10 c11 c12 c13 c14 c15 c16 c17) t) (fun f t => H3.rec (motive := fun _ => H3) (fun c0 c1 c2 c3 c4 c5 c6 c7 c8 c9 c10 c11 c12 c13 c14 c15 c16 c17 => H3.mk c0 c1 c2 (f c3) c4 c5 c6 c7 c8 c9 c10 c11 c12 c13 c14 c15 c16 c17) t) (fun f t => H3.rec (motive := fun _ => H3) (fun c0 c1 c2 c3 c4 c5 c6 c7 c8 c9 c10 c11 c12 c13 c14 c15 c16 c17 => H3.mk c0 c1 c2 c3 (f c4) c5 c6 c7 c8 c9 c10 c11 c12 c13 c14 c15 c16 c17) t) (fun f t => H3.rec (motive := fun _ => H3) (fun c0 c1 c2 c3 c4 c5 c6 c7 c8 c9 c10 c11 c12 c13 c14 c15 c16 c17 => H3.mk c0 c1 c2 c3 c4 (f c5) c6 c7 c8 c9 c10 c11 c12 c13 c14 c15 c16 c17) t) (fun f t => H3.rec (motive := fun _ => H3) (fun c0 c1 c2 c3 c4 c5 c6 c7 c8 c9 c10 c11 c12 c13 c14 c15 c16 c17 => H3.mk c0 c1 c2 c3 c4 c5 (f c6) c7 c8 c9 c10 c11 c12 c13 c14 c15 c16 c17) t) (fun f t => H3.rec (motive := fun _ => H3) (fun c0 c1 c2 c3 c4 c5 c6 c7 c8 c9 c10 c11 c12 c13 c14 c15 c16 c17 => H3.mk c0 c1 c2 c3 c4 c5 c6 (f c7) c8 c9 c10 c11 c12 c13 c14 c15 c16 c17) t) (fun f t => H3.rec (motive := fun _ => H3) (fun c0 c1 c2 c3 c4 c5 c6 c7 c8 c9 c10 c11 c12 c13 c14 c15 c16 c17 => H3.mk c0 c1 c2 c3 c4 c5 c6 c7 (f c8) c9 c10 c11 c12 c13 c14 c15 c16 c17) t) (fun f t => H3.rec (motive := fun _ => H3) (fun c0 c1 c2 c3 c4 c5 c6 c7 c8 c9 c10 c11 c12 c13 c14 c15 c16 c17 => H3.mk c0 c1 c2 c3 c4 c5 c6 c7 c8 (f c9) c10 c11 c12 c13 c14 c15 c16 c17) t) (fun f t => H3.rec (motive := fun _ => H3) (fun c0 c1 c2 c3 c4 c5 c6 c7 c8 c9 c10 c11 c12 c13 c14 c15 c16 c17 => H3.mk c0 c1 c2 c3 c4 c5 c6 c7 c8 c9 (f c10) c11 c12 c13 c14 c15 c16 c17) t) (fun f t => H3.rec (motive := fun _ => H3) (fun c0 c1 c2 c3 c4 c5 c6 c7 c8 c9 c10 c11 c12 c13 c14 c15 c16 c17 => H3.mk c0 c1 c2 c3 c4 c5 c6 c7 c8 c9 c10 (f c11) c12 c13 c14 c15 c16 c17) t) (fun f t => H3.rec (motive := fun _ => H3) (fun c0 c1 c2 c3 c4 c5 c6 c7 c8 c9 c10 c11 c12 c13 c14 c15 c16 c17 => H3.mk c0 c1 c2 c3 c4 c5 c6 c7 c8 c9 c10 c11 (f c12) c13 c14 c15 c16 c17) t) (fun f t => H3.rec (motive := fun _ => H3) (fun c0 c1 c2 c3 c4 c5 c6 c7 c8 c9 c10 c11 c12 c13 c14 c15 c16 c17 => H3.mk c0 c1 c2 c3 c4 c5 c6 c7 c8 c9 c10 c11 c12 (f c13) c14 c15 c16 c17) t) (fun f t => H3.rec (motive := fun _ => H3) (fun c0 c1 c2 c3 c4 c5 c6 c7 c8 c9 c10 c11 c12 c13 c14 c15 c16 c17 => H3.mk c0 c1 c2 c3 c4 c5 c6 c7 c8 c9 c10 c11 c12 c13 (f c14) c15 c16 c17) t) (fun f t => H3.rec (motive := fun _ => H3) (fun c0 c1 c2 c3 c4 c5 c6 c7 c8 c9 c10 c11 c12 c13 c14 c15 c16 c17 => H3.mk c0 c1 c2 c3 c4 c5 c6 c7 c8 c9 c10 c11 c12 c13 c14 (f c15) c16 c17) t) (fun f t => H3.rec (motive := fun _ => H3) (fun c0 c1 c2 c3 c4 c5 c6 c7 c8 c9 c10 c11 c12 c13 c14 c15 c16 c17 => H3.mk c0 c1 c2 c3 c4 c5 c6 c7 c8 c9 c10 c11 c12 c13 c14 c15 (f c16) c17) t) (fun f t => H3.rec (motive := fun _ => H3) (fun c0 c1 c2 c3 c4 c5 c6 c7 c8 c9 c10 c11 c12 c13 c14 c15 c16 c17 => H3.mk c0 c1 c2 c3 c4 c5 c6 c7 c8 c9 c10 c11 c12 c13 c14 c15 c16 (f c17)) t) (fun _ t => t) d f t
noncomputable def H3.upK (d : Dg) (h : H2 → (H2 → Bool) → Bool) (k : H3 → Bool) (t : H3) : Bool := Dg.rec (motive := fun _ => (H2 → (H2 → Bool) → Bool) → (H3 → Bool) → H3 → Bool) (fun h k t => H3.rec (motive := fun _ => Bool) (fun c0 c1 c2 c3 c4 c5 c6 c7 c8 c9 c10 c11 c12 c13 c14 c15 c16 c17 => h c0 (fun x => k (H3.mk x c1 c2 c3 c4 c5 c6 c7 c8 c9 c10 c11 c12 c13 c14 c15 c16 c17))) t) (fun h k t => H3.rec (motive := fun _ => Bool) (fun c0 c1 c2 c3 c4 c5 c6 c7 c8 c9 c10 c11 c12 c13 c14 c15 c16 c17 => h c1 (fun x => k (H3.mk c0 x c2 c3 c4 c5 c6 c7 c8 c9 c10 c11 c12 c13 c14 c15 c16 c17))) t) (fun h k t => H3.rec (motive := fun _ => Bool) (fun c0 c1 c2 c3 c4 c5 c6 c7 c8 c9 c10 c11 c12 c13 c14 c15 c16 c17 => h c2 (fun x => k (H3.mk c0 c1 x c3 c4 c5 c6 c7 c8 c9 c10 c11 c12 c13 c14 c15 c16 c17))) t) (fun h k t => H3.rec (motive := fun _ => Bool) (fun c0 c1 c2 c3 c4 c5 c6 c7 c8 c9 c10 c11 c12 c13 c14 c15 c16 c17 => h c3 (fun x => k (H3.mk c0 c1 c2 x c4 c5 c6 c7 c8 c9 c10 c11 c12 c13 c14 c15 c16 c17))) t) (fun h k t => H3.rec (motive := fun _ => Bool) (fun c0 c1 c2 c3 c4 c5 c6 c7 c8 c9 c10 c11 c12 c13 c14 c15 c16 c17 => h c4 (fun x => k (H3.mk c0 c1 c2 c3 x c5 c6 c7 c8 c9 c10 c11 c12 c13 c14 c15 c16 c17))) t) (fun h k t => H3.rec (motive := fun _ => Bool) (fun c0 c1 c2 c3 c4 c5 c6 c7 c8 c9 c10 c11 c12 c13 c14 c15 c16 c17 => h c5 (fun x => k (H3.mk c0 c1 c2 c3 c4 x c6 c7 c8 c9 c10 c11 c12 c13 c14 c15 c16 c17))) t) (fun h k t => H3.rec (motive := fun _ => Bool) (fun c0 c1 c2 c3 c4 c5 c6 c7 c8 c9 c10 c11 c12 c13 c14 c15 c16 c17 => h c6 (fun x => k (H3.mk c0 c1 c2 c3 c4 c5 x c7 c8 c9 c10 c11 c12 c13 c14 c15 c16 c17))) t) (fun h k t => H3.rec (motive := fun _ => Bool) (fun c0 c1 c2 c3 c4 c5 c6 c7 c8 c9 c10 c11 c12 c13 c14 c15 c16 c17 => h c7 (fun x => k (H3.mk c0 c1 c2 c3 c4 c5 c6 x c8 c9 c10 c11 c12 c13 c14 c15 c16 c17))) t) (fun h k t => H3.rec (motive := fun _ => Bool) (fun c0 c1 c2 c3 c4 c5 c6 c7 c8 c9 c10 c11 c12 c13 c14 c15 c16 c17 => h c8 (fun x => k (H3.mk c0 c1 c2 c3 c4 c5 c6 c7 x c9 c10 c11 c12 c13 c14 c15 c16 c17))) t) (fun h k t => H3.rec (motive := fun _ => Bool) (fun c0 c1 c2 c3 c4 c5 c6 c7 c8 c9 c10 c11 c12 c13 c14 c15 c16 c17 => h c9 (fun x => k (H3.mk c0 c1 c2 c3 c4 c5 c6 c7 c8 x c10 c11 c12 c13 c14 c15 c16 c17))) t) (fun h k t => H3.rec (motive := fun _ => Bool) (fun c0 c1 c2 c3 c4 c5 c6 c7 c8 c9 c10 c11 c12 c13 c14 c15 c16 c17 => h c10 (fun x => k (H3.mk c0 c1 c2 c3 c4 c5 c6 c7 c8 c9 x c11 c12 c13 c14 c15 c16 c17))) t) (fun h k t => H3.rec (motive := fun _ => Bool) (fun c0 c1 c2 c3 c4 c5 c6 c7 c8 c9 c10 c11 c12 c13 c14 c15 c16 c17 => h c11 (fun x => k (H3.mk c0 c1 c2 c3 c4 c5 c6 c7 c8 c9 c10 x c12 c13 c14 c15 c16 c17))) t) (fun h k t => H3.rec (motive := fun _ => Bool) (fun c0 c1 c2 c3 c4 c5 c6 c7 c8 c9 c10 c11 c12 c13 c14 c15 c16 c17 => h c12 (fun x => k (H3.mk c0 c1 c2 c3 c4 c5 c6 c7 c8 c9 c10 c11 x c13 c14 c15 c16 c17))) t) (fun h k t => H3.rec (motive := fun _ => Bool) (fun c0 c1 c2 c3 c4 c5 c6 c7 c8 c9 c10 c11 c12 c13 c14 c15 c16 c17 => h c13 (fun x => k (H3.mk c0 c1 c2 c3 c4 c5 c6 c7 c8 c9 c10 c11 c12 x c14 c15 c16 c17))) t) (fun h k t => H3.rec (motive := fun _ => Bool) (fun c0 c1 c2 c3 c4 c5 c6 c7 c8 c9 c10 c11 c12 c13 c14 c15 c16 c17 => h c14 (fun x => k (H3.mk c0 c1 c2 c3 c4 c5 c6 c7 c8 c9 c10 c11 c12 c13 x c15 c16 c17))) t) (fun h k t => H3.rec (motive := fun _ => Bool) (fun c0 c1 c2 c3 c4 c5 c6 c7 c8 c9 c10 c11 c12 c13 c14 c15 c16 c17 => h c15 (fun x => k (H3.mk c0 c1 c2 c3 c4 c5 c6 c7 c8 c9 c10 c11 c12 c13 c14 x c16 c17))) t) (fun h k t => H3.rec (motive := fun _ => Bool) (fun c0 c1 c2 c3 c4 c5 c6 c7 c8 c9 c10 c11 c12 c13 c14 c15 c16 c17 => h c16 (fun x => k (H3.mk c0 c1 c2 c3 c4 c5 c6 c7 c8 c9 c10 c11 c12 c13 c14 c15 x c17))) t) (fun h k t => H3.rec (motive := fun _ => Bool) (fun c0 c1 c2 c3 c4 c5 c6 c7 c8 c9 c10 c11 c12 c13 c14 c15 c16 c17 => h c17 (fun x => k (H3.mk c0 c1 c2 c3 c4 c5 c6 c7 c8 c9 c10 c11 c12 c13 c14 c15 c16 x))) t) (fun _ _ _ => false) d h k t
theorem H3.get_same (e : H2) (d : Dg) (f : H2 → H2) (t : H3) (h : d ≠ .dx) : H3.sel e d (H3.up d f t) = f (H3.sel e d t) := by
  cases t
  cases d <;> first | rfl | exact absurd rfl h
theorem H3.get_ne (e : H2) (d d' : Dg) (f : H2 → H2) (t : H3) (h : d' ≠ d) : H3.sel e d' (H3.up d f t) = H3.sel e d' t := by
  cases t
  cases d <;> cases d' <;> first | rfl | exact absurd rfl h
theorem H3.get_all (e x : H2) (d : Dg) (h : d ≠ .dx) : H3.sel e d (H3.all x) = x := by cases d <;> first | rfl | exact absurd rfl h
theorem H3.upK_eq (d : Dg) (f : H2 → H2) (h : H2 → (H2 → Bool) → Bool) (k : H3 → Bool) (t : H3) (hd : d ≠ .dx) (hf : ∀ c k, h c k = k (f c)) : H3.upK d h k t = k (H3.up d f t) := by
  cases t
  cases d <;> first | exact hf _ _ | exact absurd rfl hd
inductive HT | mk (c0 c1 c2 c3 c4 c5 c6 c7 c8 c9 c10 c11 c12 c13 c14 c15 c16 c17 : H3)
def HT.all (x : H3) : HT := .mk x x x x x x x x x x x x x x x x x x
noncomputable def HT.sel (e : H3) (d : Dg) (t : HT) : H3 := Dg.rec (motive := fun _ => HT → H3 → H3) (fun t _ => HT.rec (motive := fun _ => H3) (fun c0 c1 c2 c3 c4 c5 c6 c7 c8 c9 c10 c11 c12 c13 c14 c15 c16 c17 => c0) t) (fun t _ => HT.rec (motive := fun _ => H3) (fun c0 c1 c2 c3 c4 c5 c6 c7 c8 c9 c10 c11 c12 c13 c14 c15 c16 c17 => c1) t) (fun t _ => HT.rec (motive := fun _ => H3) (fun c0 c1 c2 c3 c4 c5 c6 c7 c8 c9 c10 c11 c12 c13 c14 c15 c16 c17 => c2) t) (fun t _ => HT.rec (motive := fun _ => H3) (fun c0 c1 c2 c3 c4 c5 c6 c7 c8 c9 c10 c11 c12 c13 c14 c15 c16 c17 => c3) t) (fun t _ => HT.rec (motive := fun _ => H3) (fun c0 c1 c2 c3 c4 c5 c6 c7 c8 c9 c10 c11 c12 c13 c14 c15 c16 c17 => c4) t) (fun t _ => HT.rec (motive := fun _ => H3) (fun c0 c1 c2 c3 c4 c5 c6 c7 c8 c9 c10 c11 c12 c13 c14 c15 c16 c17 => c5) t) (fun t _ => HT.rec (motive := fun _ => H3) (fun c0 c1 c2 c3 c4 c5 c6 c7 c8 c9 c10 c11 c12 c13 c14 c15 c16 c17 => c6) t) (fun t _ => HT.rec (motive := fun _ => H3) (fun c0 c1 c2 c3 c4 c5 c6 c7 c8 c9 c10 c11 c12 c13 c14 c15 c16 c17 => c7) t) (fun t _ => HT.rec (motive := fun _ => H3) (fun c0 c1 c2 c3 c4 c5 c6 c7 c8 c9 c10 c11 c12 c13 c14 c15 c16 c17 => c8) t) (fun t _ => HT.rec (motive := fun _ => H3) (fun c0 c1 c2 c3 c4 c5 c6 c7 c8 c9 c10 c11 c12 c13 c14 c15 c16 c17 => c9) t) (fun t _ => HT.rec (motive := fun _ => H3) (fun c0 c1 c2 c3 c4 c5 c6 c7 c8 c9 c10 c11 c12 c13 c14 c15 c16 c17 => c10) t) (fun t _ => HT.rec (motive := fun _ => H3) (fun c0 c1 c2 c3 c4 c5 c6 c7 c8 c9 c10 c11 c12 c13 c14 c15 c16 c17 => c11) t) (fun t _ => HT.rec (motive := fun _ => H3) (fun c0 c1 c2 c3 c4 c5 c6 c7 c8 c9 c10 c11 c12 c13 c14 c15 c16 c17 => c12) t) (fun t _ => HT.rec (motive := fun _ => H3) (fun c0 c1 c2 c3 c4 c5 c6 c7 c8 c9 c10 c11 c12 c13 c14 c15 c16 c17 => c13) t) (fun t _ => HT.rec (motive := fun _ => H3) (fun c0 c1 c2 c3 c4 c5 c6 c7 c8 c9 c10 c11 c12 c13 c14 c15 c16 c17 => c14) t) (fun t _ => HT.rec (motive := fun _ => H3) (fun c0 c1 c2 c3 c4 c5 c6 c7 c8 c9 c10 c11 c12 c13 c14 c15 c16 c17 => c15) t) (fun t _ => HT.rec (motive := fun _ => H3) (fun c0 c1 c2 c3 c4 c5 c6 c7 c8 c9 c10 c11 c12 c13 c14 c15 c16 c17 => c16) t) (fun t _ => HT.rec (motive := fun _ => H3) (fun c0 c1 c2 c3 c4 c5 c6 c7 c8 c9 c10 c11 c12 c13 c14 c15 c16 c17 => c17) t) (fun _ e => e) d t e
noncomputable def HT.up (d : Dg) (f : H3 → H3) (t : HT) : HT := Dg.rec (motive := fun _ => (H3 → H3) → HT → HT) (fun f t => HT.rec (motive := fun _ => HT) (fun c0 c1 c2 c3 c4 c5 c6 c7 c8 c9 c10 c11 c12 c13 c14 c15 c16 c17 => HT.mk (f c0) c1 c2 c3 c4 c5 c6 c7 c8 c9 c10 c11 c12 c13 c14 c15 c16 c17) t) (fun f t => HT.rec (motive := fun _ => HT) (fun c0 c1 c2 c3 c4 c5 c6 c7 c8 c9 c10 c11 c12 c13 c14 c15 c16 c17 => HT.mk c0 (f c1) c2 c3 c4 c5 c6 c7 c8 c9 c10 c11 c12 c13 c14 c15 c16 c17) t) (fun f t => HT.rec (motive := fun _ => HT) (fun c0 c1 c2 c3 c4 c5 c6 c7 c8 c9 c10 c11 c12 c13 c14 c15 c16 c17 => HT.mk c0 c1 (f c2) c3 c4 c5 c6 c7 c8 c9 c10 c11 c12 c13 c14 c15 c16 c17) t) (fun f t => HT.rec (motive := fun _ => HT) (fun c0 c1 c2 c3 c4 c5 c6 c7 c8 c9 c10 c11 c12 c13 c14 c15 c16 c17 => HT.mk c0 c1 c2 (f c3) c4 c5 c6 c7 c8 c9 c10 c11 c12 c13 c14 c15 c16 c17) t) (fun f t => HT.rec (motive := fun _ => HT) (fun c0 c1 c2 c3 c4 c5 c6 c7 c8 c9 c10 c11 c12 c13 c14 c15 c16 c17 => HT.mk c0 c1 c2 c3 (f c4) c5 c6 c7 c8 c9 c10 c11 c12 c13 c14 c15 c16 c17) t) (fun f t => HT.rec (motive := fun _ => HT) (fun c0 c1 c2 c3 c4 c5 c6 c7 c8 c9 c10 c11 c12 c13 c14 c15 c16 c17 => HT.mk c0 c1 c2 c3 c4 (f c5) c6 c7 c8 c9 c10 c11 c12 c13 c14 c15 c16 c17) t) (fun f t => HT.rec (motive := fun _ => HT) (fun c0 c1 c2 c3 c4 c5 c6 c7 c8 c9 c10 c11 c12 c13 c14 c15 c16 c17 => HT.mk c0 c1 c2 c3 c4 c5 (f c6) c7 c8 c9 c10 c11 c12 c13 c14 c15 c16 c17) t) (fun f t => HT.rec (motive := fun _ => HT) (fun c0 c1 c2 c3 c4 c5 c6 c7 c8 c9 c10 c11 c12 c13 c14 c15 c16 c17 => HT.mk c0 c1 c2 c3 c4 c5 c6 (f c7) c8 c9 c10 c11 c12 c13 c14 c15 c16 c17) t) (fun f t => HT.rec (motive := fun _ => HT) (fun c0 c1 c2 c3 c4 c5 c6 c7 c8 c9 c10 c11 c12 c13 c14 c15 c16 c17 => HT.mk c0 c1 c2 c3 c4 c5 c6 c7 (f c8) c9 c10 c11 c12 c13 c14 c15 c16 c17) t) (fun f t => HT.rec (motive := fun _ => HT) (fun c0 c1 c2 c3 c4 c5 c6 c7 c8 c9 c10 c11 c12 c13 c14 c15 c16 c17 => HT.mk c0 c1 c2 c3 c4 c5 c6 c7 c8 (f c9) c10 c11 c12 c13 c14 c15 c16 c17) t) (fun f t => HT.rec (motive := fun _ => HT) (fun c0 c1 c2 c3 c4 c5 c6 c7 c8 c9 c10 c11 c12 c13 c14 c15 c16 c17 => HT.mk c0 c1 c2 c3 c4 c5 c6 c7 c8 c9 (f c10) c11 c12 c13 c14 c15 c16 c17) t) (fun f t => HT.rec (motive := fun _ => HT) (fun c0 c1 c2 c3 c4 c5 c6 c7 c8 c9 c10 c11 c12 c13 c14 c15 c16 c17 => HT.mk c0 c1 c2 c3 c4 c5 c6 c7 c8 c9 c10 (f c11) c12 c13 c14 c15 c16 c17) t) (fun f t => HT.rec (motive := fun _ => HT) (fun c0 c1 c2 c3 c4 c5 c6 c7 c8 c9 c10 c11 c12 c13 c14 c15 c16 c17 => HT.mk c0 c1 c2 c3 c4 c5 c6 c7 c8 c9 c10 c11 (f c12) c13 c14 c15 c16 c17) t) (fun f t => HT.rec (motive := fun _ => HT) (fun c0 c1 c2 c3 c4 c5 c6 c7 c8 c9 c10 c11 c12 c13 c14 c15 c16 c17 => HT.mk c0 c1 c2 c3 c4 c5 c6 c7 c8 c9 c10 c11 c12 (f c13) c14 c15 c16 c17) t) (fun f t => HT.rec (motive := fun _ => HT) (fun c0 c1 c2 c3 c4 c5 c6 c7 c8 c9 c10 c11 c12 c13 c14 c15 c16 c17 => HT.mk c0 c1 c2 c3 c4 c5 c6 c7 c8 c9 c10 c11 c12 c13 (f c14) c15 c16 c17) t) (fun f t => HT.rec (motive := fun _ => HT) (fun c0 c1 c2 c3 c4 c5 c6 c7 c8 c9 c10 c11 c12 c13 c14 c15 c16 c17 => HT.mk c0 c1 c2 c3 c4 c5 c6 c7 c8 c9 c10 c11 c12 c13 c14 (f c15) c16 c17) t) (fun f t => HT.rec (motive := fun _ => HT) (fun c0 c1 c2 c3 c4 c5 c6 c7 c8 c9 c10 c11 c12 c13 c14 c15 c16 c17 => HT.mk c0 c1 c2 c3 c4 c5 c6 c7 c8 c9 c10 c11 c12 c13 c14 c15 (f c16) c17) t) (fun f t => HT.rec (motive := fun _ => HT) (fun c0 c1 c2 c3 c4 c5 c6 c7 c8 c9 c10 c11 c12 c13 c14 c15 c16 c17 => HT.mk c0 c1 c2 c3 c4 c5 c6 c7 c8 c9 c10 c11 c12 c13 c14 c15 c16 (f c17)) t) (fun _ t => t) d f t
noncomputable def HT.upK (d : Dg) (h : H3 → (H3 → Bool) → Bool) (k : HT → Bool) (t : HT) : Bool := Dg.rec (motive := fun _ => (H3 → (H3 → Bool) → Bool) → (HT → Bool) → HT → Bool) (fun h k t => HT.rec (motive := fun _ => Bool) (fun c0 c1 c2 c3 c4 c5 c6 c7 c8 c9 c10 c11 c12 c13 c14 c15 c16 c17 => h c0 (fun x => k (HT.mk x c1 c2 c3 c4 c5 c6 c7 c8 c9 c10 c11 c12 c13 c14 c15 c16 c17))) t) (fun h k t => HT.rec (motive := fun _ => Bool) (fun c0 c1 c2 c3 c4 c5 c6 c7 c8 c9 c10 c11 c12 c13 c14 c15 c16 c17 => h c1 (fun x => k (HT.mk c0 x c2 c3 c4 c5 c6 c7 c8 c9 c10 c11 c12 c13 c14 c15 c16 c17))) t) (fun h k t => HT.rec (motive := fun _ => Bool) (fun c0 c1 c2 c3 c4 c5 c6 c7 c8 c9 c10 c11 c12 c13 c14 c15 c16 c17 => h c2 (fun x => k (HT.mk c0 c1 x c3 c4 c5 c6 c7 c8 c9 c10 c11 c12 c13 c14 c15 c16 c17))) t) (fun h k t => HT.rec (motive := fun _ => Bool) (fun c0 c1 c2 c3 c4 c5 c6 c7 c8 c9 c10 c11 c12 c13 c14 c15 c16 c17 => h c3 (fun x => k (HT.mk c0 c1 c2 x c4 c5 c6 c7 c8 c9 c10 c11 c12 c13 c14 c15 c16 c17))) t) (fun h k t => HT.rec (motive := fun _ => Bool) (fun c0 c1 c2 c3 c4 c5 c6 c7 c8 c9 c10 c11 c12 c13 c14 c15 c16 c17 => h c4 (fun x => k (HT.mk c0 c1 c2 c3 x c5 c6 c7 c8 c9 c10 c11 c12 c13 c14 c15 c16 c17))) t) (fun h k t => HT.rec (motive := fun _ => Bool) (fun c0 c1 c2 c3 c4 c5 c6 c7 c8 c9 c10 c11 c12 c13 c14 c15 c16 c17 => h c5 (fun x => k (HT.mk c0 c1 c2 c3 c4 x c6 c7 c8 c9 c10 c11 c12 c13 c14 c15 c16 c17))) t) (fun h k t => HT.rec (motive := fun _ => Bool) (fun c0 c1 c2 c3 c4 c5 c6 c7 c8 c9 c10 c11 c12 c13 c14 c15 c16 c17 => h c6 (fun x => k (HT.mk c0 c1 c2 c3 c4 c5 x c7 c8 c9 c10 c11 c12 c13 c14 c15 c16 c17))) t) (fun h k t => HT.rec (motive := fun _ => Bool) (fun c0 c1 c2 c3 c4 c5 c6 c7 c8 c9 c10 c11 c12 c13 c14 c15 c16 c17 => h c7 (fun x => k (HT.mk c0 c1 c2 c3 c4 c5 c6 x c8 c9 c10 c11 c12 c13 c14 c15 c16 c17))) t) (fun h k t => HT.rec (motive := fun _ => Bool) (fun c0 c1 c2 c3 c4 c5 c6 c7 c8 c9 c10 c11 c12 c13 c14 c15 c16 c17 => h c8 (fun x => k (HT.mk c0 c1 c2 c3 c4 c5 c6 c7 x c9 c10 c11 c12 c13 c14 c15 c16 c17))) t) (fun h k t => HT.rec (motive := fun _ => Bool) (fun c0 c1 c2 c3 c4 c5 c6 c7 c8 c9 c10 c11 c12 c13 c14 c15 c16 c17 => h c9 (fun x => k (HT.mk c0 c1 c2 c3 c4 c5 c6 c7 c8 x c10 c11 c12 c13 c14 c15 c16 c17))) t) (fun h k t => HT.rec (motive := fun _ => Bool) (fun c0 c1 c2 c3 c4 c5 c6 c7 c8 c9 c10 c11 c12 c13 c14 c15 c16 c17 => h c10 (fun x => k (HT.mk c0 c1 c2 c3 c4 c5 c6 c7 c8 c9 x c11 c12 c13 c14 c15 c16 c17))) t) (fun h k t => HT.rec (motive := fun _ => Bool) (fun c0 c1 c2 c3 c4 c5 c6 c7 c8 c9 c10 c11 c12 c13 c14 c15 c16 c17 => h c11 (fun x => k (HT.mk c0 c1 c2 c3 c4 c5 c6 c7 c8 c9 c10 x c12 c13 c14 c15 c16 c17))) t) (fun h k t => HT.rec (motive := fun _ => Bool) (fun c0 c1 c2 c3 c4 c5 c6 c7 c8 c9 c10 c11 c12 c13 c14 c15 c16 c17 => h c12 (fun x => k (HT.mk c0 c1 c2 c3 c4 c5 c6 c7 c8 c9 c10 c11 x c13 c14 c15 c16 c17))) t) (fun h k t => HT.rec (motive := fun _ => Bool) (fun c0 c1 c2 c3 c4 c5 c6 c7 c8 c9 c10 c11 c12 c13 c14 c15 c16 c17 => h c13 (fun x => k (HT.mk c0 c1 c2 c3 c4 c5 c6 c7 c8 c9 c10 c11 c12 x c14 c15 c16 c17))) t) (fun h k t => HT.rec (motive := fun _ => Bool) (fun c0 c1 c2 c3 c4 c5 c6 c7 c8 c9 c10 c11 c12 c13 c14 c15 c16 c17 => h c14 (fun x => k (HT.mk c0 c1 c2 c3 c4 c5 c6 c7 c8 c9 c10 c11 c12 c13 x c15 c16 c17))) t) (fun h k t => HT.rec (motive := fun _ => Bool) (fun c0 c1 c2 c3 c4 c5 c6 c7 c8 c9 c10 c11 c12 c13 c14 c15 c16 c17 => h c15 (fun x => k (HT.mk c0 c1 c2 c3 c4 c5 c6 c7 c8 c9 c10 c11 c12 c13 c14 x c16 c17))) t) (fun h k t => HT.rec (motive := fun _ => Bool) (fun c0 c1 c2 c3 c4 c5 c6 c7 c8 c9 c10 c11 c12 c13 c14 c15 c16 c17 => h c16 (fun x => k (HT.mk c0 c1 c2 c3 c4 c5 c6 c7 c8 c9 c10 c11 c12 c13 c14 c15 x c17))) t) (fun h k t => HT.rec (motive := fun _ => Bool) (fun c0 c1 c2 c3 c4 c5 c6 c7 c8 c9 c10 c11 c12 c13 c14 c15 c16 c17 => h c17 (fun x => k (HT.mk c0 c1 c2 c3 c4 c5 c6 c7 c8 c9 c10 c11 c12 c13 c14 c15 c16 x))) t) (fun _ _ _ => false) d h k t
theorem HT.get_same (e : H3) (d : Dg) (f : H3 → H3) (t : HT) (h : d ≠ .dx) : HT.sel e d (HT.up d f t) = f (HT.sel e d t) := by
  cases t
  cases d <;> first | rfl | exact absurd rfl h
theorem HT.get_ne (e : H3) (d d' : Dg) (f : H3 → H3) (t : HT) (h : d' ≠ d) : HT.sel e d' (HT.up d f t) = HT.sel e d' t := by
  cases t
  cases d <;> cases d' <;> first | rfl | exact absurd rfl h
theorem HT.get_all (e x : H3) (d : Dg) (h : d ≠ .dx) : HT.sel e d (HT.all x) = x := by cases d <;> first | rfl | exact absurd rfl h
theorem HT.upK_eq (d : Dg) (f : H3 → H3) (h : H3 → (H3 → Bool) → Bool) (k : HT → Bool) (t : HT) (hd : d ≠ .dx) (hf : ∀ c k, h c k = k (f c)) : HT.upK d h k t = k (HT.up d f t) := by
  cases t
  cases d <;> first | exact hf _ _ | exact absurd rfl hd
def H1.emp : H1 := H1.all none
def H2.emp : H2 := H2.all H1.emp
def H3.emp : H3 := H3.all H2.emp
def HT.lf : HT := HT.all H3.emp
noncomputable def HT.get (t : HT) (k : Nat) : Option AO := (H1.sel none (dgt (Nat.mod k 18)) (H2.sel H1.emp (dgt (Nat.mod (Nat.div k 18) 18)) (H3.sel H2.emp (dgt (Nat.mod (Nat.div k 324) 18)) (HT.sel H3.emp (dgo (Nat.div k 5832)) t))))
noncomputable def HT.put (t : HT) (k : Nat) (x : Option AO) : Option HT := Bool.rec (motive := fun _ => Option HT) none (some (HT.up (dgo (Nat.div k 5832)) (H3.up (dgt (Nat.mod (Nat.div k 324) 18)) (H2.up (dgt (Nat.mod (Nat.div k 18) 18)) (H1.up (dgt (Nat.mod k 18)) (fun _ => x)))) t)) (Nat.ble (Nat.succ k) 104976)
noncomputable def HT.putK (t : HT) (k : Nat) (x : Option AO) (K : HT → Bool) : Bool := HT.upK (dgo (Nat.div k 5832)) (fun c K => H3.upK (dgt (Nat.mod (Nat.div k 324) 18)) (fun c K => H2.upK (dgt (Nat.mod (Nat.div k 18) 18)) (fun c K => H1.upK (dgt (Nat.mod k 18)) (fun _ K => K x) K c) K c) K c) K t
theorem HT.get_lf (k : Nat) : HT.lf.get k = none := by
  unfold HT.get HT.lf
  have g : ∀ d, HT.sel H3.emp d (HT.all H3.emp) = H3.emp := fun d => by
    by_cases h : d = .dx
    · rw [h]; rfl
    · exact HT.get_all _ _ _ h
  rw [g]
  rw [show H3.emp = H3.all H2.emp from rfl, H3.get_all _ _ _ (dgt_ne _)]
  rw [show H2.emp = H2.all H1.emp from rfl, H2.get_all _ _ _ (dgt_ne _)]
  exact H1.get_all _ _ _ (dgt_ne _)
theorem HT.dig {a b : Nat} (h0 : a % 18 = b % 18) (h1 : a / 18 % 18 = b / 18 % 18) (h2 : a / 324 % 18 = b / 324 % 18) (ht : a / 5832 = b / 5832) : a = b := by omega
theorem HT.get_put {t t' : HT} {k : Nat} {x : Option AO} (h : t.put k x = some t') : ∀ j, t'.get j = if j = k then x else t.get j := by
  obtain ⟨hb, rfl⟩ := bool_some h
  have hk : k < 104976 := Nat.le_of_ble_eq_true hb
  intro j
  unfold HT.get
  have k1 : k / 5832 < 18 := by omega
  have hd : dgo (Nat.div k 5832) ≠ .dx := fun e => by have := dgo_dx.1 e; exact absurd (show 18 ≤ k / 5832 from this) (by omega)
  have ml : ∀ n : Nat, n % 18 < 18 := fun n => Nat.mod_lt _ (by decide)
  by_cases e3 : (dgo (Nat.div j 5832)) = (dgo (Nat.div k 5832))
  · have hj : j / 5832 < 18 := by
      by_cases c : j / 5832 < 18
      · exact c
      · exact absurd (e3 ▸ dgo_dx.2 (show 18 ≤ j / 5832 from by omega)) hd
    have hjk : j / 5832 = k / 5832 := by
      have e2 := e3
      rw [dgo_lt (show Nat.div j 5832 < 18 from hj), dgo_lt (show Nat.div k 5832 < 18 from k1)] at e2
      exact dgt_inj hj k1 e2
    rw [e3, HT.get_same _ _ _ _ hd]
    by_cases e2 : (dgt (Nat.mod (Nat.div j 324) 18)) = (dgt (Nat.mod (Nat.div k 324) 18))
    · rw [e2, H3.get_same _ _ _ _ (dgt_ne _)]
      by_cases e1 : (dgt (Nat.mod (Nat.div j 18) 18)) = (dgt (Nat.mod (Nat.div k 18) 18))
      · rw [e1, H2.get_same _ _ _ _ (dgt_ne _)]
        by_cases ejk : j = k
        · subst ejk; rw [if_pos rfl, H1.get_same _ _ _ _ (dgt_ne _)]
        · rw [if_neg ejk, H1.get_ne none (dgt (Nat.mod k 18)) (dgt (Nat.mod j 18)) _ _ (fun e0 => ejk (HT.dig (dgt_inj (ml _) (ml _) e0) (dgt_inj (ml _) (ml _) e1) (dgt_inj (ml _) (ml _) e2) hjk))]
      · rw [H2.get_ne _ _ _ _ _ e1, if_neg (fun ez => e1 (by rw [ez]))]
    · rw [H3.get_ne _ _ _ _ _ e2, if_neg (fun ez => e2 (by rw [ez]))]
  · rw [HT.get_ne _ _ _ _ _ e3, if_neg (fun ez => e3 (by rw [ez]))]
theorem HT.putK_eq (t : HT) (k : Nat) (x : Option AO) (K : HT → Bool) : t.putK k x K = (match t.put k x with | some t' => K t' | none => false) := by
  unfold HT.putK HT.put
  by_cases h : k < 104976
  · rw [Nat.ble_eq_true_of_le (show Nat.succ k ≤ 104976 from h)]
    refine HT.upK_eq _ _ _ _ _ (fun e => ?_) (fun c k => H3.upK_eq _ _ _ _ _ (dgt_ne _) (fun c k => H2.upK_eq _ _ _ _ _ (dgt_ne _) (fun c k => H1.upK_eq _ _ _ _ _ (dgt_ne _) (fun _ _ => rfl))))
    have := dgo_dx.1 e
    exact absurd (show 18 ≤ k / 5832 from this) (by omega)
  · have e : Nat.ble (Nat.succ k) 104976 = false := by
      cases e : Nat.ble (Nat.succ k) 104976 with
      | false => rfl
      | true => exact absurd (Nat.le_of_ble_eq_true e) h
    rw [e, show dgo (Nat.div k 5832) = .dx from dgo_dx.2 (show 18 ≤ k / 5832 from by omega)]
    rfl
noncomputable def TS.getF (t : TS) (k : Nat) : Option S := (Dg.rec (motive := fun _ => F1 → Option S → Option S) (fun t _ => F1.rec (motive := fun _ => Option S) (fun c0 c1 c2 c3 c4 c5 c6 c7 c8 c9 c10 c11 c12 c13 c14 c15 c16 c17 => c0) t) (fun t _ => F1.rec (motive := fun _ => Option S) (fun c0 c1 c2 c3 c4 c5 c6 c7 c8 c9 c10 c11 c12 c13 c14 c15 c16 c17 => c1) t) (fun t _ => F1.rec (motive := fun _ => Option S) (fun c0 c1 c2 c3 c4 c5 c6 c7 c8 c9 c10 c11 c12 c13 c14 c15 c16 c17 => c2) t) (fun t _ => F1.rec (motive := fun _ => Option S) (fun c0 c1 c2 c3 c4 c5 c6 c7 c8 c9 c10 c11 c12 c13 c14 c15 c16 c17 => c3) t) (fun t _ => F1.rec (motive := fun _ => Option S) (fun c0 c1 c2 c3 c4 c5 c6 c7 c8 c9 c10 c11 c12 c13 c14 c15 c16 c17 => c4) t) (fun t _ => F1.rec (motive := fun _ => Option S) (fun c0 c1 c2 c3 c4 c5 c6 c7 c8 c9 c10 c11 c12 c13 c14 c15 c16 c17 => c5) t) (fun t _ => F1.rec (motive := fun _ => Option S) (fun c0 c1 c2 c3 c4 c5 c6 c7 c8 c9 c10 c11 c12 c13 c14 c15 c16 c17 => c6) t) (fun t _ => F1.rec (motive := fun _ => Option S) (fun c0 c1 c2 c3 c4 c5 c6 c7 c8 c9 c10 c11 c12 c13 c14 c15 c16 c17 => c7) t) (fun t _ => F1.rec (motive := fun _ => Option S) (fun c0 c1 c2 c3 c4 c5 c6 c7 c8 c9 c10 c11 c12 c13 c14 c15 c16 c17 => c8) t) (fun t _ => F1.rec (motive := fun _ => Option S) (fun c0 c1 c2 c3 c4 c5 c6 c7 c8 c9 c10 c11 c12 c13 c14 c15 c16 c17 => c9) t) (fun t _ => F1.rec (motive := fun _ => Option S) (fun c0 c1 c2 c3 c4 c5 c6 c7 c8 c9 c10 c11 c12 c13 c14 c15 c16 c17 => c10) t) (fun t _ => F1.rec (motive := fun _ => Option S) (fun c0 c1 c2 c3 c4 c5 c6 c7 c8 c9 c10 c11 c12 c13 c14 c15 c16 c17 => c11) t) (fun t _ => F1.rec (motive := fun _ => Option S) (fun c0 c1 c2 c3 c4 c5 c6 c7 c8 c9 c10 c11 c12 c13 c14 c15 c16 c17 => c12) t) (fun t _ => F1.rec (motive := fun _ => Option S) (fun c0 c1 c2 c3 c4 c5 c6 c7 c8 c9 c10 c11 c12 c13 c14 c15 c16 c17 => c13) t) (fun t _ => F1.rec (motive := fun _ => Option S) (fun c0 c1 c2 c3 c4 c5 c6 c7 c8 c9 c10 c11 c12 c13 c14 c15 c16 c17 => c14) t) (fun t _ => F1.rec (motive := fun _ => Option S) (fun c0 c1 c2 c3 c4 c5 c6 c7 c8 c9 c10 c11 c12 c13 c14 c15 c16 c17 => c15) t) (fun t _ => F1.rec (motive := fun _ => Option S) (fun c0 c1 c2 c3 c4 c5 c6 c7 c8 c9 c10 c11 c12 c13 c14 c15 c16 c17 => c16) t) (fun t _ => F1.rec (motive := fun _ => Option S) (fun c0 c1 c2 c3 c4 c5 c6 c7 c8 c9 c10 c11 c12 c13 c14 c15 c16 c17 => c17) t) (fun _ e => e) (dgt (Nat.mod k 18)) (Dg.rec (motive := fun _ => TS → F1 → F1) (fun t _ => TS.rec (motive := fun _ => F1) (fun c0 c1 c2 c3 c4 c5 c6 c7 c8 c9 c10 c11 c12 c13 c14 c15 c16 c17 => c0) t) (fun t _ => TS.rec (motive := fun _ => F1) (fun c0 c1 c2 c3 c4 c5 c6 c7 c8 c9 c10 c11 c12 c13 c14 c15 c16 c17 => c1) t) (fun t _ => TS.rec (motive := fun _ => F1) (fun c0 c1 c2 c3 c4 c5 c6 c7 c8 c9 c10 c11 c12 c13 c14 c15 c16 c17 => c2) t) (fun t _ => TS.rec (motive := fun _ => F1) (fun c0 c1 c2 c3 c4 c5 c6 c7 c8 c9 c10 c11 c12 c13 c14 c15 c16 c17 => c3) t) (fun t _ => TS.rec (motive := fun _ => F1) (fun c0 c1 c2 c3 c4 c5 c6 c7 c8 c9 c10 c11 c12 c13 c14 c15 c16 c17 => c4) t) (fun t _ => TS.rec (motive := fun _ => F1) (fun c0 c1 c2 c3 c4 c5 c6 c7 c8 c9 c10 c11 c12 c13 c14 c15 c16 c17 => c5) t) (fun t _ => TS.rec (motive := fun _ => F1) (fun c0 c1 c2 c3 c4 c5 c6 c7 c8 c9 c10 c11 c12 c13 c14 c15 c16 c17 => c6) t) (fun t _ => TS.rec (motive := fun _ => F1) (fun c0 c1 c2 c3 c4 c5 c6 c7 c8 c9 c10 c11 c12 c13 c14 c15 c16 c17 => c7) t) (fun t _ => TS.rec (motive := fun _ => F1) (fun c0 c1 c2 c3 c4 c5 c6 c7 c8 c9 c10 c11 c12 c13 c14 c15 c16 c17 => c8) t) (fun t _ => TS.rec (motive := fun _ => F1) (fun c0 c1 c2 c3 c4 c5 c6 c7 c8 c9 c10 c11 c12 c13 c14 c15 c16 c17 => c9) t) (fun t _ => TS.rec (motive := fun _ => F1) (fun c0 c1 c2 c3 c4 c5 c6 c7 c8 c9 c10 c11 c12 c13 c14 c15 c16 c17 => c10) t) (fun t _ => TS.rec (motive := fun _ => F1) (fun c0 c1 c2 c3 c4 c5 c6 c7 c8 c9 c10 c11 c12 c13 c14 c15 c16 c17 => c11) t) (fun t _ => TS.rec (motive := fun _ => F1) (fun c0 c1 c2 c3 c4 c5 c6 c7 c8 c9 c10 c11 c12 c13 c14 c15 c16 c17 => c12) t) (fun t _ => TS.rec (motive := fun _ => F1) (fun c0 c1 c2 c3 c4 c5 c6 c7 c8 c9 c10 c11 c12 c13 c14 c15 c16 c17 => c13) t) (fun t _ => TS.rec (motive := fun _ => F1) (fun c0 c1 c2 c3 c4 c5 c6 c7 c8 c9 c10 c11 c12 c13 c14 c15 c16 c17 => c14) t) (fun t _ => TS.rec (motive := fun _ => F1) (fun c0 c1 c2 c3 c4 c5 c6 c7 c8 c9 c10 c11 c12 c13 c14 c15 c16 c17 => c15) t) (fun t _ => TS.rec (motive := fun _ => F1) (fun c0 c1 c2 c3 c4 c5 c6 c7 c8 c9 c10 c11 c12 c13 c14 c15 c16 c17 => c16) t) (fun t _ => TS.rec (motive := fun _ => F1) (fun c0 c1 c2 c3 c4 c5 c6 c7 c8 c9 c10 c11 c12 c13 c14 c15 c16 c17 => c17) t) (fun _ e => e) (dgo (Nat.div k 18)) t F1.emp) none)
theorem TS.getF_eq (t : TS) (k : Nat) : TS.getF t k = TS.get t k := rfl
noncomputable def TS.putF (t : TS) (k : Nat) (s : S) (K : TS → Bool) : Bool := (Dg.rec (motive := fun _ => (F1 → (F1 → Bool) → Bool) → (TS → Bool) → TS → Bool) (fun h k t => TS.rec (motive := fun _ => Bool) (fun c0 c1 c2 c3 c4 c5 c6 c7 c8 c9 c10 c11 c12 c13 c14 c15 c16 c17 => h c0 (fun x => k (TS.mk x c1 c2 c3 c4 c5 c6 c7 c8 c9 c10 c11 c12 c13 c14 c15 c16 c17))) t) (fun h k t => TS.rec (motive := fun _ => Bool) (fun c0 c1 c2 c3 c4 c5 c6 c7 c8 c9 c10 c11 c12 c13 c14 c15 c16 c17 => h c1 (fun x => k (TS.mk c0 x c2 c3 c4 c5 c6 c7 c8 c9 c10 c11 c12 c13 c14 c15 c16 c17))) t) (fun h k t => TS.rec (motive := fun _ => Bool) (fun c0 c1 c2 c3 c4 c5 c6 c7 c8 c9 c10 c11 c12 c13 c14 c15 c16 c17 => h c2 (fun x => k (TS.mk c0 c1 x c3 c4 c5 c6 c7 c8 c9 c10 c11 c12 c13 c14 c15 c16 c17))) t) (fun h k t => TS.rec (motive := fun _ => Bool) (fun c0 c1 c2 c3 c4 c5 c6 c7 c8 c9 c10 c11 c12 c13 c14 c15 c16 c17 => h c3 (fun x => k (TS.mk c0 c1 c2 x c4 c5 c6 c7 c8 c9 c10 c11 c12 c13 c14 c15 c16 c17))) t) (fun h k t => TS.rec (motive := fun _ => Bool) (fun c0 c1 c2 c3 c4 c5 c6 c7 c8 c9 c10 c11 c12 c13 c14 c15 c16 c17 => h c4 (fun x => k (TS.mk c0 c1 c2 c3 x c5 c6 c7 c8 c9 c10 c11 c12 c13 c14 c15 c16 c17))) t) (fun h k t => TS.rec (motive := fun _ => Bool) (fun c0 c1 c2 c3 c4 c5 c6 c7 c8 c9 c10 c11 c12 c13 c14 c15 c16 c17 => h c5 (fun x => k (TS.mk c0 c1 c2 c3 c4 x c6 c7 c8 c9 c10 c11 c12 c13 c14 c15 c16 c17))) t) (fun h k t => TS.rec (motive := fun _ => Bool) (fun c0 c1 c2 c3 c4 c5 c6 c7 c8 c9 c10 c11 c12 c13 c14 c15 c16 c17 => h c6 (fun x => k (TS.mk c0 c1 c2 c3 c4 c5 x c7 c8 c9 c10 c11 c12 c13 c14 c15 c16 c17))) t) (fun h k t => TS.rec (motive := fun _ => Bool) (fun c0 c1 c2 c3 c4 c5 c6 c7 c8 c9 c10 c11 c12 c13 c14 c15 c16 c17 => h c7 (fun x => k (TS.mk c0 c1 c2 c3 c4 c5 c6 x c8 c9 c10 c11 c12 c13 c14 c15 c16 c17))) t) (fun h k t => TS.rec (motive := fun _ => Bool) (fun c0 c1 c2 c3 c4 c5 c6 c7 c8 c9 c10 c11 c12 c13 c14 c15 c16 c17 => h c8 (fun x => k (TS.mk c0 c1 c2 c3 c4 c5 c6 c7 x c9 c10 c11 c12 c13 c14 c15 c16 c17))) t) (fun h k t => TS.rec (motive := fun _ => Bool) (fun c0 c1 c2 c3 c4 c5 c6 c7 c8 c9 c10 c11 c12 c13 c14 c15 c16 c17 => h c9 (fun x => k (TS.mk c0 c1 c2 c3 c4 c5 c6 c7 c8 x c10 c11 c12 c13 c14 c15 c16 c17))) t) (fun h k t => TS.rec (motive := fun _ => Bool) (fun c0 c1 c2 c3 c4 c5 c6 c7 c8 c9 c10 c11 c12 c13 c14 c15 c16 c17 => h c10 (fun x => k (TS.mk c0 c1 c2 c3 c4 c5 c6 c7 c8 c9 x c11 c12 c13 c14 c15 c16 c17))) t) (fun h k t => TS.rec (motive := fun _ => Bool) (fun c0 c1 c2 c3 c4 c5 c6 c7 c8 c9 c10 c11 c12 c13 c14 c15 c16 c17 => h c11 (fun x => k (TS.mk c0 c1 c2 c3 c4 c5 c6 c7 c8 c9 c10 x c12 c13 c14 c15 c16 c17))) t) (fun h k t => TS.rec (motive := fun _ => Bool) (fun c0 c1 c2 c3 c4 c5 c6 c7 c8 c9 c10 c11 c12 c13 c14 c15 c16 c17 => h c12 (fun x => k (TS.mk c0 c1 c2 c3 c4 c5 c6 c7 c8 c9 c10 c11 x c13 c14 c15 c16 c17))) t) (fun h k t => TS.rec (motive := fun _ => Bool) (fun c0 c1 c2 c3 c4 c5 c6 c7 c8 c9 c10 c11 c12 c13 c14 c15 c16 c17 => h c13 (fun x => k (TS.mk c0 c1 c2 c3 c4 c5 c6 c7 c8 c9 c10 c11 c12 x c14 c15 c16 c17))) t) (fun h k t => TS.rec (motive := fun _ => Bool) (fun c0 c1 c2 c3 c4 c5 c6 c7 c8 c9 c10 c11 c12 c13 c14 c15 c16 c17 => h c14 (fun x => k (TS.mk c0 c1 c2 c3 c4 c5 c6 c7 c8 c9 c10 c11 c12 c13 x c15 c16 c17))) t) (fun h k t => TS.rec (motive := fun _ => Bool) (fun c0 c1 c2 c3 c4 c5 c6 c7 c8 c9 c10 c11 c12 c13 c14 c15 c16 c17 => h c15 (fun x => k (TS.mk c0 c1 c2 c3 c4 c5 c6 c7 c8 c9 c10 c11 c12 c13 c14 x c16 c17))) t) (fun h k t => TS.rec (motive := fun _ => Bool) (fun c0 c1 c2 c3 c4 c5 c6 c7 c8 c9 c10 c11 c12 c13 c14 c15 c16 c17 => h c16 (fun x => k (TS.mk c0 c1 c2 c3 c4 c5 c6 c7 c8 c9 c10 c11 c12 c13 c14 c15 x c17))) t) (fun h k t => TS.rec (motive := fun _ => Bool) (fun c0 c1 c2 c3 c4 c5 c6 c7 c8 c9 c10 c11 c12 c13 c14 c15 c16 c17 => h c17 (fun x => k (TS.mk c0 c1 c2 c3 c4 c5 c6 c7 c8 c9 c10 c11 c12 c13 c14 c15 c16 x))) t) (fun _ _ _ => false) (dgo (Nat.div k 18)) (fun c K => (Dg.rec (motive := fun _ => ((Option S) → ((Option S) → Bool) → Bool) → (F1 → Bool) → F1 → Bool) (fun h k t => F1.rec (motive := fun _ => Bool) (fun c0 c1 c2 c3 c4 c5 c6 c7 c8 c9 c10 c11 c12 c13 c14 c15 c16 c17 => h c0 (fun x => k (F1.mk x c1 c2 c3 c4 c5 c6 c7 c8 c9 c10 c11 c12 c13 c14 c15 c16 c17))) t) (fun h k t => F1.rec (motive := fun _ => Bool) (fun c0 c1 c2 c3 c4 c5 c6 c7 c8 c9 c10 c11 c12 c13 c14 c15 c16 c17 => h c1 (fun x => k (F1.mk c0 x c2 c3 c4 c5 c6 c7 c8 c9 c10 c11 c12 c13 c14 c15 c16 c17))) t) (fun h k t => F1.rec (motive := fun _ => Bool) (fun c0 c1 c2 c3 c4 c5 c6 c7 c8 c9 c10 c11 c12 c13 c14 c15 c16 c17 => h c2 (fun x => k (F1.mk c0 c1 x c3 c4 c5 c6 c7 c8 c9 c10 c11 c12 c13 c14 c15 c16 c17))) t) (fun h k t => F1.rec (motive := fun _ => Bool) (fun c0 c1 c2 c3 c4 c5 c6 c7 c8 c9 c10 c11 c12 c13 c14 c15 c16 c17 => h c3 (fun x => k (F1.mk c0 c1 c2 x c4 c5 c6 c7 c8 c9 c10 c11 c12 c13 c14 c15 c16 c17))) t) (fun h k t => F1.rec (motive := fun _ => Bool) (fun c0 c1 c2 c3 c4 c5 c6 c7 c8 c9 c10 c11 c12 c13 c14 c15 c16 c17 => h c4 (fun x => k (F1.mk c0 c1 c2 c3 x c5 c6 c7 c8 c9 c10 c11 c12 c13 c14 c15 c16 c17))) t) (fun h k t => F1.rec (motive := fun _ => Bool) (fun c0 c1 c2 c3 c4 c5 c6 c7 c8 c9 c10 c11 c12 c13 c14 c15 c16 c17 => h c5 (fun x => k (F1.mk c0 c1 c2 c3 c4 x c6 c7 c8 c9 c10 c11 c12 c13 c14 c15 c16 c17))) t) (fun h k t => F1.rec (motive := fun _ => Bool) (fun c0 c1 c2 c3 c4 c5 c6 c7 c8 c9 c10 c11 c12 c13 c14 c15 c16 c17 => h c6 (fun x => k (F1.mk c0 c1 c2 c3 c4 c5 x c7 c8 c9 c10 c11 c12 c13 c14 c15 c16 c17))) t) (fun h k t => F1.rec (motive := fun _ => Bool) (fun c0 c1 c2 c3 c4 c5 c6 c7 c8 c9 c10 c11 c12 c13 c14 c15 c16 c17 => h c7 (fun x => k (F1.mk c0 c1 c2 c3 c4 c5 c6 x c8 c9 c10 c11 c12 c13 c14 c15 c16 c17))) t) (fun h k t => F1.rec (motive := fun _ => Bool) (fun c0 c1 c2 c3 c4 c5 c6 c7 c8 c9 c10 c11 c12 c13 c14 c15 c16 c17 => h c8 (fun x => k (F1.mk c0 c1 c2 c3 c4 c5 c6 c7 x c9 c10 c11 c12 c13 c14 c15 c16 c17))) t) (fun h k t => F1.rec (motive := fun _ => Bool) (fun c0 c1 c2 c3 c4 c5 c6 c7 c8 c9 c10 c11 c12 c13 c14 c15 c16 c17 => h c9 (fun x => k (F1.mk c0 c1 c2 c3 c4 c5 c6 c7 c8 x c10 c11 c12 c13 c14 c15 c16 c17))) t) (fun h k t => F1.rec (motive := fun _ => Bool) (fun c0 c1 c2 c3 c4 c5 c6 c7 c8 c9 c10 c11 c12 c13 c14 c15 c16 c17 => h c10 (fun x => k (F1.mk c0 c1 c2 c3 c4 c5 c6 c7 c8 c9 x c11 c12 c13 c14 c15 c16 c17))) t) (fun h k t => F1.rec (motive := fun _ => Bool) (fun c0 c1 c2 c3 c4 c5 c6 c7 c8 c9 c10 c11 c12 c13 c14 c15 c16 c17 => h c11 (fun x => k (F1.mk c0 c1 c2 c3 c4 c5 c6 c7 c8 c9 c10 x c12 c13 c14 c15 c16 c17))) t) (fun h k t => F1.rec (motive := fun _ => Bool) (fun c0 c1 c2 c3 c4 c5 c6 c7 c8 c9 c10 c11 c12 c13 c14 c15 c16 c17 => h c12 (fun x => k (F1.mk c0 c1 c2 c3 c4 c5 c6 c7 c8 c9 c10 c11 x c13 c14 c15 c16 c17))) t) (fun h k t => F1.rec (motive := fun _ => Bool) (fun c0 c1 c2 c3 c4 c5 c6 c7 c8 c9 c10 c11 c12 c13 c14 c15 c16 c17 => h c13 (fun x => k (F1.mk c0 c1 c2 c3 c4 c5 c6 c7 c8 c9 c10 c11 c12 x c14 c15 c16 c17))) t) (fun h k t => F1.rec (motive := fun _ => Bool) (fun c0 c1 c2 c3 c4 c5 c6 c7 c8 c9 c10 c11 c12 c13 c14 c15 c16 c17 => h c14 (fun x => k (F1.mk c0 c1 c2 c3 c4 c5 c6 c7 c8 c9 c10 c11 c12 c13 x c15 c16 c17))) t) (fun h k t => F1.rec (motive := fun _ => Bool) (fun c0 c1 c2 c3 c4 c5 c6 c7 c8 c9 c10 c11 c12 c13 c14 c15 c16 c17 => h c15 (fun x => k (F1.mk c0 c1 c2 c3 c4 c5 c6 c7 c8 c9 c10 c11 c12 c13 c14 x c16 c17))) t) (fun h k t => F1.rec (motive := fun _ => Bool) (fun c0 c1 c2 c3 c4 c5 c6 c7 c8 c9 c10 c11 c12 c13 c14 c15 c16 c17 => h c16 (fun x => k (F1.mk c0 c1 c2 c3 c4 c5 c6 c7 c8 c9 c10 c11 c12 c13 c14 c15 x c17))) t) (fun h k t => F1.rec (motive := fun _ => Bool) (fun c0 c1 c2 c3 c4 c5 c6 c7 c8 c9 c10 c11 c12 c13 c14 c15 c16 c17 => h c17 (fun x => k (F1.mk c0 c1 c2 c3 c4 c5 c6 c7 c8 c9 c10 c11 c12 c13 c14 c15 c16 x))) t) (fun _ _ _ => false) (dgt (Nat.mod k 18)) (fun _ K => K (some s)) K c)) K t)
theorem TS.putF_eq (t : TS) (k : Nat) (s : S) (K : TS → Bool) : TS.putF t k s K = TS.putK t k (some s) K := rfl
/-! ### A number as a literal -/
noncomputable def forceN (y : Nat) (k : Nat → Bool) : Bool := Nat.rec (motive := fun _ => (Nat → Bool) → Bool) (fun k => k y) (fun m _ k => k m) (Nat.add y 1) k
theorem forceN_eq (y : Nat) (k : Nat → Bool) : forceN y k = k y := rfl
end Go.Proofs.YtcmlgmiomcegeaaGreat.Ev
namespace Go.Proofs.YtcmlgmiomcegeaaGreat.Ev
open Go Go.RowKit Go.Maps
set_option linter.unusedVariables false
set_option linter.unusedSimpArgs false
set_option linter.unusedSectionVars false
variable [Env]

noncomputable def hg (t : HT) : Heap := fun i => HT.get t i
noncomputable def Ef.apT (n : Nat) (t : HT) : Ef → Option HT
  | .no _ => some t
  | .new _ o => HT.put t n (some o)
  | .set _ i o => HT.put t i (some o)
  | .mv _ i o => match HT.put t i none with
    | some t1 => HT.put t1 n (some o)
    | none => none
theorem apT_ok {n : Nat} {t t' : HT} {e : Ef} (h : e.apT n t = some t') : hg t' = e.ap n (hg t) := by
  funext j
  cases e with
  | no F => simp only [Ef.apT, Option.some.injEq] at h; subst h; rfl
  | new F o => simp only [Ef.apT] at h; unfold hg; rw [HT.get_put h]; rfl
  | set F i o => simp only [Ef.apT] at h; unfold hg; rw [HT.get_put h]; rfl
  | mv F i o =>
    simp only [Ef.apT] at h
    split at h
    · rename_i t1 h1
      unfold hg; rw [HT.get_put h, HT.get_put h1]; rfl
    · cases h
/-- The written ones, as a mask. -/
noncomputable def Ef.Wm : Ef → Nat | .no _ => 0 | .new _ _ => 0 | .set _ i _ => one i | .mv _ i _ => one i
noncomputable def Ef.chk (n : Nat) (t : HT) : Ef → Bool
  | .no _ => true | .new _ _ => true
  | .set F i _ => (hg t i).isSome && tb F i && decide (i < n)
  | .mv F i _ => (hg t i).isSome && tb F i && decide (i < n)

/-! ### One operation -/
noncomputable def aop (P : Program) (H : Heap) (n : Nat) (A : Operand → Option S) (o : Oper) : Option (S × Ef) := match o.op with
  | .move x => (A x).map fun s => (s, .no 0)
  | .assign x => (A x).map fun s => (s, .no 0)
  | .pick c x y => aPick A c x y
  | .alloc t => aAlloc P n t
  | .box t x => (S.v? (A x)).map fun v => (.v (.c (.ptr n 0)), .new 0 ⟨t, v.cells, false, .ok⟩)
  | .build t parts => aBuild P A t parts
  | .buildSlice t len parts => aBs P A n t len parts
  | .load t x => aLoad P H A t x
  | .store t x y => aStore P H A t x y
  | .nilCheck x => aNil A x
  | .binOp op t x y _ => aBin2 P A op t x y
  | .unOp op _ x => aUn A op x
  | .convert s d x => aConv P H A n s d x
  | .makeFunc fn a b => aMf A fn a b
  | .makeSlice t l c => aMake P A n t l c
  | .slice t x lo hi mx => match aSl P A t x lo hi mx with
    | some r => some r
    | none => aSl2 P H A t x lo hi mx
  | .fieldAddr t x f => aFa P A t x f
  | .field t x f => aField P A t x f
  | .indexAddr t x y => aIa P A t x y
  | .index t x y => aIx P A t x y
  | .extract x i => aExt A x i
  | .makeMap t r => aMm n t r
  | .makeChan t x => aMc P A n t x
  | .lookup t x y ok => aLk P H A t x y ok
  | .mapUpdate t x y z => aMu P H A t x y z
  | .mapEntry t x y => aMe P H A t x y
  | .entryStore t x y z => aEs H A x y z
  | .range t x => aRange P H A n t x
  | .next x str => aNext H A x str
  | .entry x => aEntry H A x
  | .call c => match c.callee, c.args.toList, c.argTypes.toList with
    | .builtin .len, [x], [t] => match aLen P A t x with
      | some r => some r
      | none => aLenM P H A t x
    | .builtin .max, [x, y], _ => aMax A x y
    | .builtin .delete, [x, y], [t, t2] => aDel P H A t x y
    | .builtin .cap, [x], [t] => aCap P A t x
    | .builtin .min, [x, y], _ => aMin A x y
    | .builtin .copy, [d, x], [t, _] => aCopy P H A t d x
    | .builtin .clear, [x], [t] => aClear P H A t x
    | .builtin .append, [s, x], [t, t2] => aApp P H A n t t2 s x
    | _, _, _ => none
  | _ => none
section
variable {P : Program} {ρ : Operand → Value} {o : Oper} {σ : Nat → Blk} {D : Nat → Prop} {w : World} {H : Heap} {n : Nat} {A : Operand → Option S}
theorem aop_ok {s : S} {e : Ef} (h : aop P H n A o = some (s, e)) (hA : Eqv σ D A ρ) (hD : n < e.n' n → ¬ D n) (hs : Sat σ D (rst (tb e.F) H) w) : AOK P ρ o σ D w H n s e := by
  unfold aop at h
  split at h
  · rename_i x ho
    rw [Option.map_eq_some_iff] at h
    obtain ⟨s', h1, h2⟩ := h
    cases h2; exact move_ok ho hA h1 hs
  · rename_i x ho
    rw [Option.map_eq_some_iff] at h
    obtain ⟨s', h1, h2⟩ := h
    cases h2; exact assign_ok ho hA h1 hs
  · rename_i ho; exact pick_ok ho hA h hs
  · rename_i ho; exact alloc_ok ho hD h hs
  · rename_i t x ho
    rw [Option.map_eq_some_iff] at h
    obtain ⟨s', h1, h2⟩ := h
    cases h2; exact box_ok ho hA (hD (Nat.lt_succ_self n)) h1 hs
  · rename_i ho; exact build_ok ho hA h hs
  · rename_i ho; exact bs_ok ho hA hD h hs
  · rename_i ho; exact load_ok ho hA h hs
  · rename_i ho; exact store_ok ho hA h hs
  · rename_i ho; exact nil_ok ho hA h hs
  · rename_i ho; exact bin2_ok ho hA h hs
  · rename_i ho; exact un_ok ho hA h hs
  · rename_i ho; exact conv_ok ho hA hD h hs
  · rename_i ho; exact mf_ok ho hA h hs
  · rename_i ho; exact make_ok ho hA hD h hs
  · rename_i t x lo hi mx ho
    split at h
    · rename_i r hr
      cases h; exact sl_ok ho hA hr hs
    · exact sl2_ok ho hA h hs
  · rename_i ho; exact fa_ok ho hA h hs
  · rename_i ho; exact field_ok ho hA h hs
  · rename_i ho; exact ia_ok ho hA h hs
  · rename_i ho; exact ix_ok ho hA h hs
  · rename_i ho; exact ext_ok ho hA h hs
  · rename_i ho; exact mm_ok ho hD h hs
  · rename_i ho; exact mc_ok ho hA hD h hs
  · rename_i ho; exact lk_ok ho hA h hs
  · rename_i ho; exact mu_ok ho hA h hs
  · rename_i ho; exact me_ok ho hA h hs
  · rename_i ho; exact es_ok ho hA h hs
  · rename_i ho; exact range_ok ho hA hD h hs
  · rename_i ho; exact next_ok ho hA h hs
  · rename_i ho; exact entry_ok ho hA h hs
  · rename_i c ho
    have mk : ∀ {b : Builtin} {l : List Operand} {m : List TypeId}, c.callee = .builtin b → c.args.toList = l → c.argTypes.toList = m → o.op = .call { callee := .builtin b, args := l.toArray, argTypes := m.toArray } := fun h1 h2 h3 => by
      rw [ho]
      cases c
      simp only at h1 h2 h3
      subst h1; subst h2; subst h3
      simp
    split at h
    · rename_i x t h1 h2 h3
      split at h
      · rename_i r hr
        cases h; exact len_ok (mk h1 h2 h3) hA hr hs
      · exact lenM_ok (mk h1 h2 h3) hA h hs
    · rename_i x y h1 h2; exact max_ok (mk h1 h2 rfl) hA h hs
    · rename_i x y t t2 h1 h2 h3; exact del_ok (mk h1 h2 h3) hA h hs
    · rename_i x t h1 h2 h3; exact cap_ok (mk h1 h2 h3) hA h hs
    · rename_i x y h1 h2; exact min_ok (mk h1 h2 rfl) hA h hs
    · rename_i d x t t2 h1 h2 h3; exact copy_ok (mk h1 h2 h3) hA h hs
    · rename_i x t h1 h2 h3; exact clear_ok (mk h1 h2 h3) hA h hs
    · rename_i s x t t2 h1 h2 h3; exact app_ok (mk h1 h2 h3) hA hD h hs
    · cases h
  · cases h
end

/-! ### One behind the other -/
/-- What an abstract step may not do. -/
structure Inv (H H' : Heap) (n n' F W : Nat) : Prop where
  le : n ≤ n'
  low : ∀ i, i < n → tb W i = false → H' i = H i
  dom : (∀ i, n ≤ i → H i = none) → ∀ i, n' ≤ i → H' i = none
  sub : ∀ i, i < n → tb W i = true → tb F i = true
theorem tb_0 {i : Nat} : tb 0 i = false := by simp [tb]
theorem tb_one_ne {i j : Nat} (h : j ≠ i) : tb (one i) j = false := by
  unfold tb one
  rw [Nat.testBit_two_pow]
  simp; omega
theorem Ef.W_eq (e : Ef) : e.W = tb e.Wm := by
  funext j
  cases e with
  | no F => rw [Ef.Wm, tb_0]; rfl
  | new F o => rw [Ef.Wm, tb_0]; rfl
  | set F i o =>
    by_cases h : j = i
    · subst h; rw [Ef.Wm, tb_one]; simp [Ef.W]
    · rw [Ef.Wm, tb_one_ne h]; simp [Ef.W, h]
  | mv F i o =>
    by_cases h : j = i
    · subst h; rw [Ef.Wm, tb_one]; simp [Ef.W]
    · rw [Ef.Wm, tb_one_ne h]; simp [Ef.W, h]
theorem inv_ef {n : Nat} {t : HT} {e : Ef} (hc : e.chk n t = true) : Inv (hg t) (e.ap n (hg t)) n (e.n' n) e.F e.Wm := by
  cases e with
  | no F => exact ⟨Nat.le_refl _, fun _ _ _ => rfl, fun h => h, fun i _ h => by rw [Ef.Wm, tb_0] at h; cases h⟩
  | new F o => exact ⟨Nat.le_succ _, fun i hi _ => by simp [Ef.ap, Nat.ne_of_lt hi], fun h i hi => by
      have hn : i ≠ n := by simp only [Ef.n'] at hi; omega
      simp only [Ef.ap, if_neg hn]; exact h i (by simp only [Ef.n'] at hi; omega), fun i _ h => by rw [Ef.Wm, tb_0] at h; cases h⟩
  | set F k o =>
    simp only [Ef.chk, Bool.and_eq_true, decide_eq_true_eq] at hc
    obtain ⟨⟨h1, h2⟩, h3⟩ := hc
    refine ⟨Nat.le_refl _, fun i hi hw => ?_, fun h i hi => ?_, fun i _ h => ?_⟩
    · have : i ≠ k := fun e => by subst e; rw [Ef.Wm, tb_one] at hw; cases hw
      simp [Ef.ap, this]
    · have : i ≠ k := by simp only [Ef.n'] at hi; omega
      simp only [Ef.ap, if_neg this]; exact h i hi
    · by_cases e : i = k
      · subst e; exact h2
      · rw [Ef.Wm, tb_one_ne e] at h; cases h
  | mv F k o =>
    simp only [Ef.chk, Bool.and_eq_true, decide_eq_true_eq] at hc
    obtain ⟨⟨h1, h2⟩, h3⟩ := hc
    refine ⟨Nat.le_succ _, fun i hi hw => ?_, fun h i hi => ?_, fun i _ h => ?_⟩
    · have : i ≠ k := fun e => by subst e; rw [Ef.Wm, tb_one] at hw; cases hw
      simp [Ef.ap, this, Nat.ne_of_lt hi]
    · have h4 : i ≠ k := by simp only [Ef.n'] at hi; omega
      have h5 : i ≠ n := by simp only [Ef.n'] at hi; omega
      simp only [Ef.ap, if_neg h5, if_neg h4]; exact h i (by simp only [Ef.n'] at hi; omega)
    · by_cases e : i = k
      · subst e; exact h2
      · rw [Ef.Wm, tb_one_ne e] at h; cases h
theorem Inv.seq {H H1 H2 : Heap} {n n1 n2 F1 F2 W1 W2 : Nat} (a : Inv H H1 n n1 F1 W1) (b : Inv H1 H2 n1 n2 F2 W2) : Inv H H2 n n2 (F1 ||| F2) (W1 ||| W2) :=
  ⟨Nat.le_trans a.le b.le, fun i hi hw => by
    rw [tb_or, Bool.or_eq_false_iff] at hw
    rw [b.low i (Nat.lt_of_lt_of_le hi a.le) hw.2, a.low i hi hw.1], fun h => b.dom (a.dom h), fun i hi hw => by
    rw [tb_or] at hw ⊢
    cases h1 : tb W1 i with
    | true => rw [a.sub i hi h1]; rfl
    | false =>
      rw [h1, Bool.false_or] at hw
      rw [b.sub i (Nat.lt_of_lt_of_le hi a.le) hw, Bool.or_true]⟩
theorem Inv.refl (H : Heap) (n : Nat) : Inv H H n n 0 0 := ⟨Nat.le_refl _, fun _ _ _ => rfl, fun h => h, fun i _ h => by rw [tb_0] at h; cases h⟩
theorem more_more {D : Nat → Prop} {n n1 n2 : Nat} (h1 : n ≤ n1) (h2 : n1 ≤ n2) : more (more D n n1) n1 n2 = more D n n2 := by
  funext i
  apply propext
  unfold more
  constructor
  · rintro ((h | ⟨a, b⟩) | ⟨a, b⟩)
    · exact .inl h
    · exact .inr ⟨a, by omega⟩
    · exact .inr ⟨by omega, b⟩
  · rintro (h | ⟨a, b⟩)
    · exact .inl (.inl h)
    · by_cases c : i < n1
      · exact .inl (.inr ⟨a, c⟩)
      · exact .inr ⟨by omega, b⟩
theorem Sat.sub {σ : Nat → Blk} {D : Nat → Prop} {h g : Heap} {w : World} (hs : Sat σ D h w) (hg : ∀ i o, g i = some o → h i = some o) : Sat σ D g w :=
  ⟨fun i o e => hs.obj i o (hg i o e), fun i j hi hj e => by
    obtain ⟨x, hx⟩ := Option.isSome_iff_exists.1 hi
    obtain ⟨y, hy⟩ := Option.isSome_iff_exists.1 hj
    exact hs.inj i j (some_of (hg i x hx)) (some_of (hg j y hy)) e⟩
theorem Out.trans {σ σ1 σ2 : Nat → Blk} {D : Nat → Prop} {w w1 w2 : World} {h h1 h2 : Heap} {n n1 n2 : Nat} {W1 W2 : Nat → Bool} (hs : Sat σ D h w) (hD : ∀ i, n ≤ i → i < n2 → ¬ D i) (l1 : n ≤ n1) (l2 : n1 ≤ n2)
    (a : Out σ D w h h1 n n1 W1 σ1 w1) (b : Out σ1 (more D n n1) w1 h1 h2 n1 n2 W2 σ2 w2) : Out σ D w h h2 n n2 (fun i => W1 i || W2 i) σ2 w2 := by
  have hne : ∀ i, (h i).isSome = true → ¬ (n ≤ i ∧ i < n2) := fun i hh ⟨x, y⟩ => by
    obtain ⟨o, ho⟩ := Option.isSome_iff_exists.1 hh
    exact hD i x y (hs.obj i o ho).1
  have dead : ∀ j, (h j).isSome = true → h1 j = none → h2 j = none := fun j hj e => by
    cases e2 : h2 j with
    | none => rfl
    | some x =>
      have := b.old j (fun ⟨p, q⟩ => hne j hj ⟨by omega, q⟩) (some_of e2)
      rw [e] at this; cases this
  -- a block of an object that is alive behind the first piece
  have place : ∀ j, (h1 j).isSome = true → (w.heap.size ≤ (σ1 j).b ∧ (n ≤ j ∧ j < n1)) ∨ (∃ i, W1 i = true ∧ (h i).isSome = true ∧ h1 i = none ∧ (σ1 j).b = (σ i).b) ∨ (¬ (n ≤ j ∧ j < n1) ∧ (h j).isSome = true ∧ σ1 j = σ j) := fun j hj => by
    by_cases c : n ≤ j ∧ j < n1
    · rcases a.new j c.1 c.2 hj with g | ⟨i, g1, g2, g3, g4⟩
      · exact .inl ⟨g, c⟩
      · exact .inr (.inl ⟨i, g1, g2, g3, g4⟩)
    · exact .inr (.inr ⟨c, a.old j c hj, a.same j c⟩)
  refine ⟨fun i hi => ?_, ?_, ?_, fun i hi hh => ?_, fun i hi hi2 hh => ?_⟩
  · rw [b.same i (fun ⟨p, q⟩ => hi ⟨by omega, q⟩), a.same i (fun ⟨p, q⟩ => hi ⟨p, by omega⟩)]
  · have := b.sat
    rwa [more_more l1 l2] at this
  · refine (a.tch.mono (G := fun k => ∃ i, (W1 i || W2 i) = true ∧ (h i).isSome = true ∧ k = (σ i).b) (fun k _ ⟨i, g1, g2, g3⟩ => ⟨i, by rw [g1]; rfl, g2, g3⟩)).trans b.tch (fun k hk ⟨i, g1, g2, g3⟩ => ?_)
    rcases place i g2 with ⟨c, _⟩ | ⟨j, c1, c2, c3, c4⟩ | ⟨c1, c2, c3⟩
    · omega
    · exact ⟨j, by rw [c1]; rfl, c2, by rw [g3, c4]⟩
    · exact ⟨i, by rw [g1, Bool.or_true], c2, by rw [g3, c3]⟩
  · exact a.old i (fun ⟨p, q⟩ => hi ⟨p, by omega⟩) (b.old i (fun ⟨p, q⟩ => hi ⟨by omega, q⟩) hh)
  · by_cases c : n1 ≤ i
    · rcases b.new i c hi2 hh with g | ⟨j, g1, g2, g3, g4⟩
      · exact .inl (Nat.le_trans a.tch.size g)
      · rcases place j g2 with ⟨c, _⟩ | ⟨j', c1, c2, c3, c4⟩ | ⟨c1, c2, c3⟩
        · exact .inl (by rw [g4]; exact c)
        · exact .inr ⟨j', by rw [c1]; rfl, c2, dead j' c2 c3, by rw [g4, c4]⟩
        · exact .inr ⟨j, by rw [g1, Bool.or_true], c2, g3, by rw [g4, c3]⟩
    · have hn : ¬ (n1 ≤ i ∧ i < n2) := fun ⟨p, _⟩ => c p
      rcases a.new i hi (by omega) (b.old i hn hh) with g | ⟨j, g1, g2, g3, g4⟩
      · exact .inl (by rw [b.same i hn]; exact g)
      · exact .inr ⟨j, by rw [g1]; rfl, g2, dead j g2 g3, by rw [b.same i hn]; exact g4⟩
/-- Two pieces, each with what it looks at. -/
theorem out_seq {σ σ1 σ2 : Nat → Blk} {D : Nat → Prop} {w w1 w2 : World} {H H1 H2 : Heap} {n n1 n2 F1 F2 W1 W2 F : Nat} (hF1 : ∀ i, tb F1 i = true → tb F i = true) (hF2 : ∀ i, tb F2 i = true → tb F i = true) (hdom : ∀ i, n ≤ i → H i = none)
    (i1 : Inv H H1 n n1 F1 W1) (i2 : Inv H1 H2 n1 n2 F2 W2) (hs : Sat σ D (rst (tb F) H) w) (hD : ∀ i, n ≤ i → i < n2 → ¬ D i)
    (a : Out σ D w (rst (tb F1) H) (aft (tb F1) n n1 H1) n n1 (tb W1) σ1 w1) :
    Sat σ1 (more D n n1) (rst (tb F2) H1) w1 ∧ Sat σ1 (more D n n1) (aft (tb F) n n1 H1) w1 ∧ (Out σ1 (more D n n1) w1 (rst (tb F2) H1) (aft (tb F2) n1 n2 H2) n1 n2 (tb W2) σ2 w2 → Out σ D w (rst (tb F) H) (aft (tb F) n n2 H2) n n2 (fun i => tb W1 i || tb W2 i) σ2 w2) := by
  have e1 : upd (tb F1) n n1 (rst (tb F) H) (aft (tb F1) n n1 H1) = aft (tb F) n n1 H1 := by
    funext i
    unfold upd aft rst
    by_cases c : tb F1 i = true ∨ (n ≤ i ∧ i < n1)
    · have c2 : (tb F1 i || (decide (n ≤ i) && decide (i < n1))) = true := by simpa using c
      rw [if_pos c2, if_pos c, if_pos (c.imp (hF1 i) id)]
    · have c2 : ¬ ((tb F1 i || (decide (n ≤ i) && decide (i < n1))) = true) := by simpa using c
      rw [if_neg c2]
      by_cases d : tb F i = true
      · rw [if_pos d, if_pos (.inl d)]
        have cF : tb F1 i = false := by cases e : tb F1 i with | false => rfl | true => exact absurd (.inl e) c
        by_cases lt : i < n
        · refine (i1.low i lt ?_).symm
          cases e : tb W1 i with
          | false => rfl
          | true => have := i1.sub i lt e; rw [cF] at this; cases this
        · have : ¬ i < n1 := fun h => c (.inr ⟨by omega, h⟩)
          rw [hdom i (by omega), i1.dom hdom i (by omega)]
      · rw [if_neg d, if_neg (fun h => h.elim d (fun h => c (.inr h)))]
  have hW1 : ∀ i, tb W1 i = true → (rst (tb F1) H i).isSome = true → tb F1 i = true := fun i _ h => by
    obtain ⟨x, hx⟩ := Option.isSome_iff_exists.1 h
    exact (rst_some.1 hx).1
  have a' : Out σ D w (rst (tb F) H) (aft (tb F) n n1 H1) n n1 (fun i => tb W1 i && tb F1 i) σ1 w1 := by
    rw [← e1]
    refine frame hs (g := rst (tb F1) H) (F := tb F1) (fun i hi => ?_) (fun i hi => ?_) (fun i h1 h2 => hD i h1 (Nat.lt_of_lt_of_le h2 i2.le)) ?_ (fun i h => by simp at h; exact h.2)
    · unfold rst; rw [if_pos hi, if_pos (hF1 i hi)]
    · unfold rst; rw [if_neg (by rw [hi]; simp)]
    · refine ⟨a.same, a.sat, a.tch.mono (fun k _ ⟨i, g1, g2, g3⟩ => ⟨i, by rw [g1, hW1 i g1 g2]; rfl, g2, g3⟩), a.old, fun i h1 h2 h3 => ?_⟩
      rcases a.new i h1 h2 h3 with g | ⟨j, g1, g2, g3, g4⟩
      · exact .inl g
      · exact .inr ⟨j, by rw [g1, hW1 j g1 g2]; rfl, g2, g3, g4⟩
  have s1 : Sat σ1 (more D n n1) (aft (tb F) n n1 H1) w1 := a'.sat
  refine ⟨s1.sub (fun i o e => ?_), s1, fun b => ?_⟩
  · obtain ⟨g1, g2⟩ := rst_some.1 e
    exact aft_some.2 ⟨.inl (hF2 i g1), g2⟩
  · have e2 : upd (tb F2) n1 n2 (aft (tb F) n n1 H1) (aft (tb F2) n1 n2 H2) = aft (tb F) n n2 H2 := by
      funext i
      unfold upd aft
      by_cases c : tb F2 i = true ∨ (n1 ≤ i ∧ i < n2)
      · have c2 : (tb F2 i || (decide (n1 ≤ i) && decide (i < n2))) = true := by simpa using c
        rw [if_pos c2, if_pos c, if_pos (c.imp (hF2 i) (fun ⟨p, q⟩ => ⟨Nat.le_trans i1.le p, q⟩))]
      · have c2 : ¬ ((tb F2 i || (decide (n1 ≤ i) && decide (i < n2))) = true) := by simpa using c
        rw [if_neg c2]
        have cF : tb F2 i = false := by cases e : tb F2 i with | false => rfl | true => exact absurd (.inl e) c
        have same : H1 i = H2 i := by
          by_cases lt : i < n1
          · refine (i2.low i lt ?_).symm
            cases e : tb W2 i with
            | false => rfl
            | true => have := i2.sub i lt e; rw [cF] at this; cases this
          · have : ¬ i < n2 := fun h => c (.inr ⟨by omega, h⟩)
            rw [i1.dom hdom i (by omega), i2.dom (i1.dom hdom) i (by omega)]
        by_cases d : tb F i = true ∨ (n ≤ i ∧ i < n1)
        · rw [if_pos d, if_pos (d.imp id (fun ⟨p, q⟩ => ⟨p, Nat.lt_of_lt_of_le q i2.le⟩)), same]
        · rw [if_neg d]
          by_cases d2 : tb F i = true ∨ (n ≤ i ∧ i < n2)
          · exfalso
            rcases d2 with d2 | ⟨p, q⟩
            · exact d (.inl d2)
            · by_cases lt : i < n1
              · exact d (.inr ⟨p, lt⟩)
              · exact c (.inr ⟨by omega, q⟩)
          · rw [if_neg d2]
    have hW2 : ∀ i, tb W2 i = true → (rst (tb F2) H1 i).isSome = true → tb F2 i = true := fun i _ h => by
      obtain ⟨x, hx⟩ := Option.isSome_iff_exists.1 h
      exact (rst_some.1 hx).1
    have hD2 : ∀ i, n1 ≤ i → i < n2 → ¬ more D n n1 i := fun i p q h => h.elim (hD i (Nat.le_trans i1.le p) q) (fun ⟨_, r⟩ => by omega)
    have b' : Out σ1 (more D n n1) w1 (aft (tb F) n n1 H1) (aft (tb F) n n2 H2) n1 n2 (fun i => tb W2 i && tb F2 i) σ2 w2 := by
      rw [← e2]
      refine frame s1 (g := rst (tb F2) H1) (F := tb F2) (fun i hi => ?_) (fun i hi => ?_) hD2 ?_ (fun i h => by simp at h; exact h.2)
      · unfold rst aft; rw [if_pos hi, if_pos (.inl (hF2 i hi))]
      · unfold rst; rw [if_neg (by rw [hi]; simp)]
      · refine ⟨b.same, b.sat, b.tch.mono (fun k _ ⟨i, g1, g2, g3⟩ => ⟨i, by rw [g1, hW2 i g1 g2]; rfl, g2, g3⟩), b.old, fun i h1 h2 h3 => ?_⟩
        rcases b.new i h1 h2 h3 with g | ⟨j, g1, g2, g3, g4⟩
        · exact .inl g
        · exact .inr ⟨j, by rw [g1, hW2 j g1 g2]; rfl, g2, g3, g4⟩
    have t := Out.trans hs hD i1.le i2.le a' b'
    have wk : ∀ i, ((tb W1 i && tb F1 i) || (tb W2 i && tb F2 i)) = true → (tb W1 i || tb W2 i) = true := fun i h => by
      cases h1 : tb W1 i <;> cases h2 : tb W2 i <;> simp_all
    exact ⟨t.same, t.sat, t.tch.mono (fun k _ ⟨i, g1, g2, g3⟩ => ⟨i, wk i g1, g2, g3⟩), t.old, fun i h1 h2 h3 => (t.new i h1 h2 h3).imp id (fun ⟨j, g1, g2, g3, g4⟩ => ⟨j, wk j g1, g2, g3, g4⟩)⟩
end Go.Proofs.YtcmlgmiomcegeaaGreat.Ev
namespace Go.Proofs.YtcmlgmiomcegeaaGreat.Ev
open Go Go.RowKit Go.Maps
set_option linter.unusedVariables false
set_option linter.unusedSimpArgs false
set_option linter.unusedSectionVars false
variable [Env]

/-! ### An operation looks at its operands alone -/
theorem absP_congr {A A' : Operand → Option S} : ∀ {l : List (Nat × Operand)}, (∀ x ∈ l.map (·.2), A x = A' x) → absP A l = absP A' l
  | [], _ => rfl
  | (i, x) :: l, h => by
    simp only [absP]
    rw [h x (by simp), absP_congr (fun y hy => h y (by simp at hy ⊢; exact .inr hy))]
theorem capsOf_congr {A A' : Operand → Option S} : ∀ {l : List Operand}, (∀ x ∈ l, A x = A' x) → capsOf A l = capsOf A' l
  | [], _ => rfl
  | x :: l, h => by
    simp only [capsOf]
    rw [h x (by simp), capsOf_congr (fun y hy => h y (List.mem_cons_of_mem _ hy))]
theorem low_congr {A A' : Operand → Option S} {lo : Option Operand} (h : ∀ x, lo = some x → A x = A' x) : lowOf A lo = lowOf A' lo := by
  cases lo with
  | none => rfl
  | some x => simp only [lowOf]; rw [h x rfl]
theorem high_congr {A A' : Operand → Option S} {len : Nat} {lo : Option Operand} (h : ∀ x, lo = some x → A x = A' x) : highOf A len lo = highOf A' len lo := by
  cases lo with
  | none => rfl
  | some x => simp only [highOf]; rw [h x rfl]
theorem aop_congr {P : Program} {H : Heap} {n : Nat} {A A' : Operand → Option S} {o : Oper} (h : ∀ x ∈ o.op.operands, A x = A' x) : aop P H n A o = aop P H n A' o := by
  unfold aop
  generalize o.op = p at h
  cases p with
  | call c =>
    have hc : ∀ x ∈ c.args.toList, A x = A' x := fun x hx => h x (by simp only [Op.operands, Call.operands]; rw [Array.mem_append]; exact .inr (by simpa using hx))
    simp only
    split
    · rename_i x t h1 h2 h3; unfold aLen aLenM; rw [hc x (by rw [h2]; simp)]
    · rename_i x y h1 h2; unfold aMax; rw [hc x (by rw [h2]; simp), hc y (by rw [h2]; simp)]
    · rename_i x y t t2 h1 h2 h3; unfold aDel; rw [hc x (by rw [h2]; simp), hc y (by rw [h2]; simp)]
    · rename_i x t h1 h2 h3; unfold aCap; rw [hc x (by rw [h2]; simp)]
    · rename_i x y h1 h2; unfold aMin; rw [hc x (by rw [h2]; simp), hc y (by rw [h2]; simp)]
    · rename_i d x t t2 h1 h2 h3; unfold aCopy; rw [hc x (by rw [h2]; simp), hc d (by rw [h2]; simp)]
    · rename_i x t h1 h2 h3; unfold aClear; rw [hc x (by rw [h2]; simp)]
    · rename_i s x t t2 h1 h2 h3; unfold aApp; rw [hc x (by rw [h2]; simp), hc s (by rw [h2]; simp)]
    · rfl
  | build t parts => simp only [aBuild]; rw [absP_congr (fun x hx => h x (by simp [Op.operands]; simpa using hx))]
  | buildSlice t len parts => simp only [aBs]; rw [absP_congr (fun x hx => h x (by simp [Op.operands]; simpa using hx))]
  | makeFunc fn a b =>
    have ha : ∀ x ∈ a.toList, A x = A' x := fun x hx => h x (by simp [Op.operands]; exact .inl (by simpa using hx))
    simp only [aMf]
    rw [capsOf_congr (fun x hx => h x (by simp [Op.operands]; exact .inr (by simpa using hx)))]
    split
    · rfl
    · rename_i f x hf; rw [ha x (by rw [hf]; simp)]
    · rfl
  | slice t x lo hi mx =>
    have hx := h x (by simp [Op.operands])
    have hl : ∀ y, lo = some y → A y = A' y := fun y hy => h y (by simp [Op.operands, hy])
    have hh : ∀ y, hi = some y → A y = A' y := fun y hy => h y (by simp [Op.operands, hy])
    have hm : ∀ y, mx = some y → A y = A' y := fun y hy => h y (by simp [Op.operands, hy])
    have e1 : aSl P A t x lo hi mx = aSl P A' t x lo hi mx := by
      simp only [aSl]
      rw [hx, low_congr hl]
      simp only [high_congr hh]
    have e2 : aSl2 P H A t x lo hi mx = aSl2 P H A' t x lo hi mx := by
      simp only [aSl2]
      rw [hx, low_congr hl]
      cases mx with
      | none => simp only [high_congr hh]
      | some y3 =>
        cases hi with
        | none => rfl
        | some x3 => simp only [hh x3 rfl, hm y3 rfl]
    simp only [e1, e2]
  | pick c x y => simp only [aPick]; rw [h c (by simp [Op.operands]), h x (by simp [Op.operands]), h y (by simp [Op.operands])]
  | store t x y => simp only [aStore]; rw [h x (by simp [Op.operands]), h y (by simp [Op.operands])]
  | binOp op t x y ty => simp only [aBin2, aBin, aBinS]; rw [h x (by simp [Op.operands]), h y (by simp [Op.operands])]
  | makeSlice t x y => simp only [aMake]; rw [h x (by simp [Op.operands]), h y (by simp [Op.operands])]
  | indexAddr t x y => simp only [aIa]; rw [h x (by simp [Op.operands]), h y (by simp [Op.operands])]
  | index t x y => simp only [aIx]; rw [h x (by simp [Op.operands]), h y (by simp [Op.operands])]
  | move x => simp only; rw [h x (by simp [Op.operands])]
  | assign x => simp only; rw [h x (by simp [Op.operands])]
  | box t x => simp only; rw [h x (by simp [Op.operands])]
  | load t x => simp only [aLoad]; rw [h x (by simp [Op.operands])]
  | nilCheck x => simp only [aNil]; rw [h x (by simp [Op.operands])]
  | unOp op t x => simp only [aUn]; rw [h x (by simp [Op.operands])]
  | convert s d x => simp only [aConv]; rw [h x (by simp [Op.operands])]
  | fieldAddr t x f => simp only [aFa]; rw [h x (by simp [Op.operands])]
  | field t x f => simp only [aField]; rw [h x (by simp [Op.operands])]
  | extract x i => simp only [aExt]; rw [h x (by simp [Op.operands])]
  | lookup t x y ok => simp only [aLk]; rw [h x (by simp [Op.operands]), h y (by simp [Op.operands])]
  | makeChan t x => simp only [aMc]; rw [h x (by simp [Op.operands])]
  | mapEntry t x y => simp only [aMe]; rw [h x (by simp [Op.operands]), h y (by simp [Op.operands])]
  | entryStore t x y z => simp only [aEs]; rw [h x (by simp [Op.operands]), h y (by simp [Op.operands]), h z (by simp [Op.operands])]
  | range t x => simp only [aRange]; rw [h x (by simp [Op.operands])]
  | next x str => simp only [aNext]; rw [h x (by simp [Op.operands])]
  | entry x => simp only [aEntry]; rw [h x (by simp [Op.operands])]
  | mapUpdate t x y z => simp only [aMu]; rw [h x (by simp [Op.operands]), h y (by simp [Op.operands]), h z (by simp [Op.operands])]
  | _ => rfl

/-! ### The run's steps -/
structure St where
  A : TS
  H : HT
  n : Nat
/-- What a call yields: a value, the memory behind it, what it looks at, what it writes. -/
abbrev FunF := FuncId → List S → HT → Nat → Option (S × HT × Nat × Nat × Nat)
/-- How calls go, and operations on values from outside. -/
structure CallF where
  call : FunF
  xo : BinOp → C → C → Option C
noncomputable def xoC (xo : BinOp → C → C → Option C) (op : BinOp) (a b : C) : Option C := match a, b with | .ext _, _ => xo op a b | _, .ext _ => xo op a b | _, _ => none
noncomputable def constS (v : Value) : Option S := match v with
  | .tuple ⟨[]⟩ => some (.tup [])
  | v => (absV v).map .v
noncomputable def opA (A : TS) : Operand → Option S
  | .tmp t => A.get t
  | .const v => constS v
  | .func f => some (.v (.c (.fn f [])))
  | .global _ => none
noncomputable def absArgs (A : Operand → Option S) : List Operand → Option (List S)
  | [] => some []
  | x :: l => match A x, absArgs A l with | some s, some m => some (s :: m) | _, _ => none
noncomputable def opRun (call : CallF) (P : Program) (st : St) (A : Operand → Option S) (o : Oper) : Option (S × HT × Nat × Nat × Nat) := match aop P (hg st.H) st.n A o with
  | some (s, e) => if e.chk st.n st.H then (e.apT st.n st.H).map fun H' => (s, H', e.n' st.n, e.F, e.Wm) else none
  | none => match o.op with
    | .call c => match c.callee with
      | .value x => match S.c? (A x), absArgs A c.args.toList with
        | some (.fn f caps), some l => call.call f (l ++ caps.map fun p => S.v (.c (.ptr p.1 p.2))) st.H st.n
        | some (.bm f i off), some l => call.call f (S.v (.c (.ptr i off)) :: l) st.H st.n
        | _, _ => none
      | _ => none
    | .binOp op t x y _ => match S.c? (A x), S.c? (A y) with
      | some a, some b => (xoC call.xo op a b).map fun c => (.v (.c c), st.H, st.n, 0, 0)
      | _, _ => none
    | _ => none
noncomputable def putS (nt : Nat) (A : TS) (d : Option Tmp) (s : S) : Option (TS) := match d with
  | none => some A
  | some d => if d < nt then TS.put A d (some s) else none
noncomputable def goS (call : CallF) (P : Program) (nt : Nat) (st : St) (o : Oper) : Option (St × Nat × Nat) := match opRun call P st (opA st.A) o with
  | some (s, H', n', F, W) => (putS nt st.A o.dst s).map fun A' => (⟨A', H', n'⟩, F, W)
  | none => none
noncomputable def skipS (nt : Nat) (st : St) (o : Oper) : Option (St × Nat × Nat) := (putS nt st.A o.dst .un).map fun A' => (⟨A', st.H, st.n⟩, 0, 0)
noncomputable def stepG (call : CallF) (P : Program) (ops : Array Oper) (nt : Nat) (st : St) (o : Oper) : Option (St × Nat × Nat) := match o.guard with
  | none => goS call P nt st o
  | some (j, want) => match (ops[j]?).bind (·.dst) with
    | some d => match st.A.get d with
      | some (.v (.c (.bool b))) => if b == want then goS call P nt st o else skipS nt st o
      | some .un => skipS nt st o
      | _ => none
    | none => none
noncomputable def RSL (σ : Nat → Blk) (D : Nat → Prop) : List S → List Value → Prop
  | [], [] => True
  | c :: l, v :: m => RS σ D c v ∧ RSL σ D l m
  | _, _ => False
/-- A way of calling that tells the truth. -/
noncomputable def FunOK (P : Program) (call : FunF) : Prop := ∀ f args H n s H' n' F W, call f args H n = some (s, H', n', F, W) → Inv (hg H) (hg H') n n' F W ∧
  ∀ σ D w vals, RSL σ D args vals → Sat σ D (rst (tb F) (hg H)) w → (∀ i, n ≤ i → hg H i = none) → (∀ i, n ≤ i → i < n' → ¬ D i) →
    Calls P f vals.toArray w fun e w' => ∃ v σ', e = .returned v ∧ RS σ' (more D n n') s v ∧ Out σ D w (rst (tb F) (hg H)) (aft (tb F) n n' (hg H')) n n' (tb W) σ' w'
/-- What operations on values from outside are said to yield is so. -/
def XoOK (P : Program) (xo : BinOp → C → C → Option C) : Prop := ∀ op a b c, xo op a b = some c → ∀ (σ : Nat → Blk) (D : Nat → Prop) (x y : Value) (w : World) (t : TypeId), RC σ D a x → RC σ D b y → ∃ v, RC σ D c v ∧ x.oneCell' = true ∧ x ≠ .nilIface ∧ (binOp op t x y).run P w = .ok v w
def noXo : BinOp → C → C → Option C := fun _ _ _ => none
theorem noXo_ok (P : Program) : XoOK P noXo := fun op a b c h => by cases h
noncomputable def CallOK (P : Program) (call : CallF) : Prop := FunOK P call.call ∧ XoOK P call.xo
theorem xoC_ok {P : Program} {xo : BinOp → C → C → Option C} (h : XoOK P xo) {op : BinOp} {a b c : C} (e : xoC xo op a b = some c) : xo op a b = some c := by
  unfold xoC at e
  split at e
  · exact e
  · exact e
  · cases e
theorem out_still {F n W : Nat} {H : Heap} {σ : Nat → Blk} {D : Nat → Prop} {w w' : World} (hs : Sat σ D (rst (tb F) H) w) (t : Tch No w w') : Out σ D w (rst (tb F) H) (aft (tb F) n n H) n n (tb W) σ w' := by
  have key : ∀ i x, aft (tb F) n n H i = some x → rst (tb F) H i = some x := fun i x e => by
    obtain ⟨h1, h2⟩ := aft_some.1 e
    exact rst_some.2 ⟨h1.resolve_right (by omega), h2⟩
  refine ⟨fun _ _ => rfl, ⟨fun i ob e => ?_, fun i j hi hj e => ?_⟩, t.mono (fun _ _ h => h.elim), fun i _ hh => ?_, fun i h1 h2 => by omega⟩
  · obtain ⟨h1, h2⟩ := hs.obj i ob (key i ob e)
    exact ⟨.inl h1, h2.ext rfl (t.block _ h2.lt (fun h => h)) (fun _ _ => rfl) (fun _ h => .inl h)⟩
  · obtain ⟨x, hx⟩ := Option.isSome_iff_exists.1 hi
    obtain ⟨y, hy⟩ := Option.isSome_iff_exists.1 hj
    exact hs.inj i j (some_of (key i x hx)) (some_of (key j y hy)) e
  · obtain ⟨x, hx⟩ := Option.isSome_iff_exists.1 hh
    exact some_of (key i x hx)
theorem out_refl {σ : Nat → Blk} {D : Nat → Prop} {w : World} {H : Heap} {n F W : Nat} (hs : Sat σ D (rst (tb F) H) w) : Out σ D w (rst (tb F) H) (aft (tb F) n n H) n n (tb W) σ w := by
  exact out_still hs (Tch.refl _ _)
/-- No function of that name has a body. -/
noncomputable def named (P : Program) : Bool := P.funcs.all fun fn => fn.body.isNone || !(fn.name == "runtime.NumGoroutine")
section
variable {P : Program} {call : CallF} {σ : Nat → Blk} {D : Nat → Prop}
theorem RSL.append : ∀ {l l' : List S} {m m' : List Value}, RSL σ D l m → RSL σ D l' m' → RSL σ D (l ++ l') (m ++ m')
  | [], _, [], _, _, h => h
  | _ :: _, _, _ :: _, _, h, k => ⟨h.1, h.2.append k⟩
theorem absArgs_ok {A : Operand → Option S} {ρ : Operand → Value} (hA : Eqv σ D A ρ) : ∀ {l : List Operand} {m : List S}, absArgs A l = some m → RSL σ D m (l.map ρ)
  | [], m, h => by simp only [absArgs, Option.some.injEq] at h; subst h; trivial
  | x :: l, m, h => by
    simp only [absArgs] at h
    split at h
    · rename_i s m' h1 h2
      simp only [Option.some.injEq] at h; subst h
      exact ⟨hA x s h1, absArgs_ok hA h2⟩
    · cases h
theorem absArgs_congr {A A' : Operand → Option S} : ∀ {l : List Operand}, (∀ x ∈ l, A x = A' x) → absArgs A l = absArgs A' l
  | [], _ => rfl
  | x :: l, h => by
    simp only [absArgs]
    rw [h x (by simp), absArgs_congr (fun y hy => h y (List.mem_cons_of_mem _ hy))]
theorem opRun_congr {A A' : Operand → Option S} {st : St} {o : Oper} (h : ∀ x ∈ o.op.operands, A x = A' x) : opRun call P st A o = opRun call P st A' o := by
  unfold opRun
  rw [aop_congr h]
  split
  · rfl
  · split
    · rename_i c hc
      split
      · rename_i x hx
        rw [hc] at h
        rw [h x (by simp [Op.operands, Call.operands, hx]), absArgs_congr (fun y hy => h y (by simp only [Op.operands, Call.operands]; rw [Array.mem_append]; exact .inr (by simpa using hy)))]
      · rfl
    · rename_i op t x y ty hb
      rw [hb] at h
      rw [h x (by simp [Op.operands]), h y (by simp [Op.operands])]
    · rfl
theorem caps_ok {caps : List (Nat × Nat)} (h : ∀ p ∈ caps, D p.1) : RSL σ D (caps.map fun p => S.v (.c (.ptr p.1 p.2))) (caps.map fun p => Value.pointer (some (adr (σ p.1) p.2))) := by
  induction caps with
  | nil => trivial
  | cons p l ih => exact ⟨⟨h p (by simp), rfl⟩, ih (fun q hq => h q (List.mem_cons_of_mem _ hq))⟩
/-- An operation, whatever it is. -/
theorem opRun_ok (hcall : CallOK P call) (hnm : named P = true) (hcl : ∀ f args H n r, call.call f args H n = some r → ∃ fn, P.funcs[f]? = some fn ∧ fn.body.isSome = true) {A : Operand → Option S} {st : St} {o : Oper} {s : S} {H' : HT} {n' F W : Nat} (h : opRun call P st A o = some (s, H', n', F, W)) :
    Inv (hg st.H) (hg H') st.n n' F W ∧ ∀ σ D w a K Q, Eqv σ D A a.eval → Sat σ D (rst (tb F) (hg st.H)) w → (∀ i, st.n ≤ i → hg st.H i = none) → (∀ i, st.n ≤ i → i < n' → ¬ D i) →
      (∀ σ' v w', RS σ' (more D st.n n') s v → Out σ D w (rst (tb F) (hg st.H)) (aft (tb F) st.n n' (hg H')) st.n n' (tb W) σ' w' → K (a.put o.dst v) w') → Oper.wp P o a w K Q := by
  unfold opRun at h
  split at h
  · rename_i s0 e hop
    split at h
    · rename_i hchk
      rw [Option.map_eq_some_iff] at h
      obtain ⟨H1, h1, h2⟩ := h
      simp only [Prod.mk.injEq] at h2
      obtain ⟨rfl, rfl, rfl, rfl, rfl⟩ := h2
      rw [apT_ok h1]
      refine ⟨inv_ef hchk, fun σ D w a K Q hA hs _ hD hK => ?_⟩
      obtain ⟨nx, v, σ', w', hd⟩ := aop_ok hop hA (fun hlt => hD _ (Nat.le_refl _) hlt) hs
      have hout := hd.out
      rw [e.W_eq] at hout
      unfold Oper.wp
      rw [hd.run]
      rcases hd.nx with rfl | ⟨rfl, rfl⟩
      · exact hK _ _ _ hd.val hout
      · exact hK _ _ _ hd.val hout
    · cases h
  · split at h
    · rename_i c hc
      split at h
      · rename_i x hx
        split at h
        · rename_i f caps l hf hl
          obtain ⟨hinv, hcalls⟩ := hcall.1 _ _ _ _ _ _ _ _ _ h
          refine ⟨hinv, fun σ D w a K Q hA hs hdom hD hK => ?_⟩
          obtain ⟨hcp, hfv⟩ := hA.c hf
          have hargs := (absArgs_ok hA hl).append (caps_ok hcp)
          have hC := hcalls σ D w _ hargs hs hdom hD
          obtain ⟨fn, hfn, hbody⟩ := hcl _ _ _ _ _ h
          have hnn : (fn.name == "runtime.NumGoroutine") = false := by
            unfold named at hnm
            rw [Array.all_eq_true_iff_forall_mem] at hnm
            have := hnm fn (Array.mem_of_getElem? hfn)
            cases hb : fn.body with
            | none => rw [hb] at hbody; cases hbody
            | some b => rw [hb] at this; simpa using this
          have hrun : (execOp a.eval o).run P w = .ok (.enter f ((c.args.toList.map a.eval) ++ caps.map fun p => Value.pointer (some (adr (σ p.1) p.2))).toArray) w := by
            unfold execOp
            rw [hc]
            have hb : ¬ fn.body = none := by intro e; rw [e] at hbody; cases hbody
            have hn2 : ¬ fn.name = "runtime.NumGoroutine" := by simpa using hnn
            have hargs2 : c.args.map a.eval = (c.args.toList.map a.eval).toArray := by apply Array.ext'; simp
            simp [resolve, hx, hfv, Deferred.ofValue, invoke, callFunc, hfn, hn2, hb, hargs2]
          unfold Oper.wp
          rw [hrun]
          show Calls P f _ w _
          refine hC.mono ?_
          rintro e w' ⟨v, σ', rfl, h1, h2⟩
          exact hK _ _ _ h1 h2
        · rename_i f i off l hf hl
          obtain ⟨hinv, hcalls⟩ := hcall.1 _ _ _ _ _ _ _ _ _ h
          refine ⟨hinv, fun σ D w a K Q hA hs hdom hD hK => ?_⟩
          obtain ⟨hcp, hfv⟩ := hA.c hf
          have hargs : RSL σ D (S.v (.c (.ptr i off)) :: _) (Value.pointer (some (adr (σ i) off)) :: c.args.toList.map a.eval) := ⟨⟨hcp, rfl⟩, absArgs_ok hA hl⟩
          have hC := hcalls σ D w _ hargs hs hdom hD
          obtain ⟨fn, hfn, hbody⟩ := hcl _ _ _ _ _ h
          have hnn : (fn.name == "runtime.NumGoroutine") = false := by
            unfold named at hnm
            rw [Array.all_eq_true_iff_forall_mem] at hnm
            have := hnm fn (Array.mem_of_getElem? hfn)
            cases hb : fn.body with
            | none => rw [hb] at hbody; cases hbody
            | some b => rw [hb] at this; simpa using this
          have hrun : (execOp a.eval o).run P w = .ok (.enter f (Value.pointer (some (adr (σ i) off)) :: c.args.toList.map a.eval).toArray) w := by
            unfold execOp
            rw [hc]
            have hb : ¬ fn.body = none := by intro e; rw [e] at hbody; cases hbody
            have hn2 : ¬ fn.name = "runtime.NumGoroutine" := by simpa using hnn
            have hargs2 : c.args.map a.eval = (c.args.toList.map a.eval).toArray := by apply Array.ext'; simp
            simp [resolve, hx, hfv, Deferred.ofValue, invoke, callFunc, hfn, hn2, hb, hargs2]
          unfold Oper.wp
          rw [hrun]
          show Calls P f _ w _
          refine hC.mono ?_
          rintro e w' ⟨v, σ', rfl, h1, h2⟩
          exact hK _ _ _ h1 h2
        · cases h
      · cases h
    · rename_i op t x y ty hb
      split at h
      · rename_i a b ha hb2
        rw [Option.map_eq_some_iff] at h
        obtain ⟨c, h1, h2⟩ := h
        simp only [Prod.mk.injEq] at h2
        obtain ⟨rfl, rfl, rfl, rfl, rfl⟩ := h2
        refine ⟨Inv.refl _ _, fun σ D w a' K Q hA hs _ hD hK => ?_⟩
        obtain ⟨v, g1, g3, g4, g2⟩ := hcall.2 _ _ _ _ (xoC_ok hcall.2 h1) σ D _ _ w t (hA.c ha) (hA.c hb2)
        have hrun : (execOp a'.eval o).run P w = .ok (.value v) w := by
          unfold execOp; rw [hb]; simp [guard_ok g3 g4, g2]
        unfold Oper.wp
        rw [hrun]
        exact hK σ v w (RC.ext g1 (fun _ _ => rfl) (fun _ h => .inl h)) (out_refl hs)
      · cases h
    · cases h
end
end Go.Proofs.YtcmlgmiomcegeaaGreat.Ev
namespace Go.Proofs.YtcmlgmiomcegeaaGreat.Ev
open Go Go.RowKit Go.Maps
set_option linter.unusedVariables false
set_option linter.unusedSimpArgs false
set_option linter.unusedSectionVars false
variable [Env]

theorem putS_ok {nt : Nat} {A A' : TS} {d : Option Tmp} {s : S} (h : putS nt A d s = some A') : (∀ t, A'.get t = if d = some t then some s else A.get t) ∧ ∀ t, d = some t → t < nt := by
  unfold putS at h
  split at h
  · simp only [Option.some.injEq] at h; subst h
    exact ⟨fun t => by simp, fun t e => by cases e⟩
  · rename_i d'
    split at h
    · rename_i hlt
      refine ⟨fun t => ?_, fun t e => by cases e; exact hlt⟩
      rw [TS.get_put h]
      by_cases e : t = d'
      · subst e; simp
      · rw [if_neg e, if_neg (fun h => e (Option.some.inj h).symm)]
    · cases h
theorem constS_ok {σ : Nat → Blk} {D : Nat → Prop} {v : Value} {s : S} (h : constS v = some s) : RS σ D s v := by
  unfold constS at h
  split at h
  · simp only [Option.some.injEq] at h; subst h; exact ⟨[], trivial, rfl⟩
  · rw [Option.map_eq_some_iff] at h
    obtain ⟨x, h1, rfl⟩ := h
    exact absV_ok h1
/-- The operands, as far as slots are known. -/
noncomputable def lookA (L : List Nat) (A : TS) : Operand → Option S
  | .tmp t => if t ∈ L then A.get t else none
  | x => opA A x
theorem lookA_ok {σ : Nat → Blk} {D : Nat → Prop} {L : List Nat} {A : TS} {a : Act} (h : ∀ t ∈ L, ∀ s, A.get t = some s → RS σ D s (a.eval (.tmp t))) : Eqv σ D (lookA L A) a.eval := by
  intro x s hx
  cases x with
  | tmp t =>
    simp only [lookA] at hx
    split at hx
    · rename_i ht; exact h t ht s hx
    · cases hx
  | const v => exact constS_ok (show constS v = some s from hx)
  | func f =>
    simp only [lookA, opA, Option.some.injEq] at hx
    subst hx
    exact ⟨fun p hp => (by cases hp), rfl⟩
  | global g => simp [lookA, opA] at hx
theorem look_op {ops : Array Oper} {o : Oper} {t : Nat} (h : Operand.tmp t ∈ o.op.operands) : t ∈ o.looksAt ops := by
  unfold Oper.looksAt
  rw [List.mem_append]
  refine .inl (List.mem_filterMap.2 ⟨.tmp t, by simpa using h, rfl⟩)
section
variable {P : Program} {call : CallF}
theorem stepG_ok (hcall : CallOK P call) (hnm : named P = true) (hcl : ∀ f args H n r, call.call f args H n = some r → ∃ fn, P.funcs[f]? = some fn ∧ fn.body.isSome = true) {ops : Array Oper} {nt : Nat} {st st' : St} {o : Oper} {F W : Nat} (h : stepG call P ops nt st o = some (st', F, W)) :
    Inv (hg st.H) (hg st'.H) st.n st'.n F W ∧ ∃ s : S, (∀ t, st'.A.get t = if o.dst = some t then some s else st.A.get t) ∧ (∀ t, o.dst = some t → t < nt) ∧
      ∀ σ D w a K Q, (∀ t ∈ o.looksAt ops, ∀ s, st.A.get t = some s → t < nt ∧ RS σ D s (a.eval (.tmp t))) → a.tmps.size = nt → Sat σ D (rst (tb F) (hg st.H)) w → (∀ i, st.n ≤ i → hg st.H i = none) → (∀ i, st.n ≤ i → i < st'.n → ¬ D i) →
        (∀ σ' v w', RS σ' (more D st.n st'.n) s v → Out σ D w (rst (tb F) (hg st.H)) (aft (tb F) st.n st'.n (hg st'.H)) st.n st'.n (tb W) σ' w' → K (a.put o.dst v) w') →
        (if Region.wanted o (yielded ops a.tmps) = true then Oper.wp P o a w K Q else K (a.put o.dst undef) w) := by
  have go : goS call P nt st o = some (st', F, W) → Inv (hg st.H) (hg st'.H) st.n st'.n F W ∧ ∃ s : S, (∀ t, st'.A.get t = if o.dst = some t then some s else st.A.get t) ∧ (∀ t, o.dst = some t → t < nt) ∧
      ∀ σ D w a K Q, (∀ t ∈ o.looksAt ops, ∀ s, st.A.get t = some s → t < nt ∧ RS σ D s (a.eval (.tmp t))) → a.tmps.size = nt → Sat σ D (rst (tb F) (hg st.H)) w → (∀ i, st.n ≤ i → hg st.H i = none) → (∀ i, st.n ≤ i → i < st'.n → ¬ D i) →
        (∀ σ' v w', RS σ' (more D st.n st'.n) s v → Out σ D w (rst (tb F) (hg st.H)) (aft (tb F) st.n st'.n (hg st'.H)) st.n st'.n (tb W) σ' w' → K (a.put o.dst v) w') → Oper.wp P o a w K Q := fun h => by
    unfold goS at h
    split at h
    · rename_i s H' n' F' W' hop
      rw [Option.map_eq_some_iff] at h
      obtain ⟨A', h1, h2⟩ := h
      simp only [Prod.mk.injEq] at h2
      obtain ⟨rfl, rfl, rfl⟩ := h2
      rw [opRun_congr (A' := lookA (o.looksAt ops) st.A) (fun x hx => by
        cases x with
        | tmp t => simp only [opA, lookA]; rw [if_pos (look_op hx)]
        | _ => rfl)] at hop
      obtain ⟨hinv, hw⟩ := opRun_ok hcall hnm hcl hop
      obtain ⟨p1, p2⟩ := putS_ok h1
      exact ⟨hinv, s, p1, p2, fun σ D w a K Q hL hsz hs hdom hD hK => hw σ D w a K Q (lookA_ok fun t ht s hs => (hL t ht s hs).2) hs hdom hD hK⟩
    · cases h
  have skip : skipS nt st o = some (st', F, W) → Inv (hg st.H) (hg st'.H) st.n st'.n F W ∧ ∃ s : S, (∀ t, st'.A.get t = if o.dst = some t then some s else st.A.get t) ∧ (∀ t, o.dst = some t → t < nt) ∧
      ∀ (σ : Nat → Blk) (D : Nat → Prop) (w : World) (a : Act) (K : Act → World → Prop), Sat σ D (rst (tb F) (hg st.H)) w →
        (∀ σ' v w', RS σ' (more D st.n st'.n) s v → Out σ D w (rst (tb F) (hg st.H)) (aft (tb F) st.n st'.n (hg st'.H)) st.n st'.n (tb W) σ' w' → K (a.put o.dst v) w') → K (a.put o.dst undef) w := fun h => by
    unfold skipS at h
    rw [Option.map_eq_some_iff] at h
    obtain ⟨A', h1, h2⟩ := h
    simp only [Prod.mk.injEq] at h2
    obtain ⟨rfl, rfl, rfl⟩ := h2
    obtain ⟨p1, p2⟩ := putS_ok h1
    exact ⟨Inv.refl _ _, .un, p1, p2, fun σ D w a K hs hK => hK σ undef w rfl (out_refl hs)⟩
  unfold stepG at h
  split at h
  · rename_i hgd
    obtain ⟨a1, s, a2, a3, a4⟩ := go h
    refine ⟨a1, s, a2, a3, fun σ D w a K Q hL hsz hs hdom hD hK => ?_⟩
    rw [if_pos (by simp [Region.wanted, hgd])]
    exact a4 σ D w a K Q hL hsz hs hdom hD hK
  · rename_i j want hgd
    split at h
    · rename_i d hd
      have hlk : d ∈ o.looksAt ops := by
        unfold Oper.looksAt
        rw [List.mem_append, hgd]
        exact .inr (by simp [hd])
      split at h
      · rename_i b hb
        have hy : ∀ σ D (a : Act), (∀ t ∈ o.looksAt ops, ∀ s, st.A.get t = some s → t < nt ∧ RS σ D s (a.eval (.tmp t))) → a.tmps.size = nt → Region.wanted o (yielded ops a.tmps) = (b == want) := fun σ D a hL hsz => by
          obtain ⟨h1, h2⟩ := hL d hlk _ hb
          have h3 : a.eval (.tmp d) = .bool b := h2
          have h4 : a.tmps[d]? = some (.bool b) := by
            have hlt : d < a.tmps.size := by rw [hsz]; exact h1
            rw [Array.getElem?_eq_getElem hlt]
            simpa [Act.eval, hlt] using h3
          unfold Region.wanted
          rw [hgd]
          simp only [yielded, hd, Option.bind_some, h4]
          cases b <;> cases want <;> rfl
        split at h
        · rename_i hbw
          obtain ⟨a1, s, a2, a3, a4⟩ := go h
          refine ⟨a1, s, a2, a3, fun σ D w a K Q hL hsz hs hdom hD hK => ?_⟩
          rw [if_pos (by rw [hy σ D a hL hsz]; exact hbw)]
          exact a4 σ D w a K Q hL hsz hs hdom hD hK
        · rename_i hbw
          obtain ⟨a1, s, a2, a3, a4⟩ := skip h
          refine ⟨a1, s, a2, a3, fun σ D w a K Q hL hsz hs hdom hD hK => ?_⟩
          rw [if_neg (by rw [hy σ D a hL hsz]; exact hbw)]
          exact a4 σ D w a K hs hK
      · rename_i hb
        obtain ⟨a1, s, a2, a3, a4⟩ := skip h
        refine ⟨a1, s, a2, a3, fun σ D w a K Q hL hsz hs hdom hD hK => ?_⟩
        have hno : ¬ Region.wanted o (yielded ops a.tmps) = true := by
          obtain ⟨h1, h2⟩ := hL d hlk _ hb
          have h3 : a.eval (.tmp d) = undef := h2
          have h4 : a.tmps[d]? = some undef := by
            have hlt : d < a.tmps.size := by rw [hsz]; exact h1
            rw [Array.getElem?_eq_getElem hlt]
            simpa [Act.eval, hlt] using h3
          unfold Region.wanted
          rw [hgd]
          simp only [yielded, hd, Option.bind_some, h4]
          simp [undef]
        rw [if_neg hno]
        exact a4 σ D w a K hs hK
      · cases h
    · cases h

/-! ### One behind the other, in the order of the text -/
noncomputable def RA (σ : Nat → Blk) (D : Nat → Prop) (nt : Nat) (A : TS) (a : Act) : Prop := a.tmps.size = nt ∧ ∀ t s, A.get t = some s → t < nt ∧ RS σ D s (a.eval (.tmp t))
theorem RA.put {σ σ' : Nat → Blk} {D D' : Nat → Prop} {nt : Nat} {A A' : TS} {a : Act} {d : Option Tmp} {s : S} {v : Value} (h : RA σ D nt A a) (hs : ∀ i, D i → σ' i = σ i) (hD : ∀ i, D i → D' i) (hA : ∀ t, A'.get t = if d = some t then some s else A.get t) (hd : ∀ t, d = some t → t < nt) (hv : RS σ' D' s v) : RA σ' D' nt A' (a.put d v) := by
  refine ⟨by cases d <;> simp [Act.put, h.1], fun t u e => ?_⟩
  rw [hA] at e
  split at e
  · rename_i e2
    subst e2
    cases e
    have hlt := hd t rfl
    exact ⟨hlt, by simpa [Act.put, Act.eval, h.1, hlt] using hv⟩
  · rename_i e2
    obtain ⟨h1, h2⟩ := h.2 t u e
    refine ⟨h1, ?_⟩
    have : (a.put d v).eval (.tmp t) = a.eval (.tmp t) := by
      cases d with
      | none => rfl
      | some d =>
        have hne : d ≠ t := fun e => e2 (by rw [e])
        simp [Act.put, Act.eval, Array.getElem?_setIfInBounds, hne]
    rw [this]
    exact h2.ext hs hD
noncomputable def evalL (call : CallF) (P : Program) (ops : Array Oper) (nt : Nat) : List Oper → St → Option (St × List (Nat × Nat))
  | [], st => some (st, [])
  | o :: l, st => match stepG call P ops nt st o with
    | some (st1, F, W) => match evalL call P ops nt l st1 with
      | some (st2, rs) => some (st2, (F, W ||| (2 ^ st1.n - 2 ^ st.n)) :: rs)
      | none => none
    | none => none
end
end Go.Proofs.YtcmlgmiomcegeaaGreat.Ev
namespace Go.Proofs.YtcmlgmiomcegeaaGreat.Ev
open Go Go.RowKit Go.Maps
set_option linter.unusedVariables false
set_option linter.unusedSimpArgs false
set_option linter.unusedSectionVars false
variable [Env]

/-! ### An invariant over what is listed -/
noncomputable def dps (ops : Array Oper) (i : Nat) : List Nat := ((ops[i]?).map fun o => (o.after.toList.filter (Region.binds .any)).map (·.on)).getD []
theorem dps_mem {ops : Array Oper} {i k : Nat} {o : Oper} (ho : ops[i]? = some o) : k ∈ dps ops i ↔ ∃ e ∈ o.after, Region.binds .any e = true ∧ e.on = k := by
  unfold dps
  rw [ho]
  simp only [Option.map_some, Option.getD_some, List.mem_map, List.mem_filter, Array.mem_toList_iff]
  exact ⟨fun ⟨e, ⟨h1, h2⟩, h3⟩ => ⟨e, h1, h2, h3⟩, fun ⟨e, h1, h2, h3⟩ => ⟨e, ⟨h1, h2⟩, h3⟩⟩
theorem any_gen {P : Program} {ops : Array Oper} {Q : Exit → Act → World → Prop} (hless : ∀ i, i < ops.size → ∀ e ∈ dps ops i, e < i) (J : (Nat → Bool) → Act → World → Prop)
    (hstep : ∀ (S : Nat → Bool) i o a w, ops[i]? = some o → J S a w → S i = false → (∀ k, k < ops.size → S k = true → ∀ e ∈ dps ops k, S e = true) → (∀ e ∈ dps ops i, S e = true) → ∀ K : Act → World → Prop,
      (∀ a' w', J (fun k => S k || k == i) a' w' → K a' w') → if Region.wanted o (yielded ops a.tmps) = true then Oper.wp P o a w K Q else K (a.put o.dst undef) w)
    (hend : ∀ S a w, J S a w → (∀ i, i < ops.size → S i = true) → Q .normal a w) :
    ∀ (m : Nat) (listed : Array Bool) (a : Act) (w : World), listed.size = ops.size → (∀ i, i < ops.size → listed.getD i true = true → ∀ e ∈ dps ops i, listed.getD e true = true) →
      (List.range ops.size).countP (fun i => !listed.getD i true) = m → J (fun i => listed.getD i true) a w → wpAny P .any ops Q m listed a w := by
  have hready : ∀ (listed : Array Bool) i, listed.size = ops.size → i < ops.size → listed.getD i true = false → (∀ e ∈ dps ops i, listed.getD e true = true) → i ∈ Region.ready .any ops listed := by
    intro listed i hs hi h1 h2
    obtain ⟨o, ho⟩ : ∃ o, ops[i]? = some o := ⟨_, Array.getElem?_eq_getElem hi⟩
    unfold Region.ready
    rw [List.mem_filter]
    refine ⟨List.mem_range.2 hi, ?_⟩
    rw [h1, ho]
    simp only [Option.map_some, Option.getD_some, Bool.not_false, Bool.true_and, Array.all_eq_true_iff_forall_mem]
    intro e he
    cases hb : Region.binds .any e with
    | false => rfl
    | true =>
      have hm : e.on ∈ dps ops i := (dps_mem ho).2 ⟨e, he, hb, rfl⟩
      have h3 := h2 _ hm
      have h4 := hless i hi _ hm
      rw [Array.getD_eq_getD_getElem?, Array.getElem?_eq_getElem (by omega)] at h3 ⊢
      simpa using h3
  have hready2 : ∀ (listed : Array Bool) i, listed.size = ops.size → i ∈ Region.ready .any ops listed → i < ops.size ∧ listed.getD i true = false ∧ ∀ e ∈ dps ops i, listed.getD e true = true := by
    intro listed i hs hi
    unfold Region.ready at hi
    rw [List.mem_filter] at hi
    obtain ⟨h1, h2⟩ := hi
    have h1 := List.mem_range.1 h1
    obtain ⟨o, ho⟩ : ∃ o, ops[i]? = some o := ⟨_, Array.getElem?_eq_getElem h1⟩
    rw [ho] at h2
    simp only [Option.map_some, Option.getD_some, Bool.and_eq_true, Bool.not_eq_true', Array.all_eq_true_iff_forall_mem] at h2
    refine ⟨h1, h2.1, fun e he => ?_⟩
    have h5 := hless i h1 e he
    obtain ⟨ed, hed, hb, rfl⟩ := (dps_mem ho).1 he
    have h3 := h2.2 ed hed
    rw [hb] at h3
    rw [Array.getD_eq_getD_getElem?, Array.getElem?_eq_getElem (by omega)] at h3 ⊢
    simpa using h3
  intro m
  induction m with
  | zero =>
    intro listed a w hs hcl hm hJ
    rw [List.countP_eq_zero] at hm
    have hall : ∀ i, i < ops.size → listed.getD i true = true := fun i hi => by simpa using hm i (List.mem_range.2 hi)
    have h0 : Region.ready .any ops listed = [] := by
      cases hr : Region.ready .any ops listed with
      | nil => rfl
      | cons x xs =>
        obtain ⟨g1, g2, _⟩ := hready2 listed x hs (by rw [hr]; exact List.mem_cons_self)
        rw [hall x g1] at g2; cases g2
    exact ⟨h0, hend _ a w hJ hall⟩
  | succ m ih =>
    intro listed a w hs hcl hm hJ
    refine ⟨fun h0 => ?_, fun i hi => ?_⟩
    · exfalso
      have hex : ∃ i, i < ops.size ∧ listed.getD i true = false := by
        have hp : 0 < (List.range ops.size).countP (fun i => !listed.getD i true) := by omega
        obtain ⟨i, h1, h2⟩ := List.countP_pos_iff.1 hp
        exact ⟨i, List.mem_range.1 h1, by simpa using h2⟩
      have hmin : ∀ n i, i ≤ n → i < ops.size → listed.getD i true = false → False := by
        intro n
        induction n with
        | zero =>
          intro i hi hio hl
          have := hready listed i hs hio hl (fun e he => by have := hless i hio e he; omega)
          rw [h0] at this; cases this
        | succ n ihn =>
          intro i hi hio hl
          have := hready listed i hs hio hl (fun e he => by
            have hlt := hless i hio e he
            cases hle : listed.getD e true with
            | true => rfl
            | false => exact (ihn e (by omega) (by omega) hle).elim)
          rw [h0] at this; cases this
      obtain ⟨i, h1, h2⟩ := hex
      exact hmin i i (Nat.le_refl _) h1 h2
    · obtain ⟨h1, h2, h3⟩ := hready2 listed i hs hi
      obtain ⟨o, ho⟩ : ∃ o, ops[i]? = some o := ⟨_, Array.getElem?_eq_getElem h1⟩
      refine wpOp_step ho (fun K hK => ?_)
      have hget : ∀ j, j ≠ i → (listed.setIfInBounds i true).getD j true = listed.getD j true := fun j hj => by
        rw [Array.getD_eq_getD_getElem?, Array.getD_eq_getD_getElem?, Array.getElem?_setIfInBounds_ne (fun e => hj e.symm)]
      have hgeti : (listed.setIfInBounds i true).getD i true = true := by
        rw [Array.getD_eq_getD_getElem?, Array.getElem?_setIfInBounds]; simp [hs, h1]
      have hfun : (fun k => listed.getD k true || k == i) = fun k => (listed.setIfInBounds i true).getD k true := by
        funext k
        by_cases e : k = i
        · subst e; rw [hgeti]; simp
        · rw [hget k e]; simp [e]
      refine hstep _ i o a w ho hJ h2 hcl h3 K (fun a' w' hJ' => hK _ _ ?_)
      refine ih (listed.setIfInBounds i true) _ w' (by simpa using hs) ?_ ?_ (by rw [← hfun]; exact hJ')
      · intro j hj hlj e he
        by_cases hji : j = i
        · subst hji
          have hne : e ≠ j := fun e2 => by have := hless j hj e he; omega
          rw [hget e hne]; exact h3 e he
        · rw [hget j hji] at hlj
          by_cases hei : e = i
          · subst hei; exact hgeti
          · rw [hget e hei]; exact hcl j hj hlj e he
      · have hc : (List.range ops.size).countP (fun k => !listed.getD k true) = (List.range ops.size).countP (fun k => !(listed.setIfInBounds i true).getD k true) + 1 := by
          have : ∀ (l : List Nat), l.Nodup → i ∈ l → l.countP (fun k => !listed.getD k true) = l.countP (fun k => !(listed.setIfInBounds i true).getD k true) + 1 := by
            intro l hn hil
            induction l with
            | nil => cases hil
            | cons x r ihl =>
              rw [List.nodup_cons] at hn
              rw [List.countP_cons, List.countP_cons]
              by_cases hx : x = i
              · subst hx
                rw [h2, hgeti]
                have : r.countP (fun k => !listed.getD k true) = r.countP (fun k => !(listed.setIfInBounds x true).getD k true) := List.countP_congr (fun k hk => by
                  have hne : k ≠ x := fun e => hn.1 (by subst e; exact hk)
                  rw [hget k hne])
                rw [this]; simp
              · rw [hget x hx]
                have := ihl hn.2 ((List.mem_cons.1 hil).resolve_left (fun e => hx e.symm))
                omega
          exact this _ List.nodup_range (List.mem_range.2 h1)
        omega

/-! ### What lies behind some of the steps -/
noncomputable def cmb {α : Type} (aff : Nat → Nat → Bool) (f : Nat → Nat → α) (S : Nat → Bool) : Nat → Nat → α
  | 0, x => f 0 x
  | k + 1, x => if S k && aff k x then f (k + 1) x else cmb aff f S k x
theorem cmb_low {α : Type} {aff : Nat → Nat → Bool} {f : Nat → Nat → α} {S : Nat → Bool} {x : Nat} : ∀ {i : Nat}, (∀ k, k < i → aff k x = false → f (k + 1) x = f k x) → (∀ k, k < i → aff k x = true → S k = true) → cmb aff f S i x = f i x
  | 0, _, _ => rfl
  | i + 1, hn, hS => by
    rw [cmb]
    have ih := cmb_low (fun k hk => hn k (Nat.lt_succ_of_lt hk)) (fun k hk => hS k (Nat.lt_succ_of_lt hk))
    cases h : aff i x with
    | true => rw [hS i (Nat.lt_succ_self i) h]; rfl
    | false => rw [Bool.and_false, if_neg (by simp), ih, hn i (Nat.lt_succ_self i) h]
theorem cmb_high {α : Type} {aff : Nat → Nat → Bool} {f : Nat → Nat → α} {S : Nat → Bool} {x i : Nat} : ∀ {m : Nat}, i ≤ m → (∀ k, i ≤ k → k < m → aff k x = true → S k = false) → cmb aff f S m x = cmb aff f S i x
  | 0, h, _ => by rw [Nat.le_zero.1 h]
  | m + 1, h, hS => by
    by_cases e : i = m + 1
    · rw [e]
    · rw [cmb]
      have hm : i ≤ m := by omega
      rw [if_neg, cmb_high hm (fun k h1 h2 => hS k h1 (Nat.lt_succ_of_lt h2))]
      cases ha : aff m x with
      | true => rw [hS m hm (Nat.lt_succ_self m) ha]; simp
      | false => simp
theorem cmb_eq {α : Type} {aff : Nat → Nat → Bool} {f : Nat → Nat → α} {S : Nat → Bool} {x i m : Nat} (him : i ≤ m) (hn : ∀ k, k < m → aff k x = false → f (k + 1) x = f k x) (hlo : ∀ k, k < i → aff k x = true → S k = true) (hhi : ∀ k, i ≤ k → k < m → aff k x = true → S k = false) : cmb aff f S m x = f i x := by
  rw [cmb_high him hhi, cmb_low (fun k hk => hn k (Nat.lt_of_lt_of_le hk him)) hlo]
theorem cmb_other {α : Type} {aff : Nat → Nat → Bool} {f : Nat → Nat → α} {S : Nat → Bool} {x i : Nat} (hi : aff i x = false) : ∀ m, cmb aff f (fun k => S k || k == i) m x = cmb aff f S m x
  | 0 => rfl
  | m + 1 => by
    rw [cmb, cmb, cmb_other hi m]
    by_cases e : m = i
    · subst e; rw [hi]; simp
    · simp [e]
structure OutP (σ : Nat → Blk) (D : Nat → Prop) (w : World) (h h' : Heap) (N W : Nat → Prop) (σ' : Nat → Blk) (w' : World) : Prop where
  same : ∀ i, ¬ N i → σ' i = σ i
  sat : Sat σ' (fun i => D i ∨ N i) h' w'
  tch : Tch (fun k => ∃ i, W i ∧ (h i).isSome = true ∧ k = (σ i).b) w w'
  old : ∀ i, ¬ N i → (h' i).isSome = true → (h i).isSome = true
  new : ∀ i, N i → (h' i).isSome = true → w.heap.size ≤ (σ' i).b ∨ ∃ j, W j ∧ (h j).isSome = true ∧ h' j = none ∧ (σ' i).b = (σ j).b
theorem Out.toP {σ σ' : Nat → Blk} {D : Nat → Prop} {w w' : World} {h h' : Heap} {n n' : Nat} {W : Nat → Bool} (a : Out σ D w h h' n n' W σ' w') : OutP σ D w h h' (fun i => n ≤ i ∧ i < n') (fun i => W i = true) σ' w' :=
  ⟨a.same, a.sat, a.tch, a.old, fun i ⟨h1, h2⟩ hh => a.new i h1 h2 hh⟩
theorem OutP.trans {σ σ1 σ2 : Nat → Blk} {D : Nat → Prop} {w w1 w2 : World} {h h1 h2 : Heap} {N1 N2 W1 W2 : Nat → Prop} (hs : Sat σ D h w) (hD : ∀ i, N1 i ∨ N2 i → ¬ D i)
    (a : OutP σ D w h h1 N1 W1 σ1 w1) (b : OutP σ1 (fun i => D i ∨ N1 i) w1 h1 h2 N2 W2 σ2 w2) (hdis : ∀ i, N1 i → ¬ N2 i) : OutP σ D w h h2 (fun i => N1 i ∨ N2 i) (fun i => W1 i ∨ W2 i) σ2 w2 := by
  have hne : ∀ i, (h i).isSome = true → ¬ (N1 i ∨ N2 i) := fun i hh q => by
    obtain ⟨o, ho⟩ := Option.isSome_iff_exists.1 hh
    exact hD i q (hs.obj i o ho).1
  have dead : ∀ j, (h j).isSome = true → h1 j = none → h2 j = none := fun j hj e => by
    cases e2 : h2 j with
    | none => rfl
    | some x =>
      have := b.old j (fun q => hne j hj (.inr q)) (some_of e2)
      rw [e] at this; cases this
  have place : ∀ j, (h1 j).isSome = true → (w.heap.size ≤ (σ1 j).b) ∨ (∃ i, W1 i ∧ (h i).isSome = true ∧ h1 i = none ∧ (σ1 j).b = (σ i).b) ∨ (¬ N1 j ∧ (h j).isSome = true ∧ σ1 j = σ j) := fun j hj => by
    by_cases c : N1 j
    · rcases a.new j c hj with g | ⟨i, g1, g2, g3, g4⟩
      · exact .inl g
      · exact .inr (.inl ⟨i, g1, g2, g3, g4⟩)
    · exact .inr (.inr ⟨c, a.old j c hj, a.same j c⟩)
  refine ⟨fun i hi => ?_, ?_, ?_, fun i hi hh => ?_, fun i hi hh => ?_⟩
  · rw [b.same i (fun q => hi (.inr q)), a.same i (fun q => hi (.inl q))]
  · have := b.sat
    have e : (fun i => (D i ∨ N1 i) ∨ N2 i) = fun i => D i ∨ N1 i ∨ N2 i := by funext i; exact propext or_assoc
    rwa [e] at this
  · refine (a.tch.mono (G := fun k => ∃ i, (W1 i ∨ W2 i) ∧ (h i).isSome = true ∧ k = (σ i).b) (fun k _ ⟨i, g1, g2, g3⟩ => ⟨i, .inl g1, g2, g3⟩)).trans b.tch (fun k hk ⟨i, g1, g2, g3⟩ => ?_)
    rcases place i g2 with c | ⟨j, c1, c2, c3, c4⟩ | ⟨c1, c2, c3⟩
    · omega
    · exact ⟨j, .inl c1, c2, by rw [g3, c4]⟩
    · exact ⟨i, .inr g1, c2, by rw [g3, c3]⟩
  · exact a.old i (fun q => hi (.inl q)) (b.old i (fun q => hi (.inr q)) hh)
  · by_cases c : N2 i
    · rcases b.new i c hh with g | ⟨j, g1, g2, g3, g4⟩
      · exact .inl (Nat.le_trans a.tch.size g)
      · rcases place j g2 with c | ⟨j', c1, c2, c3, c4⟩ | ⟨c1, c2, c3⟩
        · exact .inl (by rw [g4]; exact c)
        · exact .inr ⟨j', .inl c1, c2, dead j' c2 c3, by rw [g4, c4]⟩
        · exact .inr ⟨j, .inr g1, c2, g3, by rw [g4, c3]⟩
    · have hn1 : N1 i := hi.resolve_right c
      rcases a.new i hn1 (b.old i c hh) with g | ⟨j, g1, g2, g3, g4⟩
      · exact .inl (by rw [b.same i c]; exact g)
      · exact .inr ⟨j, .inl g1, g2, dead j g2 g3, by rw [b.same i c]; exact g4⟩
end Go.Proofs.YtcmlgmiomcegeaaGreat.Ev
namespace Go.Proofs.YtcmlgmiomcegeaaGreat.Ev
open Go Go.RowKit Go.Maps
set_option linter.unusedVariables false
set_option linter.unusedSimpArgs false
set_option linter.unusedSectionVars false
variable [Env]

/-! ### Who must come ahead, as masks -/
noncomputable def bitsOf (L : List Nat) (l : List Nat) : Nat := l.foldl (fun s e => s ||| one e ||| L.getD e 0) 0
noncomputable def depsOf (o : Oper) : List Nat := (o.after.toList.filter (Region.binds .any)).map (·.on)
noncomputable def befs : List Oper → List Nat → List Nat
  | [], L => L
  | o :: l, L => befs l (L ++ [bitsOf L (depsOf o)])
noncomputable def allN (n : Nat) (p : Nat → Bool) : Bool := (List.range n).all p
noncomputable def befOk (ops : Array Oper) (L : List Nat) : Bool := allN ops.size fun j => (L.getD j 0 == bitsOf L (dps ops j)) && (dps ops j).all fun e => decide (e < j)
/-- Slots: who writes one and who looks at it, or writes it, are ordered. -/
noncomputable def slOk (ops : Array Oper) (L : List Nat) : Bool := allN ops.size fun j => match ops[j]? with
  | some oj => allN j fun i => (L.getD j 0).testBit i || (match ops[i]? with
    | some oi => Oper.apart ops oi oj
    | none => true)
  | none => true
noncomputable def regOk (ops : Array Oper) : Bool := let L := befs ops.toList []; befOk ops L && slOk ops L
theorem bits_mem {L : List Nat} {k : Nat} : ∀ {l : List Nat} {s : Nat}, tb (l.foldl (fun s e => s ||| one e ||| L.getD e 0) s) k = true → tb s k = true ∨ ∃ e ∈ l, k = e ∨ tb (L.getD e 0) k = true
  | [], s, h => .inl h
  | e :: l, s, h => by
    rw [List.foldl_cons] at h
    rcases bits_mem h with h | ⟨e', h1, h2⟩
    · rw [tb_or, tb_or] at h
      simp only [Bool.or_eq_true] at h
      rcases h with (h | h) | h
      · exact .inl h
      · refine .inr ⟨e, by simp, .inl ?_⟩
        by_cases c : k = e
        · exact c
        · rw [tb_one_ne c] at h; cases h
      · exact .inr ⟨e, by simp, .inr h⟩
    · exact .inr ⟨e', List.mem_cons_of_mem _ h1, h2⟩
theorem bef_spec {ops : Array Oper} {L : List Nat} (h : befOk ops L = true) : (∀ j, j < ops.size → ∀ e ∈ dps ops j, e < j) ∧ ∀ j, j < ops.size → ∀ k, tb (L.getD j 0) k = true → ∃ e ∈ dps ops j, k = e ∨ tb (L.getD e 0) k = true := by
  unfold befOk allN at h
  simp only [List.all_eq_true, List.mem_range, Bool.and_eq_true, beq_iff_eq, decide_eq_true_eq] at h
  refine ⟨fun j hj => (h j hj).2, fun j hj k hk => ?_⟩
  rw [(h j hj).1] at hk
  rcases bits_mem hk with h1 | h1
  · rw [tb_0] at h1; cases h1
  · exact h1
theorem anc_closed {ops : Array Oper} {L : List Nat} (h : befOk ops L = true) {S : Nat → Bool} (hcl : ∀ k, k < ops.size → S k = true → ∀ e ∈ dps ops k, S e = true) : ∀ j, j < ops.size → (∀ e ∈ dps ops j, S e = true) → ∀ k, tb (L.getD j 0) k = true → S k = true := by
  obtain ⟨h1, h2⟩ := bef_spec h
  intro j
  induction j using Nat.strongRecOn with
  | _ j ih =>
    intro hj hd k hk
    obtain ⟨e, he, hk⟩ := h2 j hj k hk
    rcases hk with rfl | hk
    · exact hd _ he
    · have hlt := h1 j hj e he
      exact ih e hlt (by omega) (hcl e (by omega) (hd e he)) k hk
/-- Memory: who writes an object, or makes it, and who looks at it are ordered. -/
noncomputable def memOk (L : List Nat) (rs : List (Nat × Nat)) : Bool := allN rs.length fun j => match rs[j]? with
  | some (Fj, Wj) => allN j fun i => (L.getD j 0).testBit i || (match rs[i]? with
    | some (Fi, Wi) => (Wi &&& Fj == 0) && (Wj &&& Fi == 0) && (Wi &&& Wj == 0)
    | none => true)
  | none => true
theorem and_0 {a b i : Nat} (h : (a &&& b == 0) = true) : tb a i = true → tb b i = false := fun ha => by
  have h0 : a &&& b = 0 := by simpa using h
  have : (a &&& b).testBit i = false := by rw [h0]; simp
  rw [Nat.testBit_and] at this
  unfold tb at ha ⊢
  rw [ha] at this
  simpa using this
/-- New ones, as a mask. -/
noncomputable def nwm (n n' : Nat) : Nat := 2 ^ n' - 2 ^ n
theorem tb_nwm {n n' i : Nat} (h : n ≤ n') : tb (nwm n n') i = (decide (n ≤ i) && decide (i < n')) := by
  have e : nwm n n' = (2 ^ (n' - n) - 1) <<< n := by
    unfold nwm
    rw [Nat.shiftLeft_eq, Nat.sub_mul, ← Nat.pow_add, Nat.one_mul]
    congr 2; omega
  unfold tb
  rw [e, Nat.testBit_shiftLeft, Nat.testBit_two_pow_sub_one]
  by_cases c : n ≤ i
  · have e1 : decide (i ≥ n) = true := decide_eq_true c
    rw [e1, Bool.true_and, Bool.true_and]
    congr 1
    apply propext
    omega
  · have e1 : decide (i ≥ n) = false := decide_eq_false c
    rw [e1]; rfl
/-- What the whole region looks at, writes. -/
noncomputable def orF (F : Nat → Nat) : Nat → Nat | 0 => 0 | k + 1 => orF F k ||| F k
theorem orF_mem {F : Nat → Nat} {i : Nat} : ∀ {m k : Nat}, k < m → tb (F k) i = true → tb (orF F m) i = true
  | 0, k, h, _ => by omega
  | m + 1, k, h, hk => by
    rw [orF, tb_or]
    by_cases e : k = m
    · subst e; rw [hk, Bool.or_true]
    · rw [orF_mem (show k < m by omega) hk]; rfl
theorem inv_all {H : Nat → Heap} {N F W : Nat → Nat} : ∀ {m : Nat}, (∀ k, k < m → Inv (H k) (H (k + 1)) (N k) (N (k + 1)) (F k) (W k)) → Inv (H 0) (H m) (N 0) (N m) (orF F m) (orF W m)
  | 0, _ => Inv.refl _ _
  | m + 1, h => (inv_all (fun k hk => h k (Nat.lt_succ_of_lt hk))).seq (h m (Nat.lt_succ_self m))
section
variable {P : Program} {ops : Array Oper} {Q : Exit → Act → World → Prop}
theorem region_any {idr nt : Nat} (hmix : P.follows .mixedOrders = true) (hreg : regOk ops = true) {st : Nat → St} {F W : Nat → Nat}
    (hinv : ∀ k, k < ops.size → Inv (hg (st k).H) (hg (st (k + 1)).H) (st k).n (st (k + 1)).n (F k) (W k)) (hmem : memOk (befs ops.toList []) ((List.range ops.size).map fun k => (F k, W k ||| nwm (st k).n (st (k + 1)).n)) = true)
    (hstep : ∀ k o, ops[k]? = some o → ∃ s : S, (∀ t, (st (k + 1)).A.get t = if o.dst = some t then some s else (st k).A.get t) ∧ (∀ t, o.dst = some t → t < nt) ∧
      ∀ σ D w a K Q, (∀ t ∈ o.looksAt ops, ∀ s, (st k).A.get t = some s → t < nt ∧ RS σ D s (a.eval (.tmp t))) → a.tmps.size = nt → Sat σ D (rst (tb (F k)) (hg (st k).H)) w → (∀ i, (st k).n ≤ i → hg (st k).H i = none) → (∀ i, (st k).n ≤ i → i < (st (k + 1)).n → ¬ D i) →
        (∀ σ' v w', RS σ' (more D (st k).n (st (k + 1)).n) s v → Out σ D w (rst (tb (F k)) (hg (st k).H)) (aft (tb (F k)) (st k).n (st (k + 1)).n (hg (st (k + 1)).H)) (st k).n (st (k + 1)).n (tb (W k)) σ' w' → K (a.put o.dst v) w') →
        (if Region.wanted o (yielded ops a.tmps) = true then Oper.wp P o a w K Q else K (a.put o.dst undef) w))
    {σ : Nat → Blk} {D : Nat → Prop} {w : World} {a : Act} (hA : RA σ D nt (st 0).A a) (hs : Sat σ D (rst (tb (orF F ops.size)) (hg (st 0).H)) w) (hdom : ∀ i, (st 0).n ≤ i → hg (st 0).H i = none) (hD : ∀ i, (st 0).n ≤ i → i < (st ops.size).n → ¬ D i)
    (hQ : ∀ σ' a' w', RA σ' (more D (st 0).n (st ops.size).n) nt (st ops.size).A a' → a'.defers = a.defers → Out σ D w (rst (tb (orF F ops.size)) (hg (st 0).H)) (aft (tb (orF F ops.size)) (st 0).n (st ops.size).n (hg (st ops.size).H)) (st 0).n (st ops.size).n (tb (orF W ops.size)) σ' w' → Q .normal a' w') :
    (Code.region idr ops true).wp P Q a w := by
  simp only [regOk, Bool.and_eq_true] at hreg
  obtain ⟨hbef, hsl⟩ := hreg
  generalize befs ops.toList [] = L at hbef hsl hmem
  obtain ⟨hless, _⟩ := bef_spec hbef
  -- numbers rise
  have hN : ∀ k, k ≤ ops.size → ∀ j, j ≤ k → (st j).n ≤ (st k).n := fun k => by
    induction k with
    | zero => intro _ j hj; rw [Nat.le_zero.1 hj]; exact Nat.le_refl _
    | succ k ih =>
      intro hk j hj
      by_cases e : j = k + 1
      · rw [e]; exact Nat.le_refl _
      · exact Nat.le_trans (ih (by omega) j (by omega)) (hinv k (by omega)).le
  have hdomk : ∀ k, k ≤ ops.size → ∀ i, (st k).n ≤ i → hg (st k).H i = none := fun k => by
    induction k with
    | zero => intro _; exact hdom
    | succ k ih => intro hk; exact (hinv k (by omega)).dom (ih (by omega))
  -- what a step turns
  let affH : Nat → Nat → Bool := fun k i => (tb (W k) i && decide (i < (st k).n)) || (decide ((st k).n ≤ i) && decide (i < (st (k + 1)).n))
  let affS : Nat → Nat → Bool := fun k t => ((ops[k]?).bind (·.dst)) == some t
  have noH : ∀ k, k < ops.size → ∀ i, affH k i = false → hg (st (k + 1)).H i = hg (st k).H i := fun k hk i h => by
    simp only [affH, Bool.or_eq_false_iff] at h
    by_cases c : i < (st k).n
    · refine (hinv k hk).low i c ?_
      have := h.1
      rw [decide_eq_true c, Bool.and_true] at this
      exact this
    · have h2 := h.2
      rw [decide_eq_true (show (st k).n ≤ i by omega), Bool.true_and] at h2
      have c2 : (st (k + 1)).n ≤ i := by have := of_decide_eq_false h2; omega
      rw [hdomk (k + 1) (by omega) i c2, hdomk k (by omega) i (by omega)]
  have noS : ∀ k, k < ops.size → ∀ t, affS k t = false → (st (k + 1)).A.get t = (st k).A.get t := fun k hk t h => by
    obtain ⟨o, ho⟩ : ∃ o, ops[k]? = some o := ⟨_, Array.getElem?_eq_getElem hk⟩
    obtain ⟨s, h1, _⟩ := hstep k o ho
    rw [h1, if_neg]
    intro e
    simp only [affS, ho, Option.bind_some, e] at h
    simp at h
  have affW : ∀ k, k < ops.size → ∀ i, affH k i = true → tb (W k ||| nwm (st k).n (st (k + 1)).n) i = true := fun k hk i h => by
    rw [tb_or, tb_nwm (hinv k hk).le]
    simp only [affH, Bool.or_eq_true, Bool.and_eq_true] at h ⊢
    exact h.imp (fun h => h.1) (fun h => h)
  -- ordered pairs
  have pairH : ∀ i j, i < j → j < ops.size → ∀ x, ((affH i x = true ∧ (tb (F j) x = true ∨ affH j x = true)) ∨ (affH j x = true ∧ (tb (F i) x = true ∨ affH i x = true))) → tb (L.getD j 0) i = true := fun i j hij hj x hx => by
    unfold memOk allN at hmem
    rw [List.all_eq_true] at hmem
    have h1 := hmem j (by simp; exact hj)
    have e1 : ((List.range ops.size).map fun k => (F k, W k ||| nwm (st k).n (st (k + 1)).n))[j]? = some (F j, W j ||| nwm (st j).n (st (j + 1)).n) := by simp [hj]
    rw [e1] at h1
    simp only [List.all_eq_true] at h1
    have h2 := h1 i (by simp; exact hij)
    have e2 : ((List.range ops.size).map fun k => (F k, W k ||| nwm (st k).n (st (k + 1)).n))[i]? = some (F i, W i ||| nwm (st i).n (st (i + 1)).n) := by simp [show i < ops.size by omega]
    rw [e2] at h2
    simp only [Bool.or_eq_true] at h2
    rcases h2 with h2 | h2
    · exact h2
    · exfalso
      simp only [Bool.and_eq_true] at h2
      obtain ⟨⟨g1, g2⟩, g3⟩ := h2
      rcases hx with ⟨a1, a2 | a2⟩ | ⟨a1, a2 | a2⟩
      · have := and_0 g1 (affW i (by omega) x a1); rw [a2] at this; cases this
      · have := and_0 g3 (affW i (by omega) x a1); rw [affW j hj x a2] at this; cases this
      · have := and_0 g2 (affW j hj x a1); rw [a2] at this; cases this
      · have := and_0 g3 (affW i (by omega) x a2); rw [affW j hj x a1] at this; cases this
  have pairS : ∀ i j oi oj, i < j → ops[i]? = some oi → ops[j]? = some oj → ∀ t, ((oi.dst = some t ∧ (t ∈ oj.looksAt ops ∨ oj.dst = some t)) ∨ (oj.dst = some t ∧ t ∈ oi.looksAt ops)) → tb (L.getD j 0) i = true := fun i j oi oj hij hoi hoj t ht => by
    have hj : j < ops.size := (Array.getElem?_eq_some_iff.1 hoj).1
    unfold slOk allN at hsl
    rw [List.all_eq_true] at hsl
    have h1 := hsl j (by simp; exact hj)
    rw [hoj] at h1
    simp only [List.all_eq_true] at h1
    have h2 := h1 i (by simp; exact hij)
    rw [hoi] at h2
    simp only [Bool.or_eq_true] at h2
    rcases h2 with h2 | h2
    · exact h2
    · exfalso
      simp only [Oper.apart, Bool.and_eq_true] at h2
      obtain ⟨g1, g2⟩ := h2
      rcases ht with ⟨a1, a2 | a2⟩ | ⟨a1, a2⟩
      · rw [a1] at g1
        simp only [Bool.and_eq_true, Bool.not_eq_true'] at g1
        have := g1.1
        rw [List.contains_iff_mem.2 a2] at this; cases this
      · rw [a1] at g1
        simp only [Bool.and_eq_true] at g1
        have := g1.2
        rw [a2] at this; simp at this
      · rw [a1] at g2
        simp only [Bool.not_eq_true'] at g2
        rw [List.contains_iff_mem.2 a2] at g2; cases g2
  have hDk : ∀ (S : Nat → Bool) i, (∃ k, k < ops.size ∧ S k = true ∧ (st k).n ≤ i ∧ i < (st (k + 1)).n) → (st 0).n ≤ i ∧ i < (st ops.size).n := fun S i ⟨k, h1, _, h2, h3⟩ => ⟨Nat.le_trans (hN k (by omega) 0 (Nat.zero_le _)) h2, Nat.lt_of_lt_of_le h3 (hN ops.size (Nat.le_refl _) (k + 1) (by omega))⟩
  let fH : Nat → Nat → Option AO := fun k i => hg (st k).H i
  let fS : Nat → Nat → Option S := fun k t => (st k).A.get t
  let hS : (Nat → Bool) → Heap := fun S => aft (tb (orF F ops.size)) (st 0).n (st ops.size).n (cmb affH fH S ops.size)
  let NS : (Nat → Bool) → Nat → Prop := fun S i => ∃ k, k < ops.size ∧ S k = true ∧ (st k).n ≤ i ∧ i < (st (k + 1)).n
  let J : (Nat → Bool) → Act → World → Prop := fun S a' w' => a'.tmps.size = nt ∧ a'.defers = a.defers ∧ ∃ σ', OutP σ D w (rst (tb (orF F ops.size)) (hg (st 0).H)) (hS S) (NS S) (fun i => tb (orF W ops.size) i = true) σ' w' ∧
    ∀ t s, cmb affS fS S ops.size t = some s → t < nt ∧ RS σ' (fun i => D i ∨ NS S i) s (a'.eval (.tmp t))
  have hfind : ∀ m i, (st 0).n ≤ i → i < (st m).n → ∃ k, k < m ∧ (st k).n ≤ i ∧ i < (st (k + 1)).n := fun m => by
    induction m with
    | zero => intro i h1 h2; omega
    | succ m ih =>
      intro i h1 h2
      by_cases c : i < (st m).n
      · obtain ⟨k, g1, g2⟩ := ih i h1 c
        exact ⟨k, by omega, g2⟩
      · exact ⟨m, by omega, by omega, h2⟩
  have start : J (fun k => (Array.replicate ops.size false).getD k true) a w.drew := by
    have hno : ∀ k, k < ops.size → (Array.replicate ops.size false).getD k true = false := fun k hk => by
      rw [Array.getD_eq_getD_getElem?, Array.getElem?_replicate, if_pos hk]; rfl
    have hns : ∀ i, ¬ NS (fun k => (Array.replicate ops.size false).getD k true) i := fun i ⟨k, h1, h2, _⟩ => by
      have h2' : (Array.replicate ops.size false).getD k true = true := h2
      rw [hno k h1] at h2'; cases h2'
    have hH0 : hS (fun k => (Array.replicate ops.size false).getD k true) = rst (tb (orF F ops.size)) (hg (st 0).H) := by
      funext i
      have e : cmb affH fH (fun k => (Array.replicate ops.size false).getD k true) ops.size i = hg (st 0).H i := cmb_eq (f := fH) (Nat.zero_le _) (fun k hk h => noH k hk i h) (fun k hk => by omega) (fun k _ hk _ => hno k hk)
      show aft (tb (orF F ops.size)) (st 0).n (st ops.size).n (cmb affH fH _ ops.size) i = _
      unfold aft rst
      rw [e]
      by_cases c : tb (orF F ops.size) i = true
      · rw [if_pos (.inl c), if_pos c]
      · rw [if_neg c]
        split
        · rename_i h; exact hdom i (h.resolve_left c).1
        · rfl
    refine ⟨hA.1, rfl, σ, ?_, fun t s e => ?_⟩
    · rw [hH0]
      refine ⟨fun _ _ => rfl, ⟨fun i ob e => ?_, hs.inj⟩, (Tch.drew w).mono (fun _ _ h => h.elim), fun _ _ h => h, fun i h => (hns i h).elim⟩
      obtain ⟨h1, h2⟩ := hs.obj i ob e
      exact ⟨.inl h1, h2.ext rfl rfl (fun _ _ => rfl) (fun _ h => .inl h)⟩
    · have e0 : cmb affS fS (fun k => (Array.replicate ops.size false).getD k true) ops.size t = (st 0).A.get t := cmb_eq (f := fS) (Nat.zero_le _) (fun k hk h => noS k hk t h) (fun k hk => by omega) (fun k _ hk _ => hno k hk)
      rw [e0] at e
      obtain ⟨h1, h2⟩ := hA.2 t s e
      exact ⟨h1, h2.ext (fun _ _ => rfl) (fun _ h => .inl h)⟩
  refine wp_region_any hmix (any_gen hless J (fun S i o a' w' ho hJ hSi hcl hdeps K hK => ?_) (fun S a' w' hJ hall => ?_) ops.size _ a _ (by simp) (fun i hi h => ?_) ?_ start)
  · -- a step
    obtain ⟨hsz, hdf, σ', hout, hRA⟩ := hJ
    have hi : i < ops.size := (Array.getElem?_eq_some_iff.1 ho).1
    have hanci := anc_closed hbef hcl i hi hdeps
    have hancj : ∀ j, j < ops.size → S j = true → ∀ k, tb (L.getD j 0) k = true → S k = true := fun j hj hSj => anc_closed hbef hcl j hj (hcl j hj hSj)
    have loH : ∀ x, (tb (F i) x = true ∨ affH i x = true) → ∀ k, k < i → affH k x = true → S k = true := fun x hx k hk ha => hanci k (pairH k i hk hi x (.inl ⟨ha, hx⟩))
    have hiH : ∀ x, (tb (F i) x = true ∨ affH i x = true) → ∀ k, i < k → k < ops.size → affH k x = true → S k = false := fun x hx k hik hk ha => by
      cases e : S k with
      | false => rfl
      | true => have := hancj k hk e i (pairH i k hik hk x (.inr ⟨ha, hx⟩)); rw [hSi] at this; cases this
    have agreeH : ∀ x, (tb (F i) x = true ∨ affH i x = true) → cmb affH fH S ops.size x = hg (st i).H x := fun x hx => cmb_eq (f := fH) (Nat.le_of_lt hi) (fun k hk h => noH k hk x h) (loH x hx) (fun k hik hk ha => by
      by_cases e : k = i
      · rw [e]; exact hSi
      · exact hiH x hx k (by omega) hk ha)
    have loS : ∀ t, (t ∈ o.looksAt ops ∨ o.dst = some t) → ∀ k, k < i → affS k t = true → S k = true := fun t ht k hk ha => by
      obtain ⟨ok, hok⟩ : ∃ o, ops[k]? = some o := ⟨_, Array.getElem?_eq_getElem (by omega)⟩
      have hdk : ok.dst = some t := by simpa [affS, hok] using ha
      exact hanci k (pairS k i ok o hk hok ho t (.inl ⟨hdk, ht⟩))
    have hiS : ∀ t, (t ∈ o.looksAt ops ∨ o.dst = some t) → ∀ k, i < k → k < ops.size → affS k t = true → S k = false := fun t ht k hik hk ha => by
      obtain ⟨ok, hok⟩ : ∃ o, ops[k]? = some o := ⟨_, Array.getElem?_eq_getElem hk⟩
      have hdk : ok.dst = some t := by simpa [affS, hok] using ha
      cases e : S k with
      | false => rfl
      | true =>
        have := hancj k hk e i (pairS i k o ok hik ho hok t (ht.elim (fun h => .inr ⟨hdk, h⟩) (fun h => .inl ⟨h, .inr hdk⟩)))
        rw [hSi] at this; cases this
    have agreeS : ∀ t, (t ∈ o.looksAt ops ∨ o.dst = some t) → cmb affS fS S ops.size t = (st i).A.get t := fun t ht => cmb_eq (f := fS) (Nat.le_of_lt hi) (fun k hk h => noS k hk t h) (loS t ht) (fun k hik hk ha => by
      by_cases e : k = i
      · rw [e]; exact hSi
      · exact hiS t ht k (by omega) hk ha)
    have fresh : ∀ x, (st i).n ≤ x → x < (st (i + 1)).n → ¬ (D x ∨ NS S x) := fun x h1 h2 h => by
      rcases h with h | ⟨k, g1, g2, g3, g4⟩
      · exact hD x (Nat.le_trans (hN i (by omega) 0 (Nat.zero_le _)) h1) (Nat.lt_of_lt_of_le h2 (hN ops.size (Nat.le_refl _) (i + 1) (by omega))) h
      · by_cases c : k < i
        · have := hN i (by omega) (k + 1) (by omega); omega
        · by_cases c2 : k = i
          · subst c2; rw [hSi] at g2; cases g2
          · have := hN k (by omega) (i + 1) (by omega); omega
    obtain ⟨s, h1, h2, h3⟩ := hstep i o ho
    have hsat : Sat σ' (fun i => D i ∨ NS S i) (rst (tb (F i)) (hg (st i).H)) w' := hout.sat.sub (fun x ob e => by
      obtain ⟨e1, e2⟩ := rst_some.1 e
      refine aft_some.2 ⟨.inl (orF_mem hi e1), ?_⟩
      rw [agreeH x (.inl e1)]; exact e2)
    refine h3 σ' _ w' a' K Q (fun t ht u hu => hRA t u (by rw [agreeS t (.inl ht)]; exact hu)) hsz hsat (hdomk i (by omega)) fresh (fun σ'' v w'' hv hst => hK _ _ ?_)
    have hNS : NS (fun k => S k || k == i) = fun x => NS S x ∨ ((st i).n ≤ x ∧ x < (st (i + 1)).n) := by
      funext x
      apply propext
      constructor
      · rintro ⟨k, g1, g2, g3⟩
        by_cases c : k = i
        · subst c; exact .inr g3
        · exact .inl ⟨k, g1, by simpa [c] using g2, g3⟩
      · rintro (⟨k, g1, g2, g3⟩ | g)
        · exact ⟨k, g1, by simp [g2], g3⟩
        · exact ⟨i, hi, by simp, g⟩
    have hins : upd (tb (F i)) (st i).n (st (i + 1)).n (hS S) (aft (tb (F i)) (st i).n (st (i + 1)).n (hg (st (i + 1)).H)) = hS (fun k => S k || k == i) := by
      funext x
      show _ = aft (tb (orF F ops.size)) (st 0).n (st ops.size).n (cmb affH fH (fun k => S k || k == i) ops.size) x
      unfold upd
      by_cases c : tb (F i) x = true ∨ ((st i).n ≤ x ∧ x < (st (i + 1)).n)
      · rw [if_pos (by simpa using c)]
        unfold aft
        rw [if_pos c, if_pos (c.imp (orF_mem hi) (fun ⟨p, q⟩ => ⟨Nat.le_trans (hN i (by omega) 0 (Nat.zero_le _)) p, Nat.lt_of_lt_of_le q (hN ops.size (Nat.le_refl _) (i + 1) (by omega))⟩))]
        cases ha : affH i x with
        | true =>
          refine (cmb_eq (f := fH) (i := i + 1) (by omega) (fun k hk h => noH k hk x h) (fun k hk hak => ?_) (fun k hik hk hak => ?_)).symm
          · by_cases e : k = i
            · simp [e]
            · rw [loH x (.inr ha) k (by omega) hak]; rfl
          · rw [hiH x (.inr ha) k (by omega) hk hak]
            simp; omega
        | false =>
          have hFx : tb (F i) x = true := by
            rcases c with c | ⟨p, q⟩
            · exact c
            · exfalso
              simp only [affH, Bool.or_eq_false_iff] at ha
              have := ha.2
              rw [decide_eq_true p, decide_eq_true q] at this; cases this
          rw [cmb_other ha, agreeH x (.inl hFx), noH i hi x ha]
      · rw [if_neg (by simpa using c)]
        have ha : affH i x = false := by
          simp only [affH, Bool.or_eq_false_iff]
          refine ⟨?_, ?_⟩
          · cases e : tb (W i) x with
            | false => rfl
            | true =>
              cases e2 : decide (x < (st i).n) with
              | false => rfl
              | true => exact (c (.inl ((hinv i hi).sub x (of_decide_eq_true e2) e))).elim
          · cases e : decide ((st i).n ≤ x) with
            | false => rfl
            | true =>
              cases e2 : decide (x < (st (i + 1)).n) with
              | false => rfl
              | true => exact (c (.inr ⟨of_decide_eq_true e, of_decide_eq_true e2⟩)).elim
        show aft (tb (orF F ops.size)) (st 0).n (st ops.size).n (cmb affH fH S ops.size) x = _
        unfold aft
        rw [cmb_other ha]
    have hWF : ∀ x, tb (W i) x = true → (rst (tb (F i)) (hg (st i).H) x).isSome = true → tb (F i) x = true := fun x _ h => by
      obtain ⟨y, hy⟩ := Option.isSome_iff_exists.1 h
      exact (rst_some.1 hy).1
    have hfr := frame hout.sat (g := rst (tb (F i)) (hg (st i).H)) (F := tb (F i)) (W := fun x => tb (W i) x && tb (F i) x) (fun x hx => by
        unfold rst
        rw [if_pos hx]
        show _ = aft (tb (orF F ops.size)) (st 0).n (st ops.size).n (cmb affH fH S ops.size) x
        unfold aft
        rw [if_pos (.inl (orF_mem hi hx)), agreeH x (.inl hx)]) (fun x hx => by unfold rst; rw [if_neg (by rw [hx]; simp)]) fresh
      (⟨hst.same, hst.sat, hst.tch.mono (fun k _ ⟨j, g1, g2, g3⟩ => ⟨j, by rw [g1, hWF j g1 g2]; rfl, g2, g3⟩), hst.old, fun x h1 h2 h3 => (hst.new x h1 h2 h3).imp id (fun ⟨j, g1, g2, g3, g4⟩ => ⟨j, by rw [g1, hWF j g1 g2]; rfl, g2, g3, g4⟩)⟩ : Out σ' (fun i => D i ∨ NS S i) w' (rst (tb (F i)) (hg (st i).H)) _ _ _ (fun x => tb (W i) x && tb (F i) x) σ'' w'') (fun x hx => by simp at hx; exact hx.2)
    rw [hins] at hfr
    have hD' : ∀ x, NS S x ∨ ((st i).n ≤ x ∧ x < (st (i + 1)).n) → ¬ D x := fun x hx hd => by
      rcases hx with hx | ⟨p, q⟩
      · obtain ⟨p, q⟩ := hDk S x hx; exact hD x p q hd
      · exact fresh x p q (.inl hd)
    have htr := OutP.trans hs hD' hout hfr.toP (fun x hx hy => fresh x hy.1 hy.2 (.inr hx))
    refine ⟨by cases o.dst <;> simp [Act.put, hsz], by cases o.dst <;> simp [Act.put, hdf], σ'', ?_, fun t u e => ?_⟩
    · rw [hNS]
      have hw : ∀ x, (tb (orF W ops.size) x = true ∨ (tb (W i) x && tb (F i) x) = true) → tb (orF W ops.size) x = true := fun x hx => hx.elim id (fun h => orF_mem hi (by simp at h; exact h.1))
      exact ⟨htr.same, htr.sat, htr.tch.mono (fun k _ ⟨j, g1, g2⟩ => ⟨j, hw j g1, g2⟩), htr.old, fun x hx hh => (htr.new x hx hh).imp id (fun ⟨j, g1, g2⟩ => ⟨j, hw j g1, g2⟩)⟩
    · rw [hNS]
      by_cases c : o.dst = some t
      · have ha : affS i t = true := by simp [affS, ho, c]
        have e2 : cmb affS fS (fun k => S k || k == i) ops.size t = (st (i + 1)).A.get t := cmb_eq (f := fS) (i := i + 1) (by omega) (fun k hk h => noS k hk t h) (fun k hk hak => by
            by_cases e : k = i
            · simp [e]
            · rw [loS t (.inr c) k (by omega) hak]; rfl) (fun k hik hk hak => by
            rw [hiS t (.inr c) k (by omega) hk hak]
            simp; omega)
        rw [e2, h1, if_pos c] at e
        cases e
        have hlt := h2 t c
        refine ⟨hlt, ?_⟩
        have hev : (a'.put o.dst v).eval (.tmp t) = v := by rw [c]; simp [Act.put, Act.eval, hsz, hlt]
        rw [hev]
        exact hv.ext (fun _ _ => rfl) (fun x hx => hx.elim (fun h => h.elim .inl (fun h => .inr (.inl h))) (fun h => .inr (.inr h)))
      · have ha : affS i t = false := by simp [affS, ho, c]
        rw [cmb_other ha] at e
        obtain ⟨g1, g2⟩ := hRA t u e
        refine ⟨g1, ?_⟩
        have hev : (a'.put o.dst v).eval (.tmp t) = a'.eval (.tmp t) := by
          cases hd : o.dst with
          | none => rfl
          | some d =>
            have hne : d ≠ t := fun e => c (by rw [hd, e])
            simp [Act.put, Act.eval, Array.getElem?_setIfInBounds, hne]
        rw [hev]
        exact g2.ext (fun x hx => hst.same x (fun ⟨p, q⟩ => fresh x p q hx)) (fun x hx => hx.elim .inl (fun h => .inr (.inl h)))
  · -- all are listed
    obtain ⟨hsz, hdf, σ', hout, hRA⟩ := hJ
    have hNS : NS S = fun x => (st 0).n ≤ x ∧ x < (st ops.size).n := by
      funext x
      apply propext
      constructor
      · exact hDk S x
      · rintro ⟨p, q⟩
        obtain ⟨k, g1, g2⟩ := hfind ops.size x p q
        exact ⟨k, g1, hall k g1, g2⟩
    have hHm : hS S = aft (tb (orF F ops.size)) (st 0).n (st ops.size).n (hg (st ops.size).H) := by
      funext x
      show aft (tb (orF F ops.size)) (st 0).n (st ops.size).n (cmb affH fH S ops.size) x = _
      unfold aft
      rw [cmb_eq (f := fH) (i := ops.size) (Nat.le_refl _) (fun k hk h => noH k hk x h) (fun k hk _ => hall k hk) (fun k h1 h2 => by omega)]
    rw [hNS, hHm] at hout
    rw [hNS] at hRA
    refine hQ σ' a' w' ⟨hsz, fun t u e => hRA t u ?_⟩ hdf ⟨hout.same, hout.sat, hout.tch, hout.old, fun x h1 h2 h3 => hout.new x ⟨h1, h2⟩ h3⟩
    rw [cmb_eq (f := fS) (i := ops.size) (Nat.le_refl _) (fun k hk h => noS k hk t h) (fun k hk _ => hall k hk) (fun k h1 h2 => by omega)]
    exact e
  · rw [Array.getD_eq_getD_getElem?, Array.getElem?_replicate, if_pos hi] at h; cases h
  · have : (List.range ops.size).countP (fun i => !(Array.replicate ops.size false).getD i true) = (List.range ops.size).length := List.countP_eq_length.2 (fun i hi => by
      rw [Array.getD_eq_getD_getElem?, Array.getElem?_replicate, if_pos (List.mem_range.1 hi)]; rfl)
    rw [this, List.length_range]
end
end Go.Proofs.YtcmlgmiomcegeaaGreat.Ev
namespace Go.Proofs.YtcmlgmiomcegeaaGreat.Ev
open Go Go.RowKit Go.Maps
set_option linter.unusedVariables false
set_option linter.unusedSimpArgs false
set_option linter.unusedSectionVars false
variable [Env]

noncomputable def evL (call : CallF) (P : Program) (ops : Array Oper) (nt : Nat) : List Oper → St → Option (St × List (Nat × Nat × Nat))
  | [], st => some (st, [])
  | o :: l, st => match stepG call P ops nt st o with
    | some (st1, F, W) => match evL call P ops nt l st1 with
      | some (st2, rs) => some (st2, (F, W, nwm st.n st1.n) :: rs)
      | none => none
    | none => none
noncomputable def orL1 : List (Nat × Nat × Nat) → Nat | [] => 0 | r :: l => r.1 ||| orL1 l
noncomputable def orL2 : List (Nat × Nat × Nat) → Nat | [] => 0 | r :: l => r.2.1 ||| orL2 l
inductive X | nm | ex (id : Nat) | rt
noncomputable def X.out : X → Exit | .nm => .normal | .ex id => .exit id | .rt => .ret
abbrev CRes := Option (X × St × Nat × Nat)
/-! ### The check of a region that draws, short -/
noncomputable def orB (a b : Bool) : Bool := Bool.rec (motive := fun _ => Bool) b true a
noncomputable def andB (a b : Bool) : Bool := Bool.rec (motive := fun _ => Bool) false b a
theorem orB_eq (a b : Bool) : orB a b = (a || b) := by cases a <;> rfl
theorem andB_eq (a b : Bool) : andB a b = (a && b) := by cases a <;> rfl
noncomputable def okP (F W F2 W2 : Nat) : Bool := andB (orB (Nat.beq W2 0) (Nat.beq (Nat.land W2 F) 0)) (orB (Nat.beq W 0) (andB (Nat.beq (Nat.land W F2) 0) (Nat.beq (Nat.land W W2) 0)))
noncomputable def chkEs (b F W : Nat) (es : List (Nat × Nat × Nat)) : Bool := List.rec (motive := fun _ => Bool) true (fun e _ ih => Prod.rec (motive := fun _ => Bool) (fun i fw => Prod.rec (motive := fun _ => Bool) (fun F0 W0 => andB (orB (Nat.testBit b i) (okP F0 W0 F W)) ih) fw) e) es
noncomputable def memF (L : List Nat) (rs : List (Nat × Nat × Nat)) : Nat → List (Nat × Nat × Nat) → Bool := List.rec (motive := fun _ => Nat → List (Nat × Nat × Nat) → Bool) (fun _ _ => true) (fun r _ ih j es => Prod.rec (motive := fun _ => Bool) (fun F ww => Prod.rec (motive := fun _ => Bool) (fun W nw => Bool.rec (motive := fun _ => Bool) (andB (chkEs (L.getD j 0) F (Nat.lor W nw) es) (ih (Nat.succ j) ((j, F, Nat.lor W nw) :: es))) (ih (Nat.succ j) es) (andB (Nat.beq (Nat.lor W nw) 0) (Nat.beq F 0))) ww) r) rs
theorem chkEs_mem {b F W : Nat} : ∀ {es : List (Nat × Nat × Nat)}, chkEs b F W es = true → ∀ e ∈ es, b.testBit e.1 = true ∨ okP e.2.1 e.2.2 F W = true
  | [], _, e, he => by cases he
  | (i, F0, W0) :: es, h, e, he => by
    have h' : andB (orB (Nat.testBit b i) (okP F0 W0 F W)) (chkEs b F W es) = true := h
    rw [andB_eq, orB_eq, Bool.and_eq_true, Bool.or_eq_true] at h'
    rcases List.mem_cons.1 he with rfl | he
    · exact h'.1
    · exact chkEs_mem h'.2 e he
theorem okP_0l (F W : Nat) : okP 0 0 F W = true := by
  unfold okP
  simp [andB_eq, orB_eq, show Nat.land W 0 = 0 from Nat.and_zero W]
theorem okP_0r (F W : Nat) : okP F W 0 0 = true := by
  unfold okP
  simp [andB_eq, orB_eq, show Nat.land W 0 = 0 from Nat.and_zero W]
theorem memF_pairs {L : List Nat} : ∀ {rs : List (Nat × Nat × Nat)} {j : Nat} {es : List (Nat × Nat × Nat)}, memF L rs j es = true →
    (∀ (k : Nat) (r : Nat × Nat × Nat), rs[k]? = some r → ∀ e ∈ es, (L.getD (j + k) 0).testBit e.1 = true ∨ okP e.2.1 e.2.2 r.1 (r.2.1 ||| r.2.2) = true) ∧
    ∀ (k l : Nat) (r s : Nat × Nat × Nat), k < l → rs[k]? = some r → rs[l]? = some s → (L.getD (j + l) 0).testBit (j + k) = true ∨ okP r.1 (r.2.1 ||| r.2.2) s.1 (s.2.1 ||| s.2.2) = true
  | [], j, es, _ => ⟨fun k r e => by simp at e, fun k l r s _ e => by simp at e⟩
  | (F, W, nw) :: rs, j, es, h => by
    have h' : Bool.rec (motive := fun _ => Bool) (andB (chkEs (L.getD j 0) F (Nat.lor W nw) es) (memF L rs (Nat.succ j) ((j, F, Nat.lor W nw) :: es))) (memF L rs (Nat.succ j) es) (andB (Nat.beq (Nat.lor W nw) 0) (Nat.beq F 0)) = true := h
    cases c : andB (Nat.beq (Nat.lor W nw) 0) (Nat.beq F 0) with
    | true =>
      rw [c] at h'
      rw [andB_eq, Bool.and_eq_true] at c
      have hW : W ||| nw = 0 := Nat.eq_of_beq_eq_true c.1
      have hF : F = 0 := Nat.eq_of_beq_eq_true c.2
      obtain ⟨a, b⟩ := memF_pairs h'
      refine ⟨fun k r e x hx => ?_, fun k l r s hkl e1 e2 => ?_⟩
      · cases k with
        | zero =>
          simp only [List.getElem?_cons_zero, Option.some.injEq] at e
          subst e
          right
          show okP x.2.1 x.2.2 F (W ||| nw) = true
          rw [hW, hF]; exact okP_0r _ _
        | succ k =>
          have := a k r (by simpa using e) x hx
          rwa [show Nat.succ j + k = j + (k + 1) by omega] at this
      · cases l with
        | zero => omega
        | succ l =>
          cases k with
          | zero =>
            simp only [List.getElem?_cons_zero, Option.some.injEq] at e1
            subst e1
            right
            show okP F (W ||| nw) _ _ = true
            rw [hW, hF]; exact okP_0l _ _
          | succ k =>
            have := b k l r s (by omega) (by simpa using e1) (by simpa using e2)
            rwa [show Nat.succ j + l = j + (l + 1) by omega, show Nat.succ j + k = j + (k + 1) by omega] at this
    | false =>
      rw [c] at h'
      have h2 : andB (chkEs (L.getD j 0) F (Nat.lor W nw) es) (memF L rs (Nat.succ j) ((j, F, Nat.lor W nw) :: es)) = true := h'
      rw [andB_eq, Bool.and_eq_true] at h2
      obtain ⟨a, b⟩ := memF_pairs h2.2
      refine ⟨fun k r e x hx => ?_, fun k l r s hkl e1 e2 => ?_⟩
      · cases k with
        | zero =>
          simp only [List.getElem?_cons_zero, Option.some.injEq] at e
          subst e
          exact chkEs_mem h2.1 x hx
        | succ k =>
          have := a k r (by simpa using e) x (List.mem_cons_of_mem _ hx)
          rwa [show Nat.succ j + k = j + (k + 1) by omega] at this
      · cases l with
        | zero => omega
        | succ l =>
          cases k with
          | zero =>
            simp only [List.getElem?_cons_zero, Option.some.injEq] at e1
            subst e1
            have := a l s (by simpa using e2) (j, F, Nat.lor W nw) (by simp)
            rwa [show Nat.succ j + l = j + (l + 1) by omega] at this
          | succ k =>
            have := b k l r s (by omega) (by simpa using e1) (by simpa using e2)
            rwa [show Nat.succ j + l = j + (l + 1) by omega, show Nat.succ j + k = j + (k + 1) by omega] at this
theorem okP_ok {F W F2 W2 : Nat} (h : okP F W F2 W2 = true) : ((W &&& F2 == 0) && (W2 &&& F == 0) && (W &&& W2 == 0)) = true := by
  unfold okP at h
  rw [andB_eq, orB_eq, orB_eq, andB_eq, Bool.and_eq_true, Bool.or_eq_true, Bool.or_eq_true, Bool.and_eq_true] at h
  obtain ⟨h1, h2⟩ := h
  have e : ∀ {a b : Nat}, Nat.beq a b = true → a = b := Nat.eq_of_beq_eq_true
  have a1 : W2 &&& F = 0 := by
    rcases h1 with h1 | h1
    · rw [e h1]; exact Nat.zero_and _
    · exact e h1
  have a2 : W &&& F2 = 0 ∧ W &&& W2 = 0 := by
    rcases h2 with h2 | h2
    · rw [e h2]; exact ⟨Nat.zero_and _, Nat.zero_and _⟩
    · exact ⟨e h2.1, e h2.2⟩
  simp [a1, a2.1, a2.2]
theorem memF_ok {L : List Nat} {rs : List (Nat × Nat × Nat)} (h : memF L rs 0 [] = true) : memOk L (rs.map fun r => (r.1, r.2.1 ||| r.2.2)) = true := by
  obtain ⟨_, h2⟩ := memF_pairs h
  unfold memOk allN
  simp only [List.all_eq_true, List.mem_range, List.length_map, List.getElem?_map]
  intro j hj
  rw [List.getElem?_eq_getElem hj]
  simp only [Option.map_some, List.all_eq_true, List.mem_range, Bool.or_eq_true]
  intro i hi
  rw [List.getElem?_eq_getElem (show i < rs.length by omega)]
  simp only [Option.map_some]
  rcases h2 i j _ _ hi (List.getElem?_eq_getElem (by omega)) (List.getElem?_eq_getElem hj) with h3 | h3
  · left; rwa [Nat.zero_add, Nat.zero_add] at h3
  · right; exact okP_ok h3
/-- What is asked of a region that draws. -/
noncomputable def okD (ops : Array Oper) (rs : List (Nat × Nat × Nat)) (n n2 : Nat) : Bool := orB (andB (Nat.beq (orL2 rs) 0) (Nat.beq n n2)) (memF (befs ops.toList []) rs 0 [])
noncomputable def evR (call : CallF) (P : Program) (nt : Nat) (ops : Array Oper) (draw : Bool) (st : St) : CRes := match evL call P ops nt ops.toList st with
  | some (st2, rs) => if draw && !okD ops rs st.n st2.n then none else some (.nm, st2, orL1 rs, orL2 rs)
  | none => none
noncomputable def iter (f : St → CRes) : Nat → St → CRes
  | 0, _ => none
  | k + 1, st => match f st with
    | some (.nm, st1, F1, W1) => match iter f k st1 with
      | some (x, st2, F2, W2) => some (x, st2, F1 ||| F2, W1 ||| W2)
      | none => none
    | r => r
/-- Rounds of a loop that are told from outside: where the loop may go on, what was looked at. -/
abbrev Hook := Code → Option (St → Option (St × Nat))
def noHook : Hook := fun _ => none
noncomputable def skipC (g : St → Option (St × Nat)) (it : St → CRes) (st : St) : CRes := match g st with
  | some (st1, F) => match it st1 with
    | some (x, st2, F2, W2) => some (x, st2, F ||| F2, W2)
    | none => none
  | none => it st
/-! ### Two branches of which nobody knows which one is gone -/
def eqCC : C → C → Bool
  | .bool a, .bool b => a == b
  | .int k a, .int k' b => decide (k = k') && decide (a = b)
  | .str a, .str b => a == b
  | .ptr i o, .ptr j p => Nat.beq i j && Nat.beq o p
  | .nilp, .nilp => true
  | .sl i o l (.ex c), .sl j p m (.ex d) => Nat.beq i j && Nat.beq o p && Nat.beq l m && Nat.beq c d
  | .sl i o l (.op c), .sl j p m (.op d) => Nat.beq i j && Nat.beq o p && Nat.beq l m && Nat.beq c d
  | .snil, .snil => true
  | .se, .se => true
  | .map i, .map j => Nat.beq i j
  | .mapn, .mapn => true
  | .nilf, .nilf => true
  | .nilI, .nilI => true
  | .ext i, .ext j => Nat.beq i j
  | .sg i m e, .sg j n f => Nat.beq i j && Nat.beq m n && (e == f)
  | .ge a, .ge b => decide (a = b)
  | .ub, .ub => true
  | _, _ => false
theorem eqCC_ok {a b : C} (h : eqCC a b = true) : a = b := by
  unfold eqCC at h
  split at h <;> first | rfl | (simp [Nat.beq_eq] at h; simp [h]) | (simp at h; simp [h]) | cases h
def eqSS : S → S → Bool
  | .v (.c a), .v (.c b) => eqCC a b
  | .un, .un => true
  | _, _ => false
theorem eqSS_ok {a b : S} (h : eqSS a b = true) : a = b := by
  unfold eqSS at h
  split at h
  · rw [eqCC_ok h]
  · rfl
  · cases h
/-- The slots that are the same in both. -/
noncomputable def meetT (A1 A2 : TS) : Nat → TS → Option TS
  | 0, B => some B
  | t + 1, B => match TS.get A1 t, TS.get A2 t with
    | some s1, some s2 => if eqSS s1 s2 = true then (match TS.put B t (some s1) with
      | some B' => meetT A1 A2 t B'
      | none => none) else meetT A1 A2 t B
    | _, _ => meetT A1 A2 t B
theorem meetT_ok {A1 A2 : TS} : ∀ {n : Nat} {B B' : TS}, meetT A1 A2 n B = some B' → (∀ t s, B.get t = some s → A1.get t = some s ∧ A2.get t = some s) → ∀ t s, B'.get t = some s → A1.get t = some s ∧ A2.get t = some s
  | 0, B, B', h, hB => by
    simp only [meetT, Option.some.injEq] at h
    subst h; exact hB
  | n + 1, B, B', h, hB => by
    simp only [meetT] at h
    split at h
    · rename_i s1 s2 h1 h2
      split at h
      · rename_i he
        have he' := eqSS_ok he
        subst he'
        split at h
        · rename_i B1 h3
          refine meetT_ok h (fun t s e => ?_)
          rw [TS.get_put h3] at e
          split at e
          · rename_i ht
            subst ht
            cases e
            exact ⟨h1, h2⟩
          · exact hB t s e
        · cases h
      · exact meetT_ok h hB
    · exact meetT_ok h hB
noncomputable def okJ (x : X) (n n' W : Nat) : Bool := X.rec (motive := fun _ => Bool) (andB (Nat.beq n n') (Nat.beq W 0)) (fun _ => false) false x
theorem okJ_ok {x : X} {n n' W : Nat} (h : okJ x n n' W = true) : x = .nm ∧ n' = n ∧ W = 0 := by
  cases x with
  | nm =>
    have h' : andB (Nat.beq n n') (Nat.beq W 0) = true := h
    rw [andB_eq, Bool.and_eq_true] at h'
    exact ⟨rfl, (Nat.eq_of_beq_eq_true h'.1).symm, Nat.eq_of_beq_eq_true h'.2⟩
  | ex id => cases h
  | rt => cases h
noncomputable def joinC (nt : Nat) (H : HT) (n : Nat) (ra rb : CRes) : CRes := match ra with
  | some (x1, s1, F1, W1) => match rb with
    | some (x2, s2, F2, W2) => if andB (okJ x1 n s1.n W1) (okJ x2 n s2.n W2) = true then (meetT s1.A s2.A nt TS.lf).map fun A => (.nm, ⟨A, H, n⟩, Nat.lor F1 F2, 0) else none
    | none => none
  | none => none
noncomputable def evC (hk : Hook) (call : CallF) (P : Program) (nt N : Nat) : Code → St → CRes
  | .skip, st => some (.nm, st, 0, 0)
  | .label _, st => some (.nm, st, 0, 0)
  | .region _ ops draw, st => evR call P nt ops draw st
  | .seq a b, st => match evC hk call P nt N a st with
    | some (.nm, st1, F1, W1) => match evC hk call P nt N b st1 with
      | some (x, st2, F2, W2) => some (x, st2, F1 ||| F2, W1 ||| W2)
      | none => none
    | r => r
  | .cond c a b, st => match S.c? (opA st.A c) with
    | some (.bool true) => evC hk call P nt N a st
    | some (.bool false) => evC hk call P nt N b st
    | some .ub => joinC nt st.H st.n (evC hk call P nt N a st) (evC hk call P nt N b st)
    | _ => none
  | .block id c, st => match evC hk call P nt N c st with
    | some (.ex id', st1, F, W) => some (if id' == id then .nm else .ex id', st1, F, W)
    | r => r
  | .loop c, st => match hk c with
    | some g => skipC g (iter (evC hk call P nt N c) N) st
    | none => iter (evC hk call P nt N c) N st
  | .exit id, st => some (.ex id, st, 0, 0)
  | .ret, st => some (.rt, st, 0, 0)
  | _, _ => none
/-- All regions of a piece of code that draw are in order. -/
noncomputable def regsOk : Code → Bool
  | .region _ ops true => regOk ops
  | .seq a b => regsOk a && regsOk b
  | .cond _ a b => regsOk a && regsOk b
  | .block _ c => regsOk c
  | .loop c => regsOk c
  | _ => true
/-- What is told of a piece of code. -/
noncomputable def CodeOK (P : Program) (nt : Nat) (c : Code) (st : St) (x : X) (st' : St) (F W : Nat) : Prop := Inv (hg st.H) (hg st'.H) st.n st'.n F W ∧
  ∀ σ D w a Q, RA σ D nt st.A a → Sat σ D (rst (tb F) (hg st.H)) w → (∀ i, st.n ≤ i → hg st.H i = none) → (∀ i, st.n ≤ i → i < st'.n → ¬ D i) →
    (∀ σ' a' w', RA σ' (more D st.n st'.n) nt st'.A a' → a'.defers = a.defers → Out σ D w (rst (tb F) (hg st.H)) (aft (tb F) st.n st'.n (hg st'.H)) st.n st'.n (tb W) σ' w' → Q x.out a' w') → c.wp P Q a w
/-- A loop that ends within so many rounds. -/
noncomputable def LoopN (P : Program) (c : Code) (Q : Exit → Act → World → Prop) : Nat → Act → World → Prop
  | 0, _, _ => False
  | k + 1, a, w => c.wp P (Exit.then (LoopN P c Q k) Q) a w
/-- A loop may go on there: the memory that it knows is what it was. -/
def SkipOK (P : Program) (nt : Nat) (c : Code) (st st' : St) (F : Nat) : Prop := st'.H = st.H ∧ st'.n = st.n ∧
  ∀ (σ : Nat → Blk) (D : Nat → Prop) (w : World) (a : Act) (Q : Exit → Act → World → Prop) (k : Nat), RA σ D nt st.A a → Sat σ D (rst (tb F) (hg st.H)) w → (∀ a' w', RA σ D nt st'.A a' → a'.defers = a.defers → Tch No w w' → LoopN P c Q k a' w') → ∃ k', LoopN P c Q k' a w
/-- What is told of loops from outside is so. -/
def HookOK (P : Program) (nt : Nat) (hk : Hook) : Code → Prop
  | .seq a b => HookOK P nt hk a ∧ HookOK P nt hk b
  | .cond _ a b => HookOK P nt hk a ∧ HookOK P nt hk b
  | .block _ c => HookOK P nt hk c
  | .loop c => (∀ g, hk c = some g → ∀ st st' F, g st = some (st', F) → SkipOK P nt c st st' F) ∧ HookOK P nt hk c
  | _ => True
theorem noHook_ok (P : Program) (nt : Nat) : ∀ c : Code, HookOK P nt noHook c
  | .seq a b => ⟨noHook_ok P nt a, noHook_ok P nt b⟩
  | .cond _ a b => ⟨noHook_ok P nt a, noHook_ok P nt b⟩
  | .block _ c => noHook_ok P nt c
  | .loop c => ⟨fun g (h : none = some g) => (by cases h), noHook_ok P nt c⟩
  | .skip => trivial
  | .region .. => trivial
  | .rangeFunc .. => trivial
  | .exit _ => trivial
  | .scope _ => trivial
  | .label _ => trivial
  | .goto _ => trivial
  | .ret => trivial
  | .refuse _ => trivial
theorem opA_ok {σ : Nat → Blk} {D : Nat → Prop} {nt : Nat} {A : TS} {a : Act} (h : RA σ D nt A a) : Eqv σ D (opA A) a.eval := by
  intro x s hx
  cases x with
  | tmp t => exact (h.2 t s hx).2
  | const v => exact constS_ok (show constS v = some s from hx)
  | func f =>
    simp only [opA, Option.some.injEq] at hx
    subst hx
    exact ⟨fun p hp => (by cases hp), rfl⟩
  | global g => simp [opA] at hx
theorem tb_orL1 {rs : List (Nat × Nat × Nat)} {i : Nat} : tb (orL1 rs) i = true ↔ ∃ (k : Nat) (r : Nat × Nat × Nat), rs[k]? = some r ∧ tb r.1 i = true := by
  induction rs with
  | nil => rw [orL1, tb_0]; simp
  | cons r l ih =>
    rw [orL1, tb_or, Bool.or_eq_true, ih]
    constructor
    · rintro (h | ⟨k, r', h1, h2⟩)
      · exact ⟨0, r, rfl, h⟩
      · exact ⟨k + 1, r', by simpa using h1, h2⟩
    · rintro ⟨k, r', h1, h2⟩
      cases k with
      | zero => simp at h1; subst h1; exact .inl h2
      | succ k => exact .inr ⟨k, r', by simpa using h1, h2⟩
theorem tb_orL2 {rs : List (Nat × Nat × Nat)} {i : Nat} : tb (orL2 rs) i = true ↔ ∃ (k : Nat) (r : Nat × Nat × Nat), rs[k]? = some r ∧ tb r.2.1 i = true := by
  induction rs with
  | nil => rw [orL2, tb_0]; simp
  | cons r l ih =>
    rw [orL2, tb_or, Bool.or_eq_true, ih]
    constructor
    · rintro (h | ⟨k, r', h1, h2⟩)
      · exact ⟨0, r, rfl, h⟩
      · exact ⟨k + 1, r', by simpa using h1, h2⟩
    · rintro ⟨k, r', h1, h2⟩
      cases k with
      | zero => simp at h1; subst h1; exact .inl h2
      | succ k => exact .inr ⟨k, r', by simpa using h1, h2⟩
theorem tb_orF {F : Nat → Nat} {i : Nat} : ∀ {m : Nat}, tb (orF F m) i = true ↔ ∃ k, k < m ∧ tb (F k) i = true
  | 0 => by rw [orF, tb_0]; simp
  | m + 1 => by
    rw [orF, tb_or, Bool.or_eq_true, tb_orF]
    constructor
    · rintro (⟨k, h1, h2⟩ | h)
      · exact ⟨k, by omega, h2⟩
      · exact ⟨m, by omega, h⟩
    · rintro ⟨k, h1, h2⟩
      by_cases e : k = m
      · subst e; exact .inr h2
      · exact .inl ⟨k, by omega, h2⟩
section
variable {P : Program} {call : CallF}
theorem evL_tr {ops : Array Oper} {nt : Nat} : ∀ {l : List Oper} {st stf : St} {rs : List (Nat × Nat × Nat)}, evL call P ops nt l st = some (stf, rs) → rs.length = l.length ∧ ∃ f : Nat → St, f 0 = st ∧ f l.length = stf ∧
    ∀ k o, l[k]? = some o → ∃ F W, stepG call P ops nt (f k) o = some (f (k + 1), F, W) ∧ rs[k]? = some (F, W, nwm (f k).n (f (k + 1)).n)
  | [], st, stf, rs, h => by
    simp only [evL, Option.some.injEq, Prod.mk.injEq] at h
    obtain ⟨rfl, rfl⟩ := h
    exact ⟨rfl, fun _ => st, rfl, rfl, fun k o e => by simp at e⟩
  | o :: l, st, stf, rs, h => by
    simp only [evL] at h
    split at h
    · rename_i st1 F W h1
      split at h
      · rename_i st2 rs' h2
        simp only [Option.some.injEq, Prod.mk.injEq] at h
        obtain ⟨rfl, rfl⟩ := h
        obtain ⟨g1, f, g2, g3, g4⟩ := evL_tr h2
        refine ⟨by simp [g1], fun k => match k with | 0 => st | k + 1 => f k, rfl, g3, fun k o' e => ?_⟩
        cases k with
        | zero =>
          rw [List.getElem?_cons_zero] at e
          cases e
          exact ⟨F, W, by rw [h1, ← g2], by rw [← g2]; rfl⟩
        | succ k => simpa using g4 k o' (by simpa using e)
      · cases h
    · cases h
/-- A region in the order of the text. -/
theorem evL_seq (hcall : CallOK P call) (hnm : named P = true) (hcl : ∀ f args H n r, call.call f args H n = some r → ∃ fn, P.funcs[f]? = some fn ∧ fn.body.isSome = true) {ops : Array Oper} {nt : Nat} : ∀ {l : List Oper} {st stf : St} {rs : List (Nat × Nat × Nat)}, evL call P ops nt l st = some (stf, rs) →
    Inv (hg st.H) (hg stf.H) st.n stf.n (orL1 rs) (orL2 rs) ∧
    ∀ σ D w a Q, RA σ D nt st.A a → Sat σ D (rst (tb (orL1 rs)) (hg st.H)) w → (∀ i, st.n ≤ i → hg st.H i = none) → (∀ i, st.n ≤ i → i < stf.n → ¬ D i) →
      (∀ σ' a' w', RA σ' (more D st.n stf.n) nt stf.A a' → a'.defers = a.defers → Out σ D w (rst (tb (orL1 rs)) (hg st.H)) (aft (tb (orL1 rs)) st.n stf.n (hg stf.H)) st.n stf.n (tb (orL2 rs)) σ' w' → Q .normal a' w') → wpList P ops Q l a w
  | [], st, stf, rs, h => by
    simp only [evL, Option.some.injEq, Prod.mk.injEq] at h
    obtain ⟨rfl, rfl⟩ := h
    exact ⟨Inv.refl _ _, fun σ D w a Q hA hs _ _ hQ => hQ σ a w ⟨hA.1, fun t s e => ⟨(hA.2 t s e).1, (hA.2 t s e).2.ext (fun _ _ => rfl) (fun _ h => .inl h)⟩⟩ rfl (out_refl hs)⟩
  | o :: l, st, stf, rs, h => by
    simp only [evL] at h
    split at h
    · rename_i st1 F W h1
      split at h
      · rename_i st2 rs' h2
        simp only [Option.some.injEq, Prod.mk.injEq] at h
        obtain ⟨rfl, rfl⟩ := h
        obtain ⟨i1, s, p1, p2, p3⟩ := stepG_ok hcall hnm hcl h1
        obtain ⟨i2, q⟩ := evL_seq hcall hnm hcl h2
        refine ⟨i1.seq i2, fun σ D w a Q hA hs hdom hD hQ => ?_⟩
        have hF1 : ∀ i, tb F i = true → tb (F ||| orL1 rs') i = true := fun i h => by rw [tb_or, h]; rfl
        have hF2 : ∀ i, tb (orL1 rs') i = true → tb (F ||| orL1 rs') i = true := fun i h => by rw [tb_or, h, Bool.or_true]
        refine wpList_step fun K hK => p3 σ D w a K Q (fun t _ => hA.2 t) hA.1 (hs.sub fun i ob e => ?_) hdom (fun i h1 h2 => hD i h1 (Nat.lt_of_lt_of_le h2 i2.le)) (fun σ1 v w1 hv ho => hK _ _ ?_)
        · obtain ⟨e1, e2⟩ := rst_some.1 e
          exact rst_some.2 ⟨hF1 i e1, e2⟩
        · obtain ⟨s1, _, hfin⟩ := out_seq (F := F ||| orL1 rs') (W2 := orL2 rs') (F2 := orL1 rs') (H2 := hg st2.H) (n2 := st2.n) (σ2 := σ1) (w2 := w1) hF1 hF2 hdom i1 i2 hs hD ho
          have hA1 : RA σ1 (more D st.n st1.n) nt st1.A (a.put o.dst v) := hA.put (fun i hi => ho.same i (fun ⟨x, y⟩ => hD i x (Nat.lt_of_lt_of_le y i2.le) hi)) (fun _ h => .inl h) p1 p2 hv
          refine q σ1 _ w1 _ Q hA1 s1 (i1.dom hdom) (fun i h1 h2 hm => hm.elim (hD i (Nat.le_trans i1.le h1) h2) (fun ⟨_, y⟩ => by omega)) (fun σ2 a2 w2 hA2 hd2 ho2 => ?_)
          obtain ⟨_, _, hfin⟩ := out_seq (F := F ||| orL1 rs') hF1 hF2 hdom i1 i2 hs hD ho (σ2 := σ2) (w2 := w2)
          have hO := hfin ho2
          rw [more_more i1.le i2.le] at hA2
          refine hQ σ2 a2 w2 hA2 (by rw [hd2]; cases o.dst <;> rfl) ?_
          have e : (fun i => tb W i || tb (orL2 rs') i) = tb (orL2 ((F, W, nwm st.n st1.n) :: rs')) := by
            funext i; rw [orL2, tb_or]
          rw [← e]
          exact hO
      · cases h
    · cases h
theorem memOk_0 {L : List Nat} {rs : List (Nat × Nat)} (h : ∀ (k : Nat) (r : Nat × Nat), rs[k]? = some r → r.2 = 0) : memOk L rs = true := by
  unfold memOk allN
  rw [List.all_eq_true]
  intro j hj
  split
  · rename_i Fj Wj e
    rw [List.all_eq_true]
    intro i hi
    rw [Bool.or_eq_true]
    refine .inr ?_
    split
    · rename_i Fi Wi e2
      have h1 : Wj = 0 := h j _ e
      have h2 : Wi = 0 := h i _ e2
      subst h1; subst h2
      simp
    · rfl
  · rfl
theorem Inv.congr {H H' : Heap} {n n' F F' W W' : Nat} (h : Inv H H' n n' F W) (hF : tb F = tb F') (hW : tb W = tb W') : Inv H H' n n' F' W' :=
  ⟨h.le, fun i hi e => h.low i hi (by rw [hW]; exact e), h.dom, fun i hi e => by rw [← hF]; exact h.sub i hi (by rw [hW]; exact e)⟩
/-- A region. -/
theorem evR_ok (hcall : CallOK P call) (hnm : named P = true) (hcl : ∀ f args H n r, call.call f args H n = some r → ∃ fn, P.funcs[f]? = some fn ∧ fn.body.isSome = true) (hmix : P.follows .mixedOrders = true) {id nt : Nat} {ops : Array Oper} {draw : Bool} {st st' : St} {x : X} {F W : Nat} (hreg : regsOk (.region id ops draw) = true) (h : evR call P nt ops draw st = some (x, st', F, W)) :
    CodeOK P nt (.region id ops draw) st x st' F W := by
  unfold evR at h
  split at h
  · rename_i st2 rs hL
    split at h
    · cases h
    · rename_i hc
      simp only [Option.some.injEq, Prod.mk.injEq] at h
      obtain ⟨rfl, rfl, rfl, rfl⟩ := h
      cases draw with
      | false =>
        obtain ⟨i1, q⟩ := evL_seq hcall hnm hcl hL
        exact ⟨i1, fun σ D w a Q hA hs hdom hD hQ => wp_region_list (q σ D w a Q hA hs hdom hD hQ)⟩
      | true =>
        have hreg' : regOk ops = true := hreg
        obtain ⟨g1, f, g2, g3, g4⟩ := evL_tr hL
        have hsz : ops.toList.length = ops.size := by simp
        rw [hsz] at g1 g3
        have tot : ∀ k : Nat, ∃ F W, ∀ o, ops[k]? = some o → stepG call P ops nt (f k) o = some (f (k + 1), F, W) ∧ rs[k]? = some (F, W, nwm (f k).n (f (k + 1)).n) := fun k => by
          cases e : ops[k]? with
          | none => exact ⟨0, 0, fun o e => by cases e⟩
          | some o =>
            obtain ⟨F, W, a1, a2⟩ := g4 k o (by rw [Array.getElem?_toList]; exact e)
            exact ⟨F, W, fun o' e' => by cases e'; exact ⟨a1, a2⟩⟩
        have hF := fun k => Classical.choose_spec (tot k)
        let Fk : Nat → Nat := fun k => Classical.choose (tot k)
        let Wk : Nat → Nat := fun k => Classical.choose (hF k)
        have hst : ∀ k o, ops[k]? = some o → stepG call P ops nt (f k) o = some (f (k + 1), Fk k, Wk k) ∧ rs[k]? = some (Fk k, Wk k, nwm (f k).n (f (k + 1)).n) := fun k => Classical.choose_spec (hF k)
        have hinv : ∀ k, k < ops.size → Inv (hg (f k).H) (hg (f (k + 1)).H) (f k).n (f (k + 1)).n (Fk k) (Wk k) := fun k hk => (stepG_ok hcall hnm hcl (hst k _ (Array.getElem?_eq_getElem hk)).1).1
        have e1 : tb (orF Fk ops.size) = tb (orL1 rs) := by
          funext i
          rw [Bool.eq_iff_iff, tb_orF, tb_orL1]
          constructor
          · rintro ⟨k, h1, h2⟩
            exact ⟨k, _, (hst k _ (Array.getElem?_eq_getElem h1)).2, h2⟩
          · rintro ⟨k, r, h1, h2⟩
            have hk : k < ops.size := by rw [← g1]; exact (List.getElem?_eq_some_iff.1 h1).1
            rw [(hst k _ (Array.getElem?_eq_getElem hk)).2] at h1
            cases h1
            exact ⟨k, hk, h2⟩
        have e2 : tb (orF Wk ops.size) = tb (orL2 rs) := by
          funext i
          rw [Bool.eq_iff_iff, tb_orF, tb_orL2]
          constructor
          · rintro ⟨k, h1, h2⟩
            exact ⟨k, _, (hst k _ (Array.getElem?_eq_getElem h1)).2, h2⟩
          · rintro ⟨k, r, h1, h2⟩
            have hk : k < ops.size := by rw [← g1]; exact (List.getElem?_eq_some_iff.1 h1).1
            rw [(hst k _ (Array.getElem?_eq_getElem hk)).2] at h1
            cases h1
            exact ⟨k, hk, h2⟩
        have hrs : rs.map (fun r => (r.1, r.2.1 ||| r.2.2)) = (List.range ops.size).map fun k => (Fk k, Wk k ||| nwm (f k).n (f (k + 1)).n) := by
          apply List.ext_getElem?
          intro k
          rw [List.getElem?_map, List.getElem?_map]
          by_cases hk : k < ops.size
          · rw [(hst k _ (Array.getElem?_eq_getElem hk)).2, List.getElem?_range hk]; rfl
          · rw [List.getElem?_eq_none (by omega), List.getElem?_eq_none (by simp; omega)]; rfl
        have hmem : memOk (befs ops.toList []) ((List.range ops.size).map fun k => (Fk k, Wk k ||| nwm (f k).n (f (k + 1)).n)) = true := by
          have hc' : okD ops rs st.n st2.n = true := by
            cases hh : okD ops rs st.n st2.n with
            | true => rfl
            | false => rw [hh] at hc; exact (hc rfl).elim
          unfold okD at hc'
          rw [orB_eq, andB_eq, Bool.or_eq_true, Bool.and_eq_true] at hc'
          rcases hc' with hq | hq
          · have q1 : orL2 rs = 0 := Nat.eq_of_beq_eq_true hq.1
            have q2 : st.n = st2.n := Nat.eq_of_beq_eq_true hq.2
            refine memOk_0 (fun k r e => ?_)
            rw [List.getElem?_map] at e
            cases e3 : (List.range ops.size)[k]? with
            | none => rw [e3] at e; cases e
            | some k' =>
              rw [e3] at e
              simp only [Option.map_some, Option.some.injEq] at e
              subst e
              obtain ⟨hlt, hkk⟩ := List.getElem?_eq_some_iff.1 e3
              have hk : k' < ops.size := by rw [← hkk]; simpa using hlt
              have hW0 : Wk k' = 0 := by
                apply Nat.eq_of_testBit_eq
                intro i
                rw [Nat.zero_testBit]
                cases hb : (Wk k').testBit i with
                | false => rfl
                | true =>
                  have : tb (orL2 rs) i = true := by rw [← e2]; exact orF_mem hk hb
                  rw [q1, tb_0] at this; cases this
              have hmono : ∀ m, m ≤ ops.size → ∀ j, j ≤ m → (f j).n ≤ (f m).n := fun m => by
                induction m with
                | zero => intro _ j hj; rw [Nat.le_zero.1 hj]; exact Nat.le_refl _
                | succ m ih =>
                  intro hm j hj
                  by_cases e : j = m + 1
                  · rw [e]; exact Nat.le_refl _
                  · exact Nat.le_trans (ih (by omega) j (by omega)) (hinv m (by omega)).le
              have hnn : (f k').n = (f (k' + 1)).n := by
                have a1 := hmono k' (by omega) 0 (Nat.zero_le _)
                have a2 := (hinv k' hk).le
                have a3 := hmono ops.size (Nat.le_refl _) (k' + 1) (by omega)
                rw [g2] at a1; rw [g3] at a3
                omega
              simp only [hW0, hnn, nwm, Nat.sub_self]
              rfl
          · have := memF_ok hq
            rw [hrs] at this; exact this
        have i1 := inv_all (H := fun k => hg (f k).H) (N := fun k => (f k).n) hinv
        simp only [g2, g3] at i1
        refine ⟨i1.congr e1 e2, fun σ D w a Q hA hs hdom hD hQ => ?_⟩
        rw [← g2] at hA hs hdom hD
        rw [← g3] at hD
        refine region_any hmix hreg' (F := Fk) (W := Wk) hinv hmem (fun k o ho => ?_) hA (by rw [e1]; exact hs) hdom hD (fun σ' a' w' hA' hd' hO => ?_)
        · exact (stepG_ok hcall hnm hcl (hst k o ho).1).2
        · rw [g2, g3] at hA' hO
          rw [e1, e2] at hO
          exact hQ σ' a' w' hA' hd' hO
  · cases h
end
end Go.Proofs.YtcmlgmiomcegeaaGreat.Ev
namespace Go.Proofs.YtcmlgmiomcegeaaGreat.Ev
open Go Go.RowKit Go.Maps
set_option linter.unusedVariables false
set_option linter.unusedSimpArgs false
set_option linter.unusedSectionVars false
variable [Env]

theorem wp_loopN {P : Program} {c : Code} {Q : Exit → Act → World → Prop} {k : Nat} {a : Act} {w : World} (h : LoopN P c Q k a w) : (Code.loop c).wp P Q a w := by
  intro b ks cs
  have key : ∀ k a w, LoopN P c Q k a w → ∃ e a' w', Q e a' w' ∧ Arrives P (lone (b.at a (.code c :: .inLoop c :: ks)) cs w) b ks cs e a' w' := by
    intro k
    induction k with
    | zero => intro a w h; exact h.elim
    | succ k ih =>
      intro a w h
      obtain ⟨e, a₁, w₁, hq, harr⟩ := h b (.inLoop c :: ks) cs
      cases e with
      | normal =>
        obtain ⟨e₂, a₂, w₂, hq₂, harr₂⟩ := ih a₁ w₁ hq
        exact ⟨e₂, a₂, w₂, hq₂, .of_steps (Steps.trans harr (.one step_inLoop)) harr₂⟩
      | exit id => exact ⟨_, a₁, w₁, hq, .pass (x := .inLoop c) rfl (fun _ _ => .inl (by simp)) harr⟩
      | goto l => exact ⟨_, a₁, w₁, hq, .pass (x := .inLoop c) rfl (fun _ _ => .inl (by simp)) harr⟩
      | ret => exact ⟨_, a₁, w₁, hq, .pass (x := .inLoop c) rfl (fun _ _ => .inl (by simp)) harr⟩
      | panic ch => exact ⟨_, a₁, w₁, hq, .pass (x := .inLoop c) rfl (fun _ _ => .inl (by simp)) harr⟩
      | outgrown => exact ⟨_, a₁, w₁, hq, .pass (x := .inLoop c) rfl (fun _ _ => .inl (by simp)) harr⟩
  obtain ⟨e, a', w', hq, harr⟩ := key k a w h
  exact ⟨e, a', w', hq, .of_steps (.one step_loop) harr⟩
section
variable {P : Program} {call : CallF}
theorem code_id {nt : Nat} {st : St} {c : Code} {x : X} (h : ∀ Q a w, Q x.out a w → c.wp P Q a w) : CodeOK P nt c st x st 0 0 :=
  ⟨Inv.refl _ _, fun σ D w a Q hA hs _ _ hQ => h Q a w (hQ σ a w ⟨hA.1, fun t s e => ⟨(hA.2 t s e).1, (hA.2 t s e).2.ext (fun _ _ => rfl) (fun _ h => .inl h)⟩⟩ rfl (out_refl hs))⟩
/-- Two pieces. -/
theorem code_then {nt : Nat} {st st1 st2 : St} {a b : Code} {x : X} {F1 W1 F2 W2 : Nat} (i1 : Inv (hg st.H) (hg st1.H) st.n st1.n F1 W1) (i2 : Inv (hg st1.H) (hg st2.H) st1.n st2.n F2 W2) {σ σ1 : Nat → Blk} {D : Nat → Prop} {w w1 : World} {ac a1 : Act} {Q : Exit → Act → World → Prop}
    (hs : Sat σ D (rst (tb (F1 ||| F2)) (hg st.H)) w) (hdom : ∀ i, st.n ≤ i → hg st.H i = none) (hD : ∀ i, st.n ≤ i → i < st2.n → ¬ D i)
    (hQ : ∀ σ' a' w', RA σ' (more D st.n st2.n) nt st2.A a' → a'.defers = ac.defers → Out σ D w (rst (tb (F1 ||| F2)) (hg st.H)) (aft (tb (F1 ||| F2)) st.n st2.n (hg st2.H)) st.n st2.n (tb (W1 ||| W2)) σ' w' → Q x.out a' w')
    (hd1 : a1.defers = ac.defers) (ho : Out σ D w (rst (tb F1) (hg st.H)) (aft (tb F1) st.n st1.n (hg st1.H)) st.n st1.n (tb W1) σ1 w1) :
    Sat σ1 (more D st.n st1.n) (rst (tb F2) (hg st1.H)) w1 ∧ (∀ i, st1.n ≤ i → hg st1.H i = none) ∧ (∀ i, st1.n ≤ i → i < st2.n → ¬ more D st.n st1.n i) ∧
      ∀ σ' a' w', RA σ' (more (more D st.n st1.n) st1.n st2.n) nt st2.A a' → a'.defers = a1.defers → Out σ1 (more D st.n st1.n) w1 (rst (tb F2) (hg st1.H)) (aft (tb F2) st1.n st2.n (hg st2.H)) st1.n st2.n (tb W2) σ' w' → Q x.out a' w' := by
  have hF1 : ∀ i, tb F1 i = true → tb (F1 ||| F2) i = true := fun i h => by rw [tb_or, h]; rfl
  have hF2 : ∀ i, tb F2 i = true → tb (F1 ||| F2) i = true := fun i h => by rw [tb_or, h, Bool.or_true]
  refine ⟨(out_seq (σ2 := σ1) (w2 := w1) hF1 hF2 hdom i1 i2 hs hD ho).1, i1.dom hdom, fun i h1 h2 hm => hm.elim (hD i (Nat.le_trans i1.le h1) h2) (fun ⟨_, y⟩ => by omega), fun σ2 a2 w2 hA2 hd2 ho2 => ?_⟩
  have hO := (out_seq (σ2 := σ2) (w2 := w2) hF1 hF2 hdom i1 i2 hs hD ho).2.2 ho2
  rw [more_more i1.le i2.le] at hA2
  refine hQ σ2 a2 w2 hA2 (hd2.trans hd1) ?_
  have e : (fun i => tb W1 i || tb W2 i) = tb (W1 ||| W2) := by funext i; rw [tb_or]
  rw [← e]
  exact hO
theorem sat_left {σ : Nat → Blk} {D : Nat → Prop} {w : World} {H : Heap} {F1 F2 : Nat} (hs : Sat σ D (rst (tb (F1 ||| F2)) H) w) : Sat σ D (rst (tb F1) H) w := hs.sub fun i ob e => by
  obtain ⟨e1, e2⟩ := rst_some.1 e
  exact rst_some.2 ⟨by rw [tb_or, e1]; rfl, e2⟩
theorem iter_ok {nt : Nat} {c : Code} {f : St → CRes} (hf : ∀ st x st' F W, f st = some (x, st', F, W) → CodeOK P nt c st x st' F W) : ∀ {k : Nat} {st : St} {x : X} {st' : St} {F W : Nat}, iter f k st = some (x, st', F, W) →
    Inv (hg st.H) (hg st'.H) st.n st'.n F W ∧
    ∀ σ D w a Q, RA σ D nt st.A a → Sat σ D (rst (tb F) (hg st.H)) w → (∀ i, st.n ≤ i → hg st.H i = none) → (∀ i, st.n ≤ i → i < st'.n → ¬ D i) →
      (∀ σ' a' w', RA σ' (more D st.n st'.n) nt st'.A a' → a'.defers = a.defers → Out σ D w (rst (tb F) (hg st.H)) (aft (tb F) st.n st'.n (hg st'.H)) st.n st'.n (tb W) σ' w' → Q x.out a' w') → LoopN P c Q k a w
  | 0, _, _, _, _, _, h => by simp [iter] at h
  | k + 1, st, x, st', F, W, h => by
    simp only [iter] at h
    split at h
    · rename_i st1 F1 W1 h1
      split at h
      · rename_i x2 st2 F2 W2 h2
        simp only [Option.some.injEq, Prod.mk.injEq] at h
        obtain ⟨rfl, rfl, rfl, rfl⟩ := h
        obtain ⟨i1, q1⟩ := hf _ _ _ _ _ h1
        obtain ⟨i2, q2⟩ := iter_ok hf h2
        refine ⟨i1.seq i2, fun σ D w a Q hA hs hdom hD hQ => ?_⟩
        refine q1 σ D w a _ hA (sat_left hs) hdom (fun i g1 g2 => hD i g1 (Nat.lt_of_lt_of_le g2 i2.le)) (fun σ1 a1 w1 hA1 hd1 ho => ?_)
        obtain ⟨r1, r2, r3, r4⟩ := code_then (a := c) (b := c) i1 i2 hs hdom hD hQ hd1 ho
        exact q2 σ1 _ w1 a1 Q hA1 r1 r2 r3 r4
      · cases h
    · rename_i hne
      obtain ⟨i1, q1⟩ := hf _ _ _ _ _ h
      refine ⟨i1, fun σ D w a Q hA hs hdom hD hQ => q1 σ D w a _ hA hs hdom hD (fun σ1 a1 w1 hA1 hd1 ho => ?_)⟩
      have := hQ σ1 a1 w1 hA1 hd1 ho
      cases x with
      | nm => exact (hne _ _ _ h).elim
      | ex id => exact this
      | rt => exact this
theorem tb_lor {a b i : Nat} : tb (Nat.lor a b) i = (tb a i || tb b i) := tb_or
theorem join_inv {nt n : Nat} {H : HT} {ra rb : CRes} {x : X} {st' : St} {F W : Nat} (h : joinC nt H n ra rb = some (x, st', F, W)) : ∃ s1 F1 s2 F2 A, ra = some (.nm, s1, F1, 0) ∧ rb = some (.nm, s2, F2, 0) ∧ s1.n = n ∧ s2.n = n ∧ meetT s1.A s2.A nt TS.lf = some A ∧ x = .nm ∧ st' = ⟨A, H, n⟩ ∧ F = Nat.lor F1 F2 ∧ W = 0 := by
  unfold joinC at h
  split at h
  · rename_i x1 s1 F1 W1
    split at h
    · rename_i x2 s2 F2 W2
      split at h
      · rename_i hj
        rw [andB_eq, Bool.and_eq_true] at hj
        obtain ⟨rfl, hn1, rfl⟩ := okJ_ok hj.1
        obtain ⟨rfl, hn2, rfl⟩ := okJ_ok hj.2
        rw [Option.map_eq_some_iff] at h
        obtain ⟨A, hm, e⟩ := h
        cases e
        exact ⟨s1, F1, s2, F2, A, rfl, rfl, hn1, hn2, hm, rfl, rfl, rfl, rfl⟩
      · cases h
    · cases h
  · cases h
theorem rst_more {H : Heap} {F : Nat} (F1 F2 : Nat) (hF : ∀ i, tb F1 i = true → tb F i = true) : ∀ i o, rst (tb F1) H i = some o → rst (tb F) H i = some o := fun i o e => by
  obtain ⟨h1, h2⟩ := rst_some.1 e
  exact rst_some.2 ⟨hF i h1, h2⟩
/-- A branch that turned nothing, told of more than it looked at. -/
theorem out_more {σ σ' : Nat → Blk} {D : Nat → Prop} {w w' : World} {H H1 : HT} {n F F1 : Nat} (hs : Sat σ D (rst (tb F) (hg H)) w) (i1 : Inv (hg H) (hg H1) n n F1 0) (hdom : ∀ i, n ≤ i → hg H i = none) (hF : ∀ i, tb F1 i = true → tb F i = true)
    (ho : Out σ D w (rst (tb F1) (hg H)) (aft (tb F1) n n (hg H1)) n n (tb 0) σ' w') : Out σ D w (rst (tb F) (hg H)) (aft (tb F) n n (hg H)) n n (tb 0) σ' w' := by
  have e1 : hg H1 = hg H := by
    funext i
    by_cases c : i < n
    · exact i1.low i c tb_0
    · rw [hdom i (by omega), i1.dom hdom i (by omega)]
  rw [e1] at ho
  have e2 : upd (tb F1) n n (rst (tb F) (hg H)) (aft (tb F1) n n (hg H)) = aft (tb F) n n (hg H) := by
    funext i
    unfold upd aft rst
    have hn : ¬ (n ≤ i ∧ i < n) := by omega
    by_cases c : tb F1 i = true
    · simp [c, hF i c]
    · simp [c, hn]
  rw [← e2]
  refine frame hs (g := rst (tb F1) (hg H)) (fun i hi => ?_) (fun i hi => ?_) (fun i h1 h2 => by omega) ho (fun i h => by rw [tb_0] at h; cases h)
  · unfold rst; rw [if_pos hi, if_pos (hF i hi)]
  · unfold rst; rw [if_neg (by rw [hi]; simp)]
theorem evC_ok (hcall : CallOK P call) (hnm : named P = true) (hcl : ∀ f args H n r, call.call f args H n = some r → ∃ fn, P.funcs[f]? = some fn ∧ fn.body.isSome = true) (hmix : P.follows .mixedOrders = true) {nt N : Nat} {hk : Hook} : ∀ (c : Code), regsOk c = true → HookOK P nt hk c → ∀ st x st' F W, evC hk call P nt N c st = some (x, st', F, W) → CodeOK P nt c st x st' F W
  | .skip, _, _, st, x, st', F, W, h => by
    simp only [evC, Option.some.injEq, Prod.mk.injEq] at h
    obtain ⟨rfl, rfl, rfl, rfl⟩ := h
    exact code_id fun Q a w q => wp_skip q
  | .label l, _, _, st, x, st', F, W, h => by
    simp only [evC, Option.some.injEq, Prod.mk.injEq] at h
    obtain ⟨rfl, rfl, rfl, rfl⟩ := h
    exact code_id fun Q a w q => wp_label q
  | .exit id, _, _, st, x, st', F, W, h => by
    simp only [evC, Option.some.injEq, Prod.mk.injEq] at h
    obtain ⟨rfl, rfl, rfl, rfl⟩ := h
    exact code_id fun Q a w q => wp_exit q
  | .ret, _, _, st, x, st', F, W, h => by
    simp only [evC, Option.some.injEq, Prod.mk.injEq] at h
    obtain ⟨rfl, rfl, rfl, rfl⟩ := h
    exact code_id fun Q a w q => wp_ret q
  | .region id ops draw, hr, _, st, x, st', F, W, h => evR_ok hcall hnm hcl hmix hr (by simpa only [evC] using h)
  | .seq a b, hr, hh, st, x, st', F, W, h => by
    simp only [regsOk, Bool.and_eq_true] at hr
    simp only [evC] at h
    split at h
    · rename_i st1 F1 W1 h1
      split at h
      · rename_i x2 st2 F2 W2 h2
        simp only [Option.some.injEq, Prod.mk.injEq] at h
        obtain ⟨rfl, rfl, rfl, rfl⟩ := h
        obtain ⟨i1, q1⟩ := evC_ok hcall hnm hcl hmix a hr.1 hh.1 _ _ _ _ _ h1
        obtain ⟨i2, q2⟩ := evC_ok hcall hnm hcl hmix b hr.2 hh.2 _ _ _ _ _ h2
        refine ⟨i1.seq i2, fun σ D w ac Q hA hs hdom hD hQ => wp_seq ?_⟩
        refine q1 σ D w ac _ hA (sat_left hs) hdom (fun i g1 g2 => hD i g1 (Nat.lt_of_lt_of_le g2 i2.le)) (fun σ1 a1 w1 hA1 hd1 ho => ?_)
        obtain ⟨r1, r2, r3, r4⟩ := code_then (a := a) (b := b) i1 i2 hs hdom hD hQ hd1 ho
        exact q2 σ1 _ w1 a1 Q hA1 r1 r2 r3 r4
      · cases h
    · rename_i hne
      obtain ⟨i1, q1⟩ := evC_ok hcall hnm hcl hmix a hr.1 hh.1 _ _ _ _ _ h
      refine ⟨i1, fun σ D w ac Q hA hs hdom hD hQ => wp_seq (q1 σ D w ac _ hA hs hdom hD (fun σ1 a1 w1 hA1 hd1 ho => ?_))⟩
      have := hQ σ1 a1 w1 hA1 hd1 ho
      cases x with
      | nm => exact (hne _ _ _ h).elim
      | ex id => exact this
      | rt => exact this
  | .cond c a b, hr, hh, st, x, st', F, W, h => by
    simp only [regsOk, Bool.and_eq_true] at hr
    simp only [evC] at h
    split at h
    · rename_i hc
      obtain ⟨i1, q1⟩ := evC_ok hcall hnm hcl hmix a hr.1 hh.1 _ _ _ _ _ h
      exact ⟨i1, fun σ D w ac Q hA hs hdom hD hQ => wp_cond_true ((opA_ok hA).c hc) (q1 σ D w ac Q hA hs hdom hD hQ)⟩
    · rename_i hc
      obtain ⟨i1, q1⟩ := evC_ok hcall hnm hcl hmix b hr.2 hh.2 _ _ _ _ _ h
      exact ⟨i1, fun σ D w ac Q hA hs hdom hD hQ => wp_cond_false ((opA_ok hA).c hc) (q1 σ D w ac Q hA hs hdom hD hQ)⟩
    · rename_i hc
      obtain ⟨s1, F1, s2, F2, A, h1, h2, hn1, hn2, hm, rfl, rfl, rfl, rfl⟩ := join_inv h
      obtain ⟨i1, q1⟩ := evC_ok hcall hnm hcl hmix a hr.1 hh.1 _ _ _ _ _ h1
      obtain ⟨i2, q2⟩ := evC_ok hcall hnm hcl hmix b hr.2 hh.2 _ _ _ _ _ h2
      refine ⟨⟨Nat.le_refl _, fun _ _ _ => rfl, fun h => h, fun i _ h => by rw [tb_0] at h; cases h⟩, fun σ D w ac Q hA hs hdom hD hQ => ?_⟩
      obtain ⟨bv, hb⟩ := (opA_ok hA).c hc
      have hmm := meetT_ok hm (fun t s e => by rw [TS.get_lf] at e; cases e)
      cases bv with
      | true =>
        refine wp_cond_true hb (q1 σ D w ac Q hA (hs.sub (rst_more F1 F2 (fun i e => by rw [tb_lor, e]; rfl))) hdom (fun i g1 g2 => by rw [hn1] at g2; omega) (fun σ1 a1 w1 hA1 hd1 ho => ?_))
        rw [hn1] at hA1 ho i1
        exact hQ σ1 a1 w1 ⟨hA1.1, fun t s e => hA1.2 t s (hmm t s e).1⟩ hd1 (out_more hs i1 hdom (fun i e => by rw [tb_lor, e]; rfl) ho)
      | false =>
        refine wp_cond_false hb (q2 σ D w ac Q hA (hs.sub (rst_more F2 F1 (fun i e => by rw [tb_lor, e, Bool.or_true]))) hdom (fun i g1 g2 => by rw [hn2] at g2; omega) (fun σ1 a1 w1 hA1 hd1 ho => ?_))
        rw [hn2] at hA1 ho i2
        exact hQ σ1 a1 w1 ⟨hA1.1, fun t s e => hA1.2 t s (hmm t s e).2⟩ hd1 (out_more hs i2 hdom (fun i e => by rw [tb_lor, e, Bool.or_true]) ho)
    · cases h
  | .block id c, hr, hh, st, x, st', F, W, h => by
    have hr' : regsOk c = true := hr
    simp only [evC] at h
    split at h
    · rename_i id' st1 F1 W1 h1
      simp only [Option.some.injEq, Prod.mk.injEq] at h
      obtain ⟨rfl, rfl, rfl, rfl⟩ := h
      obtain ⟨i1, q1⟩ := evC_ok hcall hnm hcl hmix c hr' hh _ _ _ _ _ h1
      refine ⟨i1, fun σ D w ac Q hA hs hdom hD hQ => wp_block (q1 σ D w ac _ hA hs hdom hD (fun σ1 a1 w1 hA1 hd1 ho => ?_))⟩
      have := hQ σ1 a1 w1 hA1 hd1 ho
      show if id' = id then Q .normal a1 w1 else Q (.exit id') a1 w1
      by_cases e : id' = id
      · rw [if_pos e]; simpa [e, X.out] using this
      · rw [if_neg e]; simpa [e, X.out] using this
    · rename_i hne
      obtain ⟨i1, q1⟩ := evC_ok hcall hnm hcl hmix c hr' hh _ _ _ _ _ h
      refine ⟨i1, fun σ D w ac Q hA hs hdom hD hQ => wp_block (q1 σ D w ac _ hA hs hdom hD (fun σ1 a1 w1 hA1 hd1 ho => ?_))⟩
      have := hQ σ1 a1 w1 hA1 hd1 ho
      cases x with
      | nm => exact this
      | ex id => exact (hne _ _ _ _ h).elim
      | rt => exact this
  | .loop c, hr, hh, st, x, st', F, W, h => by
    have hr' : regsOk c = true := hr
    simp only [evC] at h
    split at h
    · rename_i g hgk
      unfold skipC at h
      split at h
      · rename_i st1 F1 h1
        split at h
        · rename_i x2 st2 F2 W2 h2
          simp only [Option.some.injEq, Prod.mk.injEq] at h
          obtain ⟨rfl, rfl, rfl, rfl⟩ := h
          obtain ⟨e1, e2, q⟩ := hh.1 g hgk _ _ _ h1
          obtain ⟨i2, q2⟩ := iter_ok (fun st x st' F W h => evC_ok hcall hnm hcl hmix c hr' hh.2 st x st' F W h) h2
          have i1 : Inv (hg st.H) (hg st1.H) st.n st1.n F1 0 := by rw [e1, e2]; exact ⟨Nat.le_refl _, fun _ _ _ => rfl, fun h => h, fun i _ h => by rw [tb_0] at h; cases h⟩
          have i12 := i1.seq i2
          have eW : 0 ||| W2 = W2 := Nat.zero_or _
          rw [eW] at i12
          refine ⟨i12, fun σ D w a Q hA hs hdom hD hQ => ?_⟩
          suffices hk : ∃ k', LoopN P c Q k' a w by obtain ⟨k', hk'⟩ := hk; exact wp_loopN hk'
          refine q σ D w a Q N hA (sat_left hs) (fun a1 w1 hA1 hd1 ht => ?_)
          have ho : Out σ D w (rst (tb F1) (hg st.H)) (aft (tb F1) st.n st1.n (hg st1.H)) st.n st1.n (tb 0) σ w1 := by
            rw [e1, e2]; exact out_still (sat_left hs) ht
          have hQ' := hQ
          rw [← eW] at hQ'
          obtain ⟨r1, r2, r3, r4⟩ := code_then (a := c) (b := c) i1 i2 hs hdom hD hQ' hd1 ho
          have hA2 : RA σ (more D st.n st1.n) nt st1.A a1 := by
            rw [e2]
            exact ⟨hA1.1, fun t s e => ⟨(hA1.2 t s e).1, (hA1.2 t s e).2.ext (fun _ _ => rfl) (fun _ h => .inl h)⟩⟩
          exact q2 σ _ w1 a1 Q hA2 r1 r2 r3 r4
        · cases h
      · obtain ⟨i1, q1⟩ := iter_ok (fun st x st' F W h => evC_ok hcall hnm hcl hmix c hr' hh.2 st x st' F W h) h
        exact ⟨i1, fun σ D w ac Q hA hs hdom hD hQ => wp_loopN (q1 σ D w ac Q hA hs hdom hD hQ)⟩
    · obtain ⟨i1, q1⟩ := iter_ok (fun st x st' F W h => evC_ok hcall hnm hcl hmix c hr' hh.2 st x st' F W h) h
      exact ⟨i1, fun σ D w ac Q hA hs hdom hD hQ => wp_loopN (q1 σ D w ac Q hA hs hdom hD hQ)⟩
  | .rangeFunc .., _, _, _, _, _, _, _, h => by simp [evC] at h
  | .scope _, _, _, _, _, _, _, _, h => by simp [evC] at h
  | .goto _, _, _, _, _, _, _, _, h => by simp [evC] at h
  | .refuse _, _, _, _, _, _, _, _, h => by simp [evC] at h

/-! ### Functions -/
noncomputable def argT : Nat → List S → TS → Option (TS)
  | _, [], A => some A
  | i, s :: l, A => match TS.put A i (some s) with
    | some A' => argT (i + 1) l A'
    | none => none
/-- What a function gives back: values, and what was looked at. -/
noncomputable def resL (P : Program) (H : Heap) (A : TS) : List ResultVar → Option (List V × Nat)
  | [] => some ([], 0)
  | .tmp t :: l => match S.v? (A.get t), resL P H A l with
    | some v, some (m, F) => some (v :: m, F)
    | _, _ => none
  | .cell p ty :: l => match S.c? (A.get p), resL P H A l with
    | some (.ptr i off), some (m, F) => match aLd P H ty i off with
      | some v => some (v :: m, one i ||| F)
      | none => none
    | _, _ => none
noncomputable def resS : List V → S | [v] => .v v | l => .tup l
/-- A table of oracles: calls that are told from outside. -/
abbrev Orc := FunF
noncomputable def noOrc : Orc := fun _ _ _ _ => none
noncomputable def evF (hk : FuncId → Hook) (xo : BinOp → C → C → Option C) (orc : Orc) (P : Program) (N : Nat) : Nat → FunF
  | 0, _, _, _, _ => none
  | k + 1, f, args, H, n => match orc f args H n with
    | some r => some r
    | none => match P.funcs[f]? with
      | some fn => match fn.body with
        | some c => if args.length ≤ fn.ntmps then
            match argT 0 args TS.lf with
            | some A => match evC (hk f) ⟨evF hk xo orc P N k, xo⟩ P fn.ntmps N c ⟨A, H, n⟩ with
              | some (.rt, st, F, W) => (resL P (hg st.H) st.A fn.results.toList).map fun r => (resS r.1, st.H, st.n, F ||| r.2, W)
              | some (.nm, st, F, W) => (resL P (hg st.H) st.A fn.results.toList).map fun r => (resS r.1, st.H, st.n, F ||| r.2, W)
              | _ => none
            | none => none
          else none
        | none => none
      | none => none
end
end Go.Proofs.YtcmlgmiomcegeaaGreat.Ev
namespace Go.Proofs.YtcmlgmiomcegeaaGreat.Ev
open Go Go.RowKit Go.Maps
set_option linter.unusedVariables false
set_option linter.unusedSimpArgs false
set_option linter.unusedSectionVars false
variable [Env]

theorem argT_ok : ∀ {i : Nat} {l : List S} {A A' : TS}, argT i l A = some A' → ∀ t, A'.get t = if i ≤ t ∧ t < i + l.length then l[t - i]? else A.get t
  | i, [], A, A', h, t => by
    simp only [argT, Option.some.injEq] at h; subst h
    rw [if_neg (fun ⟨_, h⟩ => by simp at h; omega)]
  | i, s :: l, A, A', h, t => by
    simp only [argT] at h
    split at h
    · rename_i A1 h1
      rw [argT_ok h t, TS.get_put h1]
      by_cases e : t = i
      · subst e
        rw [if_neg (by omega), if_pos rfl, if_pos (by simp)]
        simp
      · by_cases c : i + 1 ≤ t ∧ t < i + 1 + l.length
        · rw [if_pos c, if_pos (by simp; omega)]
          obtain ⟨j, hj⟩ : ∃ j, t - i = j + 1 := ⟨t - i - 1, by omega⟩
          rw [hj, List.getElem?_cons_succ]
          congr 1; omega
        · rw [if_neg c, if_neg e, if_neg (by simp; omega)]
    · cases h
theorem RSL.length {σ : Nat → Blk} {D : Nat → Prop} : ∀ {l : List S} {m : List Value}, RSL σ D l m → m.length = l.length
  | [], [], _ => rfl
  | _ :: _, _ :: _, h => by rw [List.length_cons, List.length_cons, h.2.length]
theorem RSL.get {σ : Nat → Blk} {D : Nat → Prop} : ∀ {l : List S} {m : List Value} {j : Nat} {c : S}, RSL σ D l m → l[j]? = some c → ∃ v, m[j]? = some v ∧ RS σ D c v
  | [], [], _, _, _, e => by cases e
  | a :: l, v :: m, 0, c, h, e => by
    rw [List.getElem?_cons_zero] at e
    cases e
    exact ⟨v, rfl, h.1⟩
  | a :: l, v :: m, j + 1, c, h, e => h.2.get (by simpa using e)
section
variable {P : Program}
noncomputable def resRun (tmps : Array Value) : ResultVar → Sem Value
  | .tmp t => pure (tmps.getD t undef)
  | .cell a t => do loadVar t (← asAddr (tmps.getD a undef))
theorem results_eq (fn : Func) (tmps : Array Value) : results fn tmps = (do let vs ← fn.results.mapM (resRun tmps); pure (if h : vs.size = 1 then vs[0] else .tuple vs)) := by
  unfold results
  congr 1
theorem resL_ok {σ : Nat → Blk} {D : Nat → Prop} {nt F : Nat} {H : Heap} {A : TS} {a : Act} {w : World} (hA : RA σ D nt A a) (hs : Sat σ D (rst (tb F) H) w) : ∀ {l : List ResultVar} {m : List V} {F' : Nat}, resL P H A l = some (m, F') → (∀ i, tb F' i = true → tb F i = true) →
    ∃ vs : List Value, RVL σ D m vs ∧ (l.mapM (resRun a.tmps) : Sem (List Value)).run P w = .ok vs w
  | [], m, F', h, _ => by
    simp only [resL, Option.some.injEq, Prod.mk.injEq] at h
    obtain ⟨rfl, rfl⟩ := h
    exact ⟨[], trivial, rfl⟩
  | .tmp t :: l, m, F', h, hF => by
    simp only [resL] at h
    split at h
    · rename_i v m' F1 h1 h2
      simp only [Option.some.injEq, Prod.mk.injEq] at h
      obtain ⟨rfl, rfl⟩ := h
      obtain ⟨vs, g1, g2⟩ := resL_ok hA hs h2 hF
      obtain ⟨k1, k2⟩ := hA.2 t _ (v?_some h1)
      refine ⟨a.tmps.getD t undef :: vs, ⟨k2, g1⟩, ?_⟩
      simp only [List.mapM_cons, resRun, Sem.run_bind, Sem.run_pure, Result.andThen_ok, g2]
    · cases h
  | .cell p ty :: l, m, F', h, hF => by
    simp only [resL] at h
    split at h
    · rename_i i off m' F1 h1 h2
      split at h
      · rename_i v hv
        simp only [Option.some.injEq, Prod.mk.injEq] at h
        obtain ⟨rfl, rfl⟩ := h
        obtain ⟨vs, g1, g2⟩ := resL_ok hA hs h2 (fun i hi => hF i (by rw [tb_or, hi, Bool.or_true]))
        obtain ⟨k1, k2⟩ := hA.2 p _ (c?_some h1)
        have hp : a.tmps.getD p undef = .pointer (some (adr (σ i) off)) := k2.2
        obtain ⟨u, u1, u2⟩ := aLd_ok (P := P) hs (hF i (by rw [tb_or, tb_one]; rfl)) hv
        refine ⟨u :: vs, ⟨u1, g1⟩, ?_⟩
        simp only [List.mapM_cons, resRun, Sem.run_bind, Sem.run_pure, Result.andThen_ok, hp, asAddr, u2, g2]
      · cases h
    · cases h
theorem RVL.length {σ : Nat → Blk} {D : Nat → Prop} : ∀ {l : List V} {m : List Value}, RVL σ D l m → m.length = l.length
  | [], [], _ => rfl
  | _ :: _, _ :: _, h => by rw [List.length_cons, List.length_cons, h.2.length]
theorem res_ok {σ : Nat → Blk} {D : Nat → Prop} {nt F : Nat} {H : Heap} {A : TS} {a : Act} {w : World} {fn : Func} {m : List V} {F' : Nat} (hA : RA σ D nt A a) (hs : Sat σ D (rst (tb F) H) w) (h : resL P H A fn.results.toList = some (m, F')) (hF : ∀ i, tb F' i = true → tb F i = true) :
    ∃ v, RS σ D (resS m) v ∧ (results fn a.tmps).run P w = .ok v w := by
  obtain ⟨vs, g1, g2⟩ := resL_ok hA hs h hF
  have hlen := g1.length
  have hrun : (fn.results.mapM (resRun a.tmps) : Sem (Array Value)).run P w = .ok vs.toArray w := by
    rw [Array.mapM_eq_mapM_toList]
    simp only [Sem.run_map]
    rw [g2]
    rfl
  refine ⟨if h : vs.toArray.size = 1 then vs.toArray[0] else .tuple vs.toArray, ?_, ?_⟩
  · by_cases h1 : vs.length = 1
    · obtain ⟨v, rfl⟩ := List.length_eq_one_iff.1 h1
      obtain ⟨x, rfl⟩ := List.length_eq_one_iff.1 (show m.length = 1 by simpa using hlen.symm)
      simpa [resS, RS] using g1.1
    · rw [dif_neg (by simpa using h1)]
      have : resS m = .tup m := by
        unfold resS
        split
        · rename_i v; simp at hlen; exact absurd hlen h1
        · rfl
      rw [this]
      exact ⟨vs, g1, rfl⟩
  · rw [results_eq, Sem.run_bind, hrun]
    rfl
/-- All regions of the program that draw are in order. -/
noncomputable def progOk (P : Program) : Bool := P.funcs.all fun fn => match fn.body with | some c => regsOk c | none => true
structure POk (P : Program) : Prop where
  mix : P.follows .mixedOrders = true
  name : named P = true
  regs : progOk P = true
noncomputable def OrcOK (P : Program) (orc : Orc) : Prop := FunOK P orc ∧ ∀ f args H n r, orc f args H n = some r → ∃ fn, P.funcs[f]? = some fn ∧ fn.body.isSome = true
theorem noOrc_ok : OrcOK P noOrc := ⟨fun f args H n s H' n' F W h => (by cases h), fun f args H n r h => (by cases h)⟩
theorem evF_body {hk : FuncId → Hook} {xo : BinOp → C → C → Option C} {orc : Orc} {N : Nat} (ho : OrcOK P orc) : ∀ {k : Nat} {f : FuncId} {args : List S} {H : HT} {n : Nat} {r}, evF hk xo orc P N k f args H n = some r → ∃ fn, P.funcs[f]? = some fn ∧ fn.body.isSome = true
  | 0, _, _, _, _, _, h => by simp [evF] at h
  | k + 1, f, args, H, n, r, h => by
    simp only [evF] at h
    split at h
    · rename_i r' hr
      exact ho.2 _ _ _ _ _ hr
    · split at h
      · rename_i fn hfn
        split at h
        · rename_i c hc
          exact ⟨fn, hfn, by rw [hc]; rfl⟩
        · cases h
      · cases h
/-- All that is told of loops from outside is so. -/
def HooksOK (P : Program) (hk : FuncId → Hook) : Prop := ∀ f fn c, P.funcs[f]? = some fn → fn.body = some c → HookOK P fn.ntmps (hk f) c
theorem noHooks_ok (P : Program) : HooksOK P (fun _ => noHook) := fun f fn c _ _ => noHook_ok P _ c
theorem evF_ok {hk : FuncId → Hook} {xo : BinOp → C → C → Option C} {orc : Orc} {N : Nat} (hh : HooksOK P hk) (hxo : XoOK P xo) (ho : OrcOK P orc) (hP : POk P) : ∀ k, FunOK P (evF hk xo orc P N k)
  | 0 => fun f args H n s H' n' F W h => by simp [evF] at h
  | k + 1 => fun f args H n s H' n' F W h => by
    simp only [evF] at h
    split at h
    · rename_i r hr
      simp only [Option.some.injEq] at h
      subst h
      exact ho.1 _ _ _ _ _ _ _ _ _ hr
    · split at h
      · rename_i fn hfn
        split at h
        · rename_i c hc
          split at h
          · rename_i hlen
            split at h
            · rename_i A hAt
              have hreg : regsOk c = true := by
                have := hP.regs
                unfold progOk at this
                rw [Array.all_eq_true_iff_forall_mem] at this
                have h2 := this fn (Array.mem_of_getElem? hfn)
                rw [hc] at h2; exact h2
              have main : ∀ (x : X) (st : St) (F1 W1 : Nat), (x = .rt ∨ x = .nm) → evC (hk f) ⟨evF hk xo orc P N k, xo⟩ P fn.ntmps N c ⟨A, H, n⟩ = some (x, st, F1, W1) → (resL P (hg st.H) st.A fn.results.toList).map (fun r => (resS r.1, st.H, st.n, F1 ||| r.2, W1)) = some (s, H', n', F, W) →
                  Inv (hg H) (hg H') n n' F W ∧ ∀ σ D w vals, RSL σ D args vals → Sat σ D (rst (tb F) (hg H)) w → (∀ i, n ≤ i → hg H i = none) → (∀ i, n ≤ i → i < n' → ¬ D i) →
                    Calls P f vals.toArray w fun e w' => ∃ v σ', e = .returned v ∧ RS σ' (more D n n') s v ∧ Out σ D w (rst (tb F) (hg H)) (aft (tb F) n n' (hg H')) n n' (tb W) σ' w' := by
                intro x st F1 W1 hx hev hres
                rw [Option.map_eq_some_iff] at hres
                obtain ⟨⟨m, F2⟩, hr, he⟩ := hres
                simp only [Prod.mk.injEq] at he
                obtain ⟨rfl, rfl, rfl, rfl, rfl⟩ := he
                obtain ⟨i1, q1⟩ := evC_ok ⟨evF_ok hh hxo ho hP k, hxo⟩ hP.name (fun f args H n r h => evF_body ho h) hP.mix c hreg (hh f fn c hfn hc) _ _ _ _ _ hev
                simp only at i1 q1
                have i2 : Inv (hg st.H) (hg st.H) st.n st.n F2 0 := ⟨Nat.le_refl _, fun _ _ _ => rfl, fun h => h, fun i _ h => by rw [tb_0] at h; cases h⟩
                have eW : tb (W1 ||| 0) = tb W1 := by funext i; rw [tb_or, tb_0, Bool.or_false]
                refine ⟨(i1.seq i2).congr rfl eW, fun σ D w vals hargs hs hdom hD => ?_⟩
                refine calls_of_wp hfn hc ?_
                have hvl := hargs.length
                have hA0 : RA σ D fn.ntmps A { tmps := vals.toArray ++ Array.replicate (fn.ntmps - vals.toArray.size) undef, defers := [] } := by
                  refine ⟨by simp; omega, fun t s' e => ?_⟩
                  rw [argT_ok hAt] at e
                  split at e
                  · rename_i hc2
                    obtain ⟨v, v1, v2⟩ := hargs.get e
                    rw [Nat.sub_zero] at v1
                    have hlt : t < vals.length := by omega
                    refine ⟨by omega, ?_⟩
                    have : (vals.toArray ++ Array.replicate (fn.ntmps - vals.toArray.size) undef).getD t undef = v := by
                      rw [Array.getD_eq_getD_getElem?, Array.getElem?_append_left (by simpa using hlt)]
                      simp [v1]
                    show RS σ D s' ((vals.toArray ++ Array.replicate (fn.ntmps - vals.toArray.size) undef).getD t undef)
                    rw [this]; exact v2
                  · rw [TS.get_lf] at e; cases e
                have hF1 : ∀ i, tb F1 i = true → tb (F1 ||| F2) i = true := fun i h => by rw [tb_or, h]; rfl
                have hF2 : ∀ i, tb F2 i = true → tb (F1 ||| F2) i = true := fun i h => by rw [tb_or, h, Bool.or_true]
                refine q1 σ D w _ _ hA0 (sat_left hs) hdom hD (fun σ1 a1 w1 hA1 hd1 hO => ?_)
                obtain ⟨s1, _, hfin⟩ := out_seq (σ2 := σ1) (w2 := w1) hF1 hF2 hdom i1 i2 hs hD hO
                obtain ⟨v, r1, r2⟩ := res_ok (P := P) hA1 s1 hr (fun i h => h)
                have hOut := hfin (out_refl s1)
                have eW2 : (fun i => tb W1 i || tb 0 i) = tb W1 := by funext i; rw [tb_0, Bool.or_false]
                rw [eW2] at hOut
                have hR : ∃ v_1 σ', Ending.returned v = .returned v_1 ∧ RS σ' (more D n st.n) (resS m) v_1 ∧ Out σ D w (rst (tb (F1 ||| F2)) (hg H)) (aft (tb (F1 ||| F2)) n st.n (hg st.H)) n st.n (tb W1) σ' w1 := ⟨v, σ1, rfl, r1, hOut⟩
                rcases hx with rfl | rfl
                · exact ⟨hd1, v, r2, hR⟩
                · exact ⟨hd1, v, r2, hR⟩
              split at h
              · rename_i st F1 W1 hev; exact main .rt st F1 W1 (.inl rfl) hev h
              · rename_i st F1 W1 hev; exact main .nm st F1 W1 (.inr rfl) hev h
              · cases h
            · cases h
          · cases h
        · cases h
      · cases h
/-- A closed call. -/
theorem closed {hk : FuncId → Hook} {xo : BinOp → C → C → Option C} {orc : Orc} {N k : Nat} (hh : HooksOK P hk) (hx : XoOK P xo) (ho : OrcOK P orc) (hP : POk P) {f : FuncId} {c : Bool} (h : (match evF hk xo orc P N k f [] HT.lf 0 with | some (.v (.c (.bool b)), _) => b == c | _ => false) = true) (w : World) :
    Calls P f #[] w fun e w' => e = .returned (.bool c) ∧ Tch No w w' := by
  split at h
  · rename_i b r he
    obtain ⟨H', n', F, W⟩ := r
    have hb : b = c := by simpa using h
    subst hb
    obtain ⟨_, q⟩ := evF_ok hh hx ho hP k f [] HT.lf 0 _ _ _ _ _ he
    have hlf : ∀ i, hg (HT.lf : HT) i = none := fun i => HT.get_lf i
    refine (q (fun _ => ⟨0, 0⟩) (fun _ => False) w [] trivial ⟨fun i o e => ?_, fun i j e => ?_⟩ (fun i _ => hlf i) (fun _ _ _ h => h)).mono ?_
    · obtain ⟨_, e⟩ := rst_some.1 e; rw [hlf] at e; cases e
    · obtain ⟨x, hx⟩ := Option.isSome_iff_exists.1 e
      obtain ⟨_, e⟩ := rst_some.1 hx; rw [hlf] at e; cases e
    · rintro e w' ⟨v, σ', rfl, h1, h2⟩
      refine ⟨by rw [show v = .bool b from h1], h2.tch.mono (fun k _ ⟨i, _, g, _⟩ => ?_)⟩
      obtain ⟨x, hx⟩ := Option.isSome_iff_exists.1 g
      obtain ⟨_, e⟩ := rst_some.1 hx; rw [hlf] at e; cases e
  · cases h
end
end Go.Proofs.YtcmlgmiomcegeaaGreat.Ev
namespace Go.Proofs.YtcmlgmiomcegeaaGreat.Ev
open Go Go.RowKit Go.Maps
set_option linter.unusedSectionVars false
variable [Env]
theorem pmix : Tryz.prog.follows .mixedOrders = true := by kernel_rfl
theorem pname : named Tryz.prog = true := by kernel_rfl
theorem pregs : progOk Tryz.prog = true := by kernel_rfl
theorem pok : POk Tryz.prog := ⟨pmix, pname, pregs⟩
end Go.Proofs.YtcmlgmiomcegeaaGreat.Ev
