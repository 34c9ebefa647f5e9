/- Part 34 of what the proof of TopUnknown rests on. No condition. -/
import Derived.Test.YtohodhkdmnokdaaGreatPTopAbort32
import Derived.Test.YtohodhkdmnokdaaGreatPTopAbort33
namespace Go.Proofs.YtohodhkdmnokdaaGreat
set_option maxRecDepth 100000
set_option maxHeartbeats 60000000
set_option linter.unusedVariables false
set_option linter.unusedSimpArgs false
set_option linter.unusedSectionVars false
namespace Ev
open Go Go.RowKit Go.Maps
variable [Env]
noncomputable def opN (o : BinOp) : Nat := BinOp.rec (motive := fun _ => Nat) 0 1 2 3 4 5 6 7 8 9 10 11 12 13 14 15 16 o
theorem opN_inj {a b : BinOp} (h : opN a = opN b) : a = b := by cases a <;> cases b <;> first | rfl | (cases h)
structure XE where
 op : BinOp
 i : Nat
 j : Nat
 c : Int
 r : C
 /-- The number from outside stands behind. -/
 sw : Bool := false
noncomputable def xoL (sw : Bool) : List XE -> BinOp -> Nat -> Int -> Option C
 | [], _, _, _ => none
 | e :: l, op, i, c => if (Nat.beq (opN e.op) (opN op) && Nat.ble e.i i && Nat.ble i e.j && eqF e.c c && (e.sw == sw)) = true then some e.r else xoL sw l op i c
noncomputable def xoE (l : List XE) (op : BinOp) (a b : C) : Option C := match a, b with
 | .ext i, .int .i64 c => xoL false l op i c
 | .int .i64 c, .ext i => xoL true l op i c
 | _, _ => none
def XE.Ok (e : XE) : Prop := ∀ i, e.i <= i -> i <= e.j -> ∃ x y, Env.val i = .int .i64 x /\ (if e.sw then intC e.op .i64 e.c .i64 x else intC e.op .i64 x .i64 e.c) = some y /\ ∀ (σ : Nat -> Blk) (D : Nat -> Prop) v, RC σ D y v -> RC σ D e.r v
theorem xoL_mem {sw : Bool} : ∀ {l : List XE} {op : BinOp} {i : Nat} {c : Int} {r : C}, xoL sw l op i c = some r -> ∃ e ∈ l, e.op = op /\ e.i <= i /\ i <= e.j /\ e.c = c /\ e.r = r /\ e.sw = sw
 | e :: l, op, i, c, r, h => by
  simp only [xoL] at h
  split at h
  ·rename_i hc
   rw [eqF_eq] at hc
   simp only [Bool.and_eq_true, beq_iff_eq] at hc
   obtain ⟨⟨⟨⟨h1, h2⟩, h3⟩, h4⟩, h5⟩ := hc
   cases h
   exact ⟨e, by simp, opN_inj (Nat.eq_of_beq_eq_true h1), Nat.le_of_ble_eq_true h2, Nat.le_of_ble_eq_true h3, h4, rfl, h5⟩
  ·obtain ⟨e', h1, h2⟩ := xoL_mem h
   exact ⟨e', List.mem_cons_of_mem _ h1, h2⟩
theorem xoE_ok {P : Program} {l : List XE} (h : ∀ e ∈ l, e.Ok) : XoOK P (xoE l) := by
 intro op a b c hx σ D u v w t ha hb
 unfold xoE at hx
 split at hx
 ·rename_i i q
  obtain ⟨e, he, rfl, h1, h2, rfl, rfl, hsw⟩ := xoL_mem hx
  obtain ⟨x, y, g1, g2, g3⟩ := h e he i h1 h2
  rw [hsw] at g2
  simp only [Bool.false_eq_true, if_false] at g2
  have e1 : u = .int .i64 x := (show u = Env.val i from ha).trans g1
  have e2 : v = .int .i64 e.c := hb
  subst e1; subst e2
  obtain ⟨z, k1, k2⟩ := intC_ok (P := P) (σ := σ) (D := D) (w := w) t g2
  exact ⟨z, g3 σ D z k1, rfl, by simp, k2⟩
 ·rename_i q i
  obtain ⟨e, he, rfl, h1, h2, rfl, rfl, hsw⟩ := xoL_mem hx
  obtain ⟨x, y, g1, g2, g3⟩ := h e he i h1 h2
  rw [hsw] at g2
  simp only [if_true] at g2
  have e1 : v = .int .i64 x := (show v = Env.val i from hb).trans g1
  have e2 : u = .int .i64 e.c := ha
  subst e1; subst e2
  obtain ⟨z, k1, k2⟩ := intC_ok (P := P) (σ := σ) (D := D) (w := w) t g2
  exact ⟨z, g3 σ D z k1, rfl, by simp, k2⟩
 ·cases hx
end Ev
namespace Ev
open Go Go.RowKit Go.Maps
open Go Go.RowKit Go.Maps
def v3 (a b c : Int) : Nat -> Int | 0 => a | 1 => b | _ => c
@[reducible] def envP (v : Nat -> Int) : Env := envV (fun j => .int .i64 (v j)) (fun _ => rfl) (fun _ => ⟨0, 0, none⟩)
end Ev
end Go.Proofs.YtohodhkdmnokdaaGreat
