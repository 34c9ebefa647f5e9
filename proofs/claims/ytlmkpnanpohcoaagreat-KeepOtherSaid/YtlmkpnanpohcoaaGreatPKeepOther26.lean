/- Part 26 of what the proof of KeepOther rests on. No condition. -/
import Derived.Test.YtlmkpnanpohcoaaGreatPKeepOther19
import Derived.Test.YtlmkpnanpohcoaaGreatPKeepOther20
import Derived.Test.YtlmkpnanpohcoaaGreatPKeepOther22
import Derived.Test.YtlmkpnanpohcoaaGreatPKeepOther25
namespace Go.Proofs.YtlmkpnanpohcoaaGreat
set_option maxRecDepth 100000
set_option maxHeartbeats 60000000
set_option linter.unusedVariables false
set_option linter.unusedSimpArgs false
set_option linter.unusedSectionVars false
namespace Ev
open Go Go.RowKit Go.Maps
@[reducible] def env0 : Env := ⟨fun _ => .bool true, fun _ => rfl, fun _ => ⟨0, 0, none⟩⟩
variable [Env]
noncomputable def orcK : Orc := srtOrc 202 260 9 (insOrc 239 61 noOrc)
theorem orcK_ok : OrcOK Tryz.prog orcK := srt_ok (ins_ok noOrc_ok)
end Ev
namespace Ev
open Go Go.RowKit Go.Maps
variable [Env]
theorem closedA {P : Program} {hk : FuncId -> Hook} {xo : BinOp -> C -> C -> Option C} {orc : Orc} {N k : Nat} (hh : HooksOK P hk) (hx : XoOK P xo) (ho : OrcOK P orc) (hP : POk P) {f : FuncId} {c : Bool} (args : List S) (vals : List Value) (hv : RSL (fun _ => ⟨0, 0⟩) (fun _ => False) args vals) (h : evFK hk xo orc P N k f args HT.lf 0 (fun s _ _ _ _ => isB s c) = true) (w : World) :
  Calls P f vals.toArray w fun e w' => e = .returned (.bool c) /\ Tch No w w' := by
 rw [evFK_eq] at h
 cases he : evF hk xo orc P N k f args HT.lf 0 with
 | none => rw [he] at h; cases h
 | some r =>
  obtain ⟨s, H, n, F, W⟩ := r
  rw [he] at h
  have := isB_eq (show isB s c = true from h)
  subst this
  obtain ⟨_, q⟩ := evF_ok hh hx ho hP k f args HT.lf 0 _ _ _ _ _ he
  have hlf : ∀ i, hg (HT.lf : HT) i = none := fun i => HT.get_lf i
  refine (q (fun _ => ⟨0, 0⟩) (fun _ => False) w vals hv ⟨fun i o e => ?_, fun i j e => ?_⟩ (fun i _ => hlf i) (fun _ _ _ h => h)).mono ?_
  ·obtain ⟨_, e⟩ := rst_some.1 e; rw [hlf] at e; cases e
  ·obtain ⟨x, hx⟩ := Option.isSome_iff_exists.1 e
   obtain ⟨_, e⟩ := rst_some.1 hx; rw [hlf] at e; cases e
  ·rintro e w' ⟨v, σ', rfl, h1, h2⟩
   refine ⟨by rw [show v = .bool c from h1], h2.tch.mono (fun k _ ⟨i, _, g, _⟩ => ?_)⟩
   obtain ⟨x, hx⟩ := Option.isSome_iff_exists.1 g
   obtain ⟨_, e⟩ := rst_some.1 hx; rw [hlf] at e; cases e
noncomputable def ltR (lo hi : Option Int) (c : Int) : Option Bool := match hi with
 | some h => if h < c then some true else (match lo with | some l => if c <= l then some false else none | none => none)
 | none => match lo with | some l => if c <= l then some false else none | none => none
noncomputable def eqR (lo hi : Option Int) (ne : List Int) (c : Int) : Option Bool := if ltR lo hi c = some true then some false else if ltR lo hi (c + 1) = some false then some false else if ne.contains c then some false else none
noncomputable def cmpR (lo hi : Option Int) (ne : List Int) (op : BinOp) (c : Int) : Option Bool := match op with
 | .lss => ltR lo hi c
 | .leq => ltR lo hi (c + 1)
 | .gtr => (ltR lo hi (c + 1)).map not
 | .geq => (ltR lo hi c).map not
 | .eql => eqR lo hi ne c
 | .neq => (eqR lo hi ne c).map not
 | _ => none
noncomputable def flipR : BinOp -> BinOp
 | .lss => .gtr | .leq => .geq | .gtr => .lss | .geq => .leq | op => op
noncomputable def xoR (j : Nat) (lo hi : Option Int) (ne : List Int) (op : BinOp) (a b : C) : Option C := match a, b with
 | .ext i, .int .i64 c => if i = j then (cmpR lo hi ne op c).map .bool else none
 | .int .i64 c, .ext i => if i = j then (cmpR lo hi ne (flipR op) c).map .bool else none
 | _, _ => none
theorem ltR_ok {lo hi : Option Int} {c x : Int} {b : Bool} (h : ltR lo hi c = some b) (hl : ∀ l, lo = some l -> l <= x) (hh : ∀ l, hi = some l -> x <= l) : decide (x < c) = b := by
 unfold ltR at h
 split at h
 ·rename_i u
  have := hh u rfl
  split at h
  ·cases h; simp; omega
  ·split at h
   ·rename_i l
    have := hl l rfl
    split at h
    ·cases h; simp; omega
    ·cases h
   ·cases h
 ·split at h
  ·rename_i l
   have := hl l rfl
   split at h
   ·cases h; simp; omega
   ·cases h
  ·cases h
theorem eqR_ok {lo hi : Option Int} {ne : List Int} {c x : Int} {b : Bool} (h : eqR lo hi ne c = some b) (hl : ∀ l, lo = some l -> l <= x) (hh : ∀ l, hi = some l -> x <= l) (hn : ∀ y ∈ ne, x ≠ y) : (x == c) = b := by
 unfold eqR at h
 split at h
 ·rename_i h1
  cases h
  have := ltR_ok h1 hl hh
  simp at this ⊢; omega
 ·split at h
  ·rename_i h1
   cases h
   have := ltR_ok h1 hl hh
   simp at this ⊢; omega
  ·split at h
   ·rename_i h1
    cases h
    have := hn c (List.contains_iff_mem.1 h1)
    simp [this]
   ·cases h
theorem cmpR_ok {lo hi : Option Int} {ne : List Int} {op : BinOp} {c x : Int} {b : Bool} (h : cmpR lo hi ne op c = some b) (hl : ∀ l, lo = some l -> l <= x) (hh : ∀ l, hi = some l -> x <= l) (hn : ∀ y ∈ ne, x ≠ y) : intC op .i64 x .i64 c = some (.bool b) := by
 unfold cmpR at h
 split at h
 ·have := ltR_ok h hl hh; simp only [intC, if_true]; rw [this]
 ·have := ltR_ok h hl hh; simp only [intC, if_true]; rw [<- this]; congr 2; simp; omega
 ·rw [Option.map_eq_some_iff] at h
  obtain ⟨b', h1, rfl⟩ := h
  have := ltR_ok h1 hl hh; simp only [intC, if_true]; rw [<- this]; congr 2; rw [Bool.eq_iff_iff]; simp; omega
 ·rw [Option.map_eq_some_iff] at h
  obtain ⟨b', h1, rfl⟩ := h
  have := ltR_ok h1 hl hh; simp only [intC, if_true]; rw [<- this]; congr 2; rw [Bool.eq_iff_iff]; simp
 ·have := eqR_ok h hl hh hn; simp only [intC, if_true]; rw [this]
 ·rw [Option.map_eq_some_iff] at h
  obtain ⟨b', h1, rfl⟩ := h
  have := eqR_ok h1 hl hh hn; simp only [intC, if_true]; rw [<- this]; rfl
 ·cases h
theorem flipR_ok {op : BinOp} {c x : Int} {b : Bool} (hop : op = .lss ∨ op = .leq ∨ op = .gtr ∨ op = .geq ∨ op = .eql ∨ op = .neq) (h : intC (flipR op) .i64 x .i64 c = some (.bool b)) : intC op .i64 c .i64 x = some (.bool b) := by
 rcases hop with rfl | rfl | rfl | rfl | rfl | rfl <;> simp only [flipR, intC, if_true] at h ⊢
 ·exact h
 ·exact h
 ·exact h
 ·exact h
 ·rw [<- h, show (c == x) = (x == c) by rw [Bool.eq_iff_iff, beq_iff_eq, beq_iff_eq]; exact ⟨Eq.symm, Eq.symm⟩]
 ·rw [<- h, bne, bne, show (c == x) = (x == c) by rw [Bool.eq_iff_iff, beq_iff_eq, beq_iff_eq]; exact ⟨Eq.symm, Eq.symm⟩]
theorem cmpR_op {lo hi : Option Int} {ne : List Int} {op : BinOp} {c : Int} {b : Bool} (h : cmpR lo hi ne (flipR op) c = some b) : op = .lss ∨ op = .leq ∨ op = .gtr ∨ op = .geq ∨ op = .eql ∨ op = .neq := by
 cases op <;> simp [flipR, cmpR] at h ⊢
theorem xoR_ok {P : Program} {j : Nat} {lo hi : Option Int} {ne : List Int} {x : Int} (hj : Env.val j = .int .i64 x) (hl : ∀ l, lo = some l -> l <= x) (hh : ∀ l, hi = some l -> x <= l) (hn : ∀ y ∈ ne, x ≠ y) : XoOK P (xoR j lo hi ne) := by
 intro op a b c h σ D u v w t ha hb
 unfold xoR at h
 split at h
 ·rename_i i q
  split at h
  ·rename_i hij
   subst hij
   rw [Option.map_eq_some_iff] at h
   obtain ⟨r, h1, rfl⟩ := h
   have e1 : u = .int .i64 x := (show u = Env.val i from ha).trans hj
   have e2 : v = .int .i64 q := hb
   subst e1; subst e2
   obtain ⟨z, g1, g2⟩ := intC_ok (P := P) (σ := σ) (D := D) (w := w) t (cmpR_ok h1 hl hh hn)
   exact ⟨z, g1, rfl, by simp, g2⟩
  ·cases h
 ·rename_i q i
  split at h
  ·rename_i hij
   subst hij
   rw [Option.map_eq_some_iff] at h
   obtain ⟨r, h1, rfl⟩ := h
   have e1 : v = .int .i64 x := (show v = Env.val i from hb).trans hj
   have e2 : u = .int .i64 q := ha
   subst e1; subst e2
   obtain ⟨z, g1, g2⟩ := intC_ok (P := P) (σ := σ) (D := D) (w := w) t (flipR_ok (cmpR_op h1) (cmpR_ok h1 hl hh hn))
   exact ⟨z, g1, rfl, by simp, g2⟩
  ·cases h
 ·cases h
end Ev
namespace Ev
open Go Go.RowKit Go.Maps
theorem begun12 (w : World) : Calls Tryz.prog 12 #[] w fun e w' => e = .returned (.bool true) /\ Tch No w w' :=
 @closedK env0 _ scanH noXo orcK 2000 80 (@scanH_ok env0) (@noXo_ok env0 _) (@orcK_ok env0) (@pok env0) _ true (by kernel_rfl) w
noncomputable def yesS (l : List S) : Option S := List.rec (motive := fun _ => Option S) (some (.v (.c (.bool true)))) (fun _ _ _ => none) l
noncomputable def orcB : Orc := valOrc 12 yesS orcK
theorem orcB_ok [Env] : OrcOK Tryz.prog orcB := valOrc_ok ⟨_, Tryz.func12, rfl⟩ (fun args s h σ D w vals hv => by
 cases args with
 | cons a l => cases h
 | nil =>
  cases h
  cases vals with
  | cons v l => exact hv.elim
  | nil => exact (begun12 w).mono (by rintro e w' ⟨rfl, t⟩; exact ⟨_, rfl, rfl, t⟩)) orcK_ok
end Ev
namespace Ev
open Go Go.RowKit Go.Maps
theorem ko1p : evFK scanH (xoR 0 (some 1) (some 8) [1]) orcB Tryz.prog 2000 80 11 [.v (.c (.int .i64 1)), .v (.c (.ext 0)), .v (.c (.bool true))] HT.lf 0 (fun s _ _ _ _ => isB s true) = true := by kernel_rfl
theorem ko1q : evFK scanH noXo orcB Tryz.prog 2000 80 11 [.v (.c (.int .i64 1)), .v (.c (.int .i64 1)), .v (.c (.bool true))] HT.lf 0 (fun s _ _ _ _ => isB s true) = true := by kernel_rfl
theorem ko1b1 : evFK scanH noXo orcB Tryz.prog 2000 80 11 [.v (.c (.int .i64 1)), .v (.c (.int .i64 1)), .v (.c (.bool false))] HT.lf 0 (fun s _ _ _ _ => isB s true) = true := by kernel_rfl
theorem ko1b2 : evFK scanH noXo orcB Tryz.prog 2000 80 11 [.v (.c (.int .i64 1)), .v (.c (.int .i64 2)), .v (.c (.bool false))] HT.lf 0 (fun s _ _ _ _ => isB s true) = true := by kernel_rfl
theorem ko1b3 : evFK scanH noXo orcB Tryz.prog 2000 80 11 [.v (.c (.int .i64 1)), .v (.c (.int .i64 3)), .v (.c (.bool false))] HT.lf 0 (fun s _ _ _ _ => isB s true) = true := by kernel_rfl
theorem ko1b4 : evFK scanH noXo orcB Tryz.prog 2000 80 11 [.v (.c (.int .i64 1)), .v (.c (.int .i64 4)), .v (.c (.bool false))] HT.lf 0 (fun s _ _ _ _ => isB s true) = true := by kernel_rfl
theorem ko1b5 : evFK scanH noXo orcB Tryz.prog 2000 80 11 [.v (.c (.int .i64 1)), .v (.c (.int .i64 5)), .v (.c (.bool false))] HT.lf 0 (fun s _ _ _ _ => isB s true) = true := by kernel_rfl
theorem ko1b6 : evFK scanH noXo orcB Tryz.prog 2000 80 11 [.v (.c (.int .i64 1)), .v (.c (.int .i64 6)), .v (.c (.bool false))] HT.lf 0 (fun s _ _ _ _ => isB s true) = true := by kernel_rfl
theorem ko1b7 : evFK scanH noXo orcB Tryz.prog 2000 80 11 [.v (.c (.int .i64 1)), .v (.c (.int .i64 7)), .v (.c (.bool false))] HT.lf 0 (fun s _ _ _ _ => isB s true) = true := by kernel_rfl
theorem ko1b8 : evFK scanH noXo orcB Tryz.prog 2000 80 11 [.v (.c (.int .i64 1)), .v (.c (.int .i64 8)), .v (.c (.bool false))] HT.lf 0 (fun s _ _ _ _ => isB s true) = true := by kernel_rfl
theorem ko1ltrue : evFK scanH (xoR 0 none (some 0) []) orcB Tryz.prog 2000 80 11 [.v (.c (.int .i64 1)), .v (.c (.ext 0)), .v (.c (.bool true))] HT.lf 0 (fun s _ _ _ _ => isB s true) = true := by kernel_rfl
theorem ko1htrue : evFK scanH (xoR 0 (some 9) none []) orcB Tryz.prog 2000 80 11 [.v (.c (.int .i64 1)), .v (.c (.ext 0)), .v (.c (.bool true))] HT.lf 0 (fun s _ _ _ _ => isB s true) = true := by kernel_rfl
theorem ko1lfalse : evFK scanH (xoR 0 none (some 0) []) orcB Tryz.prog 2000 80 11 [.v (.c (.int .i64 1)), .v (.c (.ext 0)), .v (.c (.bool false))] HT.lf 0 (fun s _ _ _ _ => isB s true) = true := by kernel_rfl
theorem ko1hfalse : evFK scanH (xoR 0 (some 9) none []) orcB Tryz.prog 2000 80 11 [.v (.c (.int .i64 1)), .v (.c (.ext 0)), .v (.c (.bool false))] HT.lf 0 (fun s _ _ _ _ => isB s true) = true := by kernel_rfl
theorem ko2p : evFK scanH (xoR 0 (some 1) (some 8) [2]) orcB Tryz.prog 2000 80 11 [.v (.c (.int .i64 2)), .v (.c (.ext 0)), .v (.c (.bool true))] HT.lf 0 (fun s _ _ _ _ => isB s true) = true := by kernel_rfl
theorem ko2q : evFK scanH noXo orcB Tryz.prog 2000 80 11 [.v (.c (.int .i64 2)), .v (.c (.int .i64 2)), .v (.c (.bool true))] HT.lf 0 (fun s _ _ _ _ => isB s true) = true := by kernel_rfl
theorem ko2b1 : evFK scanH noXo orcB Tryz.prog 2000 80 11 [.v (.c (.int .i64 2)), .v (.c (.int .i64 1)), .v (.c (.bool false))] HT.lf 0 (fun s _ _ _ _ => isB s true) = true := by kernel_rfl
theorem ko2b2 : evFK scanH noXo orcB Tryz.prog 2000 80 11 [.v (.c (.int .i64 2)), .v (.c (.int .i64 2)), .v (.c (.bool false))] HT.lf 0 (fun s _ _ _ _ => isB s true) = true := by kernel_rfl
theorem ko2b3 : evFK scanH noXo orcB Tryz.prog 2000 80 11 [.v (.c (.int .i64 2)), .v (.c (.int .i64 3)), .v (.c (.bool false))] HT.lf 0 (fun s _ _ _ _ => isB s true) = true := by kernel_rfl
theorem ko2b4 : evFK scanH noXo orcB Tryz.prog 2000 80 11 [.v (.c (.int .i64 2)), .v (.c (.int .i64 4)), .v (.c (.bool false))] HT.lf 0 (fun s _ _ _ _ => isB s true) = true := by kernel_rfl
theorem ko2b5 : evFK scanH noXo orcB Tryz.prog 2000 80 11 [.v (.c (.int .i64 2)), .v (.c (.int .i64 5)), .v (.c (.bool false))] HT.lf 0 (fun s _ _ _ _ => isB s true) = true := by kernel_rfl
theorem ko2b6 : evFK scanH noXo orcB Tryz.prog 2000 80 11 [.v (.c (.int .i64 2)), .v (.c (.int .i64 6)), .v (.c (.bool false))] HT.lf 0 (fun s _ _ _ _ => isB s true) = true := by kernel_rfl
theorem ko2b7 : evFK scanH noXo orcB Tryz.prog 2000 80 11 [.v (.c (.int .i64 2)), .v (.c (.int .i64 7)), .v (.c (.bool false))] HT.lf 0 (fun s _ _ _ _ => isB s true) = true := by kernel_rfl
theorem ko2b8 : evFK scanH noXo orcB Tryz.prog 2000 80 11 [.v (.c (.int .i64 2)), .v (.c (.int .i64 8)), .v (.c (.bool false))] HT.lf 0 (fun s _ _ _ _ => isB s true) = true := by kernel_rfl
theorem ko2ltrue : evFK scanH (xoR 0 none (some 0) []) orcB Tryz.prog 2000 80 11 [.v (.c (.int .i64 2)), .v (.c (.ext 0)), .v (.c (.bool true))] HT.lf 0 (fun s _ _ _ _ => isB s true) = true := by kernel_rfl
theorem ko2htrue : evFK scanH (xoR 0 (some 9) none []) orcB Tryz.prog 2000 80 11 [.v (.c (.int .i64 2)), .v (.c (.ext 0)), .v (.c (.bool true))] HT.lf 0 (fun s _ _ _ _ => isB s true) = true := by kernel_rfl
theorem ko2lfalse : evFK scanH (xoR 0 none (some 0) []) orcB Tryz.prog 2000 80 11 [.v (.c (.int .i64 2)), .v (.c (.ext 0)), .v (.c (.bool false))] HT.lf 0 (fun s _ _ _ _ => isB s true) = true := by kernel_rfl
theorem ko2hfalse : evFK scanH (xoR 0 (some 9) none []) orcB Tryz.prog 2000 80 11 [.v (.c (.int .i64 2)), .v (.c (.ext 0)), .v (.c (.bool false))] HT.lf 0 (fun s _ _ _ _ => isB s true) = true := by kernel_rfl
theorem kol : evFK scanH (xoR 0 none (some 0) []) orcB Tryz.prog 2000 80 11 [.v (.c (.ext 0)), .v (.c (.ext 1)), .v (.c (.ext 2))] HT.lf 0 (fun s _ _ _ _ => isB s true) = true := by kernel_rfl
theorem koh : evFK scanH (xoR 0 (some 9) none []) orcB Tryz.prog 2000 80 11 [.v (.c (.ext 0)), .v (.c (.ext 1)), .v (.c (.ext 2))] HT.lf 0 (fun s _ _ _ _ => isB s true) = true := by kernel_rfl
end Ev
namespace Ev
open Go Go.RowKit Go.Maps
theorem ko3p : evFK scanH (xoR 0 (some 1) (some 8) [3]) orcB Tryz.prog 2000 80 11 [.v (.c (.int .i64 3)), .v (.c (.ext 0)), .v (.c (.bool true))] HT.lf 0 (fun s _ _ _ _ => isB s true) = true := by kernel_rfl
theorem ko3q : evFK scanH noXo orcB Tryz.prog 2000 80 11 [.v (.c (.int .i64 3)), .v (.c (.int .i64 3)), .v (.c (.bool true))] HT.lf 0 (fun s _ _ _ _ => isB s true) = true := by kernel_rfl
theorem ko3b1 : evFK scanH noXo orcB Tryz.prog 2000 80 11 [.v (.c (.int .i64 3)), .v (.c (.int .i64 1)), .v (.c (.bool false))] HT.lf 0 (fun s _ _ _ _ => isB s true) = true := by kernel_rfl
theorem ko3b2 : evFK scanH noXo orcB Tryz.prog 2000 80 11 [.v (.c (.int .i64 3)), .v (.c (.int .i64 2)), .v (.c (.bool false))] HT.lf 0 (fun s _ _ _ _ => isB s true) = true := by kernel_rfl
theorem ko3b3 : evFK scanH noXo orcB Tryz.prog 2000 80 11 [.v (.c (.int .i64 3)), .v (.c (.int .i64 3)), .v (.c (.bool false))] HT.lf 0 (fun s _ _ _ _ => isB s true) = true := by kernel_rfl
theorem ko3b4 : evFK scanH noXo orcB Tryz.prog 2000 80 11 [.v (.c (.int .i64 3)), .v (.c (.int .i64 4)), .v (.c (.bool false))] HT.lf 0 (fun s _ _ _ _ => isB s true) = true := by kernel_rfl
theorem ko3b5 : evFK scanH noXo orcB Tryz.prog 2000 80 11 [.v (.c (.int .i64 3)), .v (.c (.int .i64 5)), .v (.c (.bool false))] HT.lf 0 (fun s _ _ _ _ => isB s true) = true := by kernel_rfl
theorem ko3b6 : evFK scanH noXo orcB Tryz.prog 2000 80 11 [.v (.c (.int .i64 3)), .v (.c (.int .i64 6)), .v (.c (.bool false))] HT.lf 0 (fun s _ _ _ _ => isB s true) = true := by kernel_rfl
theorem ko3b7 : evFK scanH noXo orcB Tryz.prog 2000 80 11 [.v (.c (.int .i64 3)), .v (.c (.int .i64 7)), .v (.c (.bool false))] HT.lf 0 (fun s _ _ _ _ => isB s true) = true := by kernel_rfl
theorem ko3b8 : evFK scanH noXo orcB Tryz.prog 2000 80 11 [.v (.c (.int .i64 3)), .v (.c (.int .i64 8)), .v (.c (.bool false))] HT.lf 0 (fun s _ _ _ _ => isB s true) = true := by kernel_rfl
theorem ko3ltrue : evFK scanH (xoR 0 none (some 0) []) orcB Tryz.prog 2000 80 11 [.v (.c (.int .i64 3)), .v (.c (.ext 0)), .v (.c (.bool true))] HT.lf 0 (fun s _ _ _ _ => isB s true) = true := by kernel_rfl
theorem ko3htrue : evFK scanH (xoR 0 (some 9) none []) orcB Tryz.prog 2000 80 11 [.v (.c (.int .i64 3)), .v (.c (.ext 0)), .v (.c (.bool true))] HT.lf 0 (fun s _ _ _ _ => isB s true) = true := by kernel_rfl
theorem ko3lfalse : evFK scanH (xoR 0 none (some 0) []) orcB Tryz.prog 2000 80 11 [.v (.c (.int .i64 3)), .v (.c (.ext 0)), .v (.c (.bool false))] HT.lf 0 (fun s _ _ _ _ => isB s true) = true := by kernel_rfl
theorem ko3hfalse : evFK scanH (xoR 0 (some 9) none []) orcB Tryz.prog 2000 80 11 [.v (.c (.int .i64 3)), .v (.c (.ext 0)), .v (.c (.bool false))] HT.lf 0 (fun s _ _ _ _ => isB s true) = true := by kernel_rfl
theorem ko4p : evFK scanH (xoR 0 (some 1) (some 8) [4]) orcB Tryz.prog 2000 80 11 [.v (.c (.int .i64 4)), .v (.c (.ext 0)), .v (.c (.bool true))] HT.lf 0 (fun s _ _ _ _ => isB s true) = true := by kernel_rfl
theorem ko4q : evFK scanH noXo orcB Tryz.prog 2000 80 11 [.v (.c (.int .i64 4)), .v (.c (.int .i64 4)), .v (.c (.bool true))] HT.lf 0 (fun s _ _ _ _ => isB s true) = true := by kernel_rfl
theorem ko4b1 : evFK scanH noXo orcB Tryz.prog 2000 80 11 [.v (.c (.int .i64 4)), .v (.c (.int .i64 1)), .v (.c (.bool false))] HT.lf 0 (fun s _ _ _ _ => isB s true) = true := by kernel_rfl
theorem ko4b2 : evFK scanH noXo orcB Tryz.prog 2000 80 11 [.v (.c (.int .i64 4)), .v (.c (.int .i64 2)), .v (.c (.bool false))] HT.lf 0 (fun s _ _ _ _ => isB s true) = true := by kernel_rfl
theorem ko4b3 : evFK scanH noXo orcB Tryz.prog 2000 80 11 [.v (.c (.int .i64 4)), .v (.c (.int .i64 3)), .v (.c (.bool false))] HT.lf 0 (fun s _ _ _ _ => isB s true) = true := by kernel_rfl
theorem ko4b4 : evFK scanH noXo orcB Tryz.prog 2000 80 11 [.v (.c (.int .i64 4)), .v (.c (.int .i64 4)), .v (.c (.bool false))] HT.lf 0 (fun s _ _ _ _ => isB s true) = true := by kernel_rfl
theorem ko4b5 : evFK scanH noXo orcB Tryz.prog 2000 80 11 [.v (.c (.int .i64 4)), .v (.c (.int .i64 5)), .v (.c (.bool false))] HT.lf 0 (fun s _ _ _ _ => isB s true) = true := by kernel_rfl
theorem ko4b6 : evFK scanH noXo orcB Tryz.prog 2000 80 11 [.v (.c (.int .i64 4)), .v (.c (.int .i64 6)), .v (.c (.bool false))] HT.lf 0 (fun s _ _ _ _ => isB s true) = true := by kernel_rfl
theorem ko4b7 : evFK scanH noXo orcB Tryz.prog 2000 80 11 [.v (.c (.int .i64 4)), .v (.c (.int .i64 7)), .v (.c (.bool false))] HT.lf 0 (fun s _ _ _ _ => isB s true) = true := by kernel_rfl
theorem ko4b8 : evFK scanH noXo orcB Tryz.prog 2000 80 11 [.v (.c (.int .i64 4)), .v (.c (.int .i64 8)), .v (.c (.bool false))] HT.lf 0 (fun s _ _ _ _ => isB s true) = true := by kernel_rfl
theorem ko4ltrue : evFK scanH (xoR 0 none (some 0) []) orcB Tryz.prog 2000 80 11 [.v (.c (.int .i64 4)), .v (.c (.ext 0)), .v (.c (.bool true))] HT.lf 0 (fun s _ _ _ _ => isB s true) = true := by kernel_rfl
theorem ko4htrue : evFK scanH (xoR 0 (some 9) none []) orcB Tryz.prog 2000 80 11 [.v (.c (.int .i64 4)), .v (.c (.ext 0)), .v (.c (.bool true))] HT.lf 0 (fun s _ _ _ _ => isB s true) = true := by kernel_rfl
theorem ko4lfalse : evFK scanH (xoR 0 none (some 0) []) orcB Tryz.prog 2000 80 11 [.v (.c (.int .i64 4)), .v (.c (.ext 0)), .v (.c (.bool false))] HT.lf 0 (fun s _ _ _ _ => isB s true) = true := by kernel_rfl
theorem ko4hfalse : evFK scanH (xoR 0 (some 9) none []) orcB Tryz.prog 2000 80 11 [.v (.c (.int .i64 4)), .v (.c (.ext 0)), .v (.c (.bool false))] HT.lf 0 (fun s _ _ _ _ => isB s true) = true := by kernel_rfl
end Ev
namespace Ev
open Go Go.RowKit Go.Maps
theorem ko5p : evFK scanH (xoR 0 (some 1) (some 8) [5]) orcB Tryz.prog 2000 80 11 [.v (.c (.int .i64 5)), .v (.c (.ext 0)), .v (.c (.bool true))] HT.lf 0 (fun s _ _ _ _ => isB s true) = true := by kernel_rfl
theorem ko5q : evFK scanH noXo orcB Tryz.prog 2000 80 11 [.v (.c (.int .i64 5)), .v (.c (.int .i64 5)), .v (.c (.bool true))] HT.lf 0 (fun s _ _ _ _ => isB s true) = true := by kernel_rfl
theorem ko5b1 : evFK scanH noXo orcB Tryz.prog 2000 80 11 [.v (.c (.int .i64 5)), .v (.c (.int .i64 1)), .v (.c (.bool false))] HT.lf 0 (fun s _ _ _ _ => isB s true) = true := by kernel_rfl
theorem ko5b2 : evFK scanH noXo orcB Tryz.prog 2000 80 11 [.v (.c (.int .i64 5)), .v (.c (.int .i64 2)), .v (.c (.bool false))] HT.lf 0 (fun s _ _ _ _ => isB s true) = true := by kernel_rfl
theorem ko5b3 : evFK scanH noXo orcB Tryz.prog 2000 80 11 [.v (.c (.int .i64 5)), .v (.c (.int .i64 3)), .v (.c (.bool false))] HT.lf 0 (fun s _ _ _ _ => isB s true) = true := by kernel_rfl
theorem ko5b4 : evFK scanH noXo orcB Tryz.prog 2000 80 11 [.v (.c (.int .i64 5)), .v (.c (.int .i64 4)), .v (.c (.bool false))] HT.lf 0 (fun s _ _ _ _ => isB s true) = true := by kernel_rfl
theorem ko5b5 : evFK scanH noXo orcB Tryz.prog 2000 80 11 [.v (.c (.int .i64 5)), .v (.c (.int .i64 5)), .v (.c (.bool false))] HT.lf 0 (fun s _ _ _ _ => isB s true) = true := by kernel_rfl
theorem ko5b6 : evFK scanH noXo orcB Tryz.prog 2000 80 11 [.v (.c (.int .i64 5)), .v (.c (.int .i64 6)), .v (.c (.bool false))] HT.lf 0 (fun s _ _ _ _ => isB s true) = true := by kernel_rfl
theorem ko5b7 : evFK scanH noXo orcB Tryz.prog 2000 80 11 [.v (.c (.int .i64 5)), .v (.c (.int .i64 7)), .v (.c (.bool false))] HT.lf 0 (fun s _ _ _ _ => isB s true) = true := by kernel_rfl
theorem ko5b8 : evFK scanH noXo orcB Tryz.prog 2000 80 11 [.v (.c (.int .i64 5)), .v (.c (.int .i64 8)), .v (.c (.bool false))] HT.lf 0 (fun s _ _ _ _ => isB s true) = true := by kernel_rfl
theorem ko5ltrue : evFK scanH (xoR 0 none (some 0) []) orcB Tryz.prog 2000 80 11 [.v (.c (.int .i64 5)), .v (.c (.ext 0)), .v (.c (.bool true))] HT.lf 0 (fun s _ _ _ _ => isB s true) = true := by kernel_rfl
theorem ko5htrue : evFK scanH (xoR 0 (some 9) none []) orcB Tryz.prog 2000 80 11 [.v (.c (.int .i64 5)), .v (.c (.ext 0)), .v (.c (.bool true))] HT.lf 0 (fun s _ _ _ _ => isB s true) = true := by kernel_rfl
theorem ko5lfalse : evFK scanH (xoR 0 none (some 0) []) orcB Tryz.prog 2000 80 11 [.v (.c (.int .i64 5)), .v (.c (.ext 0)), .v (.c (.bool false))] HT.lf 0 (fun s _ _ _ _ => isB s true) = true := by kernel_rfl
theorem ko5hfalse : evFK scanH (xoR 0 (some 9) none []) orcB Tryz.prog 2000 80 11 [.v (.c (.int .i64 5)), .v (.c (.ext 0)), .v (.c (.bool false))] HT.lf 0 (fun s _ _ _ _ => isB s true) = true := by kernel_rfl
theorem ko6p : evFK scanH (xoR 0 (some 1) (some 8) [6]) orcB Tryz.prog 2000 80 11 [.v (.c (.int .i64 6)), .v (.c (.ext 0)), .v (.c (.bool true))] HT.lf 0 (fun s _ _ _ _ => isB s true) = true := by kernel_rfl
theorem ko6q : evFK scanH noXo orcB Tryz.prog 2000 80 11 [.v (.c (.int .i64 6)), .v (.c (.int .i64 6)), .v (.c (.bool true))] HT.lf 0 (fun s _ _ _ _ => isB s true) = true := by kernel_rfl
theorem ko6b1 : evFK scanH noXo orcB Tryz.prog 2000 80 11 [.v (.c (.int .i64 6)), .v (.c (.int .i64 1)), .v (.c (.bool false))] HT.lf 0 (fun s _ _ _ _ => isB s true) = true := by kernel_rfl
theorem ko6b2 : evFK scanH noXo orcB Tryz.prog 2000 80 11 [.v (.c (.int .i64 6)), .v (.c (.int .i64 2)), .v (.c (.bool false))] HT.lf 0 (fun s _ _ _ _ => isB s true) = true := by kernel_rfl
theorem ko6b3 : evFK scanH noXo orcB Tryz.prog 2000 80 11 [.v (.c (.int .i64 6)), .v (.c (.int .i64 3)), .v (.c (.bool false))] HT.lf 0 (fun s _ _ _ _ => isB s true) = true := by kernel_rfl
theorem ko6b4 : evFK scanH noXo orcB Tryz.prog 2000 80 11 [.v (.c (.int .i64 6)), .v (.c (.int .i64 4)), .v (.c (.bool false))] HT.lf 0 (fun s _ _ _ _ => isB s true) = true := by kernel_rfl
theorem ko6b5 : evFK scanH noXo orcB Tryz.prog 2000 80 11 [.v (.c (.int .i64 6)), .v (.c (.int .i64 5)), .v (.c (.bool false))] HT.lf 0 (fun s _ _ _ _ => isB s true) = true := by kernel_rfl
theorem ko6b6 : evFK scanH noXo orcB Tryz.prog 2000 80 11 [.v (.c (.int .i64 6)), .v (.c (.int .i64 6)), .v (.c (.bool false))] HT.lf 0 (fun s _ _ _ _ => isB s true) = true := by kernel_rfl
theorem ko6b7 : evFK scanH noXo orcB Tryz.prog 2000 80 11 [.v (.c (.int .i64 6)), .v (.c (.int .i64 7)), .v (.c (.bool false))] HT.lf 0 (fun s _ _ _ _ => isB s true) = true := by kernel_rfl
theorem ko6b8 : evFK scanH noXo orcB Tryz.prog 2000 80 11 [.v (.c (.int .i64 6)), .v (.c (.int .i64 8)), .v (.c (.bool false))] HT.lf 0 (fun s _ _ _ _ => isB s true) = true := by kernel_rfl
theorem ko6ltrue : evFK scanH (xoR 0 none (some 0) []) orcB Tryz.prog 2000 80 11 [.v (.c (.int .i64 6)), .v (.c (.ext 0)), .v (.c (.bool true))] HT.lf 0 (fun s _ _ _ _ => isB s true) = true := by kernel_rfl
theorem ko6htrue : evFK scanH (xoR 0 (some 9) none []) orcB Tryz.prog 2000 80 11 [.v (.c (.int .i64 6)), .v (.c (.ext 0)), .v (.c (.bool true))] HT.lf 0 (fun s _ _ _ _ => isB s true) = true := by kernel_rfl
theorem ko6lfalse : evFK scanH (xoR 0 none (some 0) []) orcB Tryz.prog 2000 80 11 [.v (.c (.int .i64 6)), .v (.c (.ext 0)), .v (.c (.bool false))] HT.lf 0 (fun s _ _ _ _ => isB s true) = true := by kernel_rfl
theorem ko6hfalse : evFK scanH (xoR 0 (some 9) none []) orcB Tryz.prog 2000 80 11 [.v (.c (.int .i64 6)), .v (.c (.ext 0)), .v (.c (.bool false))] HT.lf 0 (fun s _ _ _ _ => isB s true) = true := by kernel_rfl
end Ev
end Go.Proofs.YtlmkpnanpohcoaaGreat
