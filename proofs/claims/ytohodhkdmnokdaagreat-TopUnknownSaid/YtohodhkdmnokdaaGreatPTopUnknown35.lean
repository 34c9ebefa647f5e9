/- Part 35 of what the proof of TopUnknown rests on. No condition. -/
import Derived.Test.YtohodhkdmnokdaaGreatPTopUnknown34
namespace Go.Proofs.YtohodhkdmnokdaaGreat
set_option maxRecDepth 100000
set_option maxHeartbeats 60000000
set_option linter.unusedVariables false
set_option linter.unusedSimpArgs false
set_option linter.unusedSectionVars false
namespace Ev
open Go Go.RowKit Go.Maps
def uv (a n : Int) : Nat -> Int | 0 => a | 1 => n | _ => 4294967296 + n
def uN (j : Nat) (y : Int) : Bool := Nat.beq j 0 && (decide (y = 1) || decide (y = 2))
@[reducible] def envU (a n : Int) (h1 : a ≠ 1) (h2 : a ≠ 2) : Env := ⟨fun j => .int .i64 (uv a n j), fun _ => rfl, fun _ => ⟨0, 0, none⟩, fun _ => true, fun j _ => ⟨_, rfl⟩, uN, fun j y h => ⟨_, rfl, by
 unfold uN at h
 simp only [Bool.and_eq_true, Bool.or_eq_true, decide_eq_true_eq] at h
 obtain ⟨h0, h⟩ := h
 have h0 := Nat.eq_of_beq_eq_true h0
 subst h0
 show a ≠ y
 rcases h with rfl | rfl
 ·exact h1
 ·exact h2⟩⟩
noncomputable def xUn : List XE := [⟨.lss, 1, 1, 1, .bool false, false⟩, ⟨.gtr, 1, 1, 1000, .bool false, false⟩, ⟨.add, 1, 1, 4294967296, .ext 2, true⟩, ⟨.eql, 1, 2, 0, .bool false, false⟩, ⟨.neq, 1, 2, 0, .bool true, false⟩, ⟨.leq, 1, 1, 0, .bool false, false⟩, ⟨.quo, 2, 2, 4294967296, .int .i64 1, false⟩, ⟨.rem, 2, 2, 4294967296, .ext 1, false⟩]
theorem xUn_ok {a n : Int} (h1 : a ≠ 1) (h2 : a ≠ 2) (g1 : 1 <= n) (g2 : n <= 1000) : ∀ e ∈ xUn, @XE.Ok (envU a n h1 h2) e := by
 have hw : IntKind.wrap .i64 (4294967296 + n) = 4294967296 + n := by rw [IntKind.wrap_i64]; omega
 have hq : (4294967296 + n).tdiv 4294967296 = 1 := by
  rw [Int.tdiv_eq_ediv_of_nonneg (by omega)]
  omega
 have hr : (4294967296 + n).tmod 4294967296 = n := by
  rw [Int.tmod_eq_emod_of_nonneg (by omega)]
  omega
 have hz : ∀ i, 1 <= i -> i <= 2 -> 1 <= uv a n i := fun i k1 k2 => by
  have : i = 1 ∨ i = 2 := by omega
  rcases this with rfl | rfl
  ·exact g1
  ·show 1 <= 4294967296 + n; omega
 intro e he
 simp only [xUn, List.mem_cons, List.not_mem_nil, or_false] at he
 rcases he with rfl | rfl | rfl | rfl | rfl | rfl | rfl | rfl
 ·intro i k1 k2
  obtain rfl : i = 1 := by simp only at k1 k2; omega
  exact ⟨n, .bool (decide (n < 1)), rfl, by simp [intC], fun σ D v h => by rw [decide_eq_false (by omega)] at h; exact h⟩
 ·intro i k1 k2
  obtain rfl : i = 1 := by simp only at k1 k2; omega
  exact ⟨n, .bool (decide (1000 < n)), rfl, by simp [intC], fun σ D v h => by rw [decide_eq_false (by omega)] at h; exact h⟩
 ·intro i k1 k2
  obtain rfl : i = 1 := by simp only at k1 k2; omega
  exact ⟨n, .int .i64 (IntKind.wrap .i64 (4294967296 + n)), rfl, by simp [intC], fun σ D v h => by
   rw [show v = .int .i64 (IntKind.wrap .i64 (4294967296 + n)) from h, hw]; rfl⟩
 ·intro i k1 k2
  have := hz i k1 k2
  exact ⟨uv a n i, .bool (uv a n i == 0), rfl, by simp [intC], fun σ D v h => by
   rw [show (uv a n i == 0) = false from by simp only [beq_eq_false_iff_ne]; omega] at h; exact h⟩
 ·intro i k1 k2
  have := hz i k1 k2
  exact ⟨uv a n i, .bool (uv a n i != 0), rfl, by simp [intC], fun σ D v h => by
   rw [show (uv a n i != 0) = true from by simp only [bne_iff_ne]; omega] at h; exact h⟩
 ·intro i k1 k2
  obtain rfl : i = 1 := by simp only at k1 k2; omega
  exact ⟨n, .bool (decide (n <= 0)), rfl, by simp [intC], fun σ D v h => by rw [decide_eq_false (by omega)] at h; exact h⟩
 ·intro i k1 k2
  obtain rfl : i = 2 := by simp only at k1 k2; omega
  exact ⟨4294967296 + n, .int .i64 (IntKind.wrap .i64 1), rfl, by simp [intC, hq], fun σ D v h => h⟩
 ·intro i k1 k2
  obtain rfl : i = 2 := by simp only at k1 k2; omega
  exact ⟨4294967296 + n, .int .i64 n, rfl, by simp [intC, hr], fun σ D v h => h⟩
noncomputable def xLo : List XE := ⟨.geq, 0, 0, 1, .bool false, false⟩ :: xUn
noncomputable def xHi : List XE := ⟨.geq, 0, 0, 1, .bool true, false⟩ :: ⟨.leq, 0, 0, 2, .bool false, false⟩ :: xUn
theorem xLo_ok {a n : Int} (h1 : a ≠ 1) (h2 : a ≠ 2) (g1 : 1 <= n) (g2 : n <= 1000) (ha : a < 1) : ∀ e ∈ xLo, @XE.Ok (envU a n h1 h2) e := by
 intro e he
 rcases List.mem_cons.1 he with rfl | he
 ·intro i k1 k2
  obtain rfl : i = 0 := by simp only at k1 k2; omega
  exact ⟨a, .bool (decide (1 <= a)), rfl, by simp [intC], fun σ D v h => by rw [decide_eq_false (by omega)] at h; exact h⟩
 ·exact xUn_ok h1 h2 g1 g2 e he
theorem xHi_ok {a n : Int} (h1 : a ≠ 1) (h2 : a ≠ 2) (g1 : 1 <= n) (g2 : n <= 1000) (ha : 2 < a) : ∀ e ∈ xHi, @XE.Ok (envU a n h1 h2) e := by
 intro e he
 rcases List.mem_cons.1 he with rfl | he
 ·intro i k1 k2
  obtain rfl : i = 0 := by simp only at k1 k2; omega
  exact ⟨a, .bool (decide (1 <= a)), rfl, by simp [intC], fun σ D v h => by rw [decide_eq_true (by omega)] at h; exact h⟩
 rcases List.mem_cons.1 he with rfl | he
 ·intro i k1 k2
  obtain rfl : i = 0 := by simp only at k1 k2; omega
  exact ⟨a, .bool (decide (a <= 2)), rfl, by simp [intC], fun σ D v h => by rw [decide_eq_false (by omega)] at h; exact h⟩
 ·exact xUn_ok h1 h2 g1 g2 e he
theorem tuLo (a n : Int) (h1 : a ≠ 1) (h2 : a ≠ 2) : @evFK (envU a n h1 h2) scanH (xoE xLo) orcY Tryz.prog 2000 80 5 [.v (.c (.ext 0)), .v (.c (.ext 1))] HT.lf 0 (fun s _ _ _ _ => isB s true) = true := by kernel_rfl
theorem tuHi (a n : Int) (h1 : a ≠ 1) (h2 : a ≠ 2) : @evFK (envU a n h1 h2) scanH (xoE xHi) orcY Tryz.prog 2000 80 5 [.v (.c (.ext 0)), .v (.c (.ext 1))] HT.lf 0 (fun s _ _ _ _ => isB s true) = true := by kernel_rfl
noncomputable def xE1 : List XE := [⟨.lss, 1, 1, 1, .bool true, false⟩]
noncomputable def xE2 : List XE := [⟨.lss, 1, 1, 1, .bool false, false⟩, ⟨.gtr, 1, 1, 1000, .bool true, false⟩]
noncomputable def xE3 : List XE := [⟨.lss, 1, 1, 1, .bool false, false⟩, ⟨.gtr, 1, 1, 1000, .bool false, false⟩, ⟨.geq, 0, 0, 1, .bool true, false⟩, ⟨.leq, 0, 0, 2, .bool true, false⟩]
theorem tu1 [Env] : evFK scanH (xoE xE1) orcY Tryz.prog 2000 80 5 [.v (.c (.ext 0)), .v (.c (.ext 1))] HT.lf 0 (fun s _ _ _ _ => isB s true) = true := by kernel_rfl
theorem tu2 [Env] : evFK scanH (xoE xE2) orcY Tryz.prog 2000 80 5 [.v (.c (.ext 0)), .v (.c (.ext 1))] HT.lf 0 (fun s _ _ _ _ => isB s true) = true := by kernel_rfl
theorem tu3 [Env] : evFK scanH (xoE xE3) orcY Tryz.prog 2000 80 5 [.v (.c (.ext 0)), .v (.c (.ext 1))] HT.lf 0 (fun s _ _ _ _ => isB s true) = true := by kernel_rfl
theorem cmpE {a n : Int} (op : BinOp) (i : Nat) (c : Int) (b : Bool) (x : Int) (hx : v3 a n 0 i = x) (h : intC op .i64 x .i64 c = some (.bool b)) : @XE.Ok (envP (v3 a n 0)) ⟨op, i, i, c, .bool b, false⟩ := by
 intro j k1 k2
 obtain rfl : j = i := by simp only at k1 k2; omega
 subst hx
 exact ⟨_, _, rfl, h, fun σ D v h => h⟩
theorem topUnknown_any (a n : Int) (w : World) : Calls Tryz.prog 5 #[.int .i64 a, .int .i64 n] w fun e w' => e = .returned (.bool true) /\ Tch No w w' := by
 have run : ∀ (xl : List XE), (∀ e ∈ xl, @XE.Ok (envP (v3 a n 0)) e) -> (∀ [Env], evFK scanH (xoE xl) orcY Tryz.prog 2000 80 5 [.v (.c (.ext 0)), .v (.c (.ext 1))] HT.lf 0 (fun s _ _ _ _ => isB s true) = true) -> Calls Tryz.prog 5 #[.int .i64 a, .int .i64 n] w fun e w' => e = .returned (.bool true) /\ Tch No w w' := fun xl hx h =>
  @closedA (envP (v3 a n 0)) _ scanH _ orcY 2000 80 (@scanH_ok (envP (v3 a n 0))) (@xoE_ok (envP (v3 a n 0)) _ _ hx) (@orcY_ok (envP (v3 a n 0))) (@pok (envP (v3 a n 0))) _ true [.v (.c (.ext 0)), .v (.c (.ext 1))] [.int .i64 a, .int .i64 n] (by exact ⟨rfl, rfl, trivial⟩) (@h (envP (v3 a n 0))) w
 have runU : ∀ (h1 : a ≠ 1) (h2 : a ≠ 2) (xl : List XE), (∀ e ∈ xl, @XE.Ok (envU a n h1 h2) e) -> @evFK (envU a n h1 h2) scanH (xoE xl) orcY Tryz.prog 2000 80 5 [.v (.c (.ext 0)), .v (.c (.ext 1))] HT.lf 0 (fun s _ _ _ _ => isB s true) = true -> Calls Tryz.prog 5 #[.int .i64 a, .int .i64 n] w fun e w' => e = .returned (.bool true) /\ Tch No w w' := fun h1 h2 xl hx h =>
  @closedA (envU a n h1 h2) _ scanH _ orcY 2000 80 (@scanH_ok (envU a n h1 h2)) (@xoE_ok (envU a n h1 h2) _ _ hx) (@orcY_ok (envU a n h1 h2)) (@pok (envU a n h1 h2)) _ true [.v (.c (.ext 0)), .v (.c (.ext 1))] [.int .i64 a, .int .i64 n] (by exact ⟨rfl, rfl, trivial⟩) h w
 by_cases c1 : n < 1
 ·exact run xE1 (fun e he => by
   simp only [xE1, List.mem_cons, List.not_mem_nil, or_false] at he
   rcases he with rfl
   exact cmpE .lss 1 1 true n rfl (by simp [intC, c1])) tu1
 by_cases c2 : 1000 < n
 ·exact run xE2 (fun e he => by
   simp only [xE2, List.mem_cons, List.not_mem_nil, or_false] at he
   rcases he with rfl | rfl
   ·exact cmpE .lss 1 1 false n rfl (by simp only [intC, if_pos, decide_eq_false c1])
   ·exact cmpE .gtr 1 1000 true n rfl (by simp [intC, c2])) tu2
 by_cases c3 : 1 <= a /\ a <= 2
 ·exact run xE3 (fun e he => by
   simp only [xE3, List.mem_cons, List.not_mem_nil, or_false] at he
   rcases he with rfl | rfl | rfl | rfl
   ·exact cmpE .lss 1 1 false n rfl (by simp only [intC, if_pos, decide_eq_false c1])
   ·exact cmpE .gtr 1 1000 false n rfl (by simp only [intC, if_pos, decide_eq_false c2])
   ·exact cmpE .geq 0 1 true a rfl (by simp [intC, c3.1])
   ·exact cmpE .leq 0 2 true a rfl (by simp [intC, c3.2])) tu3
 by_cases c4 : a < 1
 ·exact runU (by omega) (by omega) xLo (xLo_ok _ _ (by omega) (by omega) c4) (tuLo a n _ _)
 ·exact runU (by omega) (by omega) xHi (xHi_ok _ _ (by omega) (by omega) (by omega)) (tuHi a n _ _)
end Ev
end Go.Proofs.YtohodhkdmnokdaaGreat
