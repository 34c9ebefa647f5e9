/- Part 33 of what the proof of KeepTwice rests on. No condition. -/
import Derived.Test.YtlmkpnanpohcoaaGreatPKeepTwice28
import Derived.Test.YtlmkpnanpohcoaaGreatPKeepTwice29
import Derived.Test.YtlmkpnanpohcoaaGreatPKeepTwice30
import Derived.Test.YtlmkpnanpohcoaaGreatPKeepTwice31
import Derived.Test.YtlmkpnanpohcoaaGreatPKeepTwice32
namespace Go.Proofs.YtlmkpnanpohcoaaGreat
set_option maxRecDepth 100000
set_option maxHeartbeats 60000000
set_option linter.unusedVariables false
set_option linter.unusedSimpArgs false
set_option linter.unusedSectionVars false
namespace Ev
open Go Go.RowKit Go.Maps
theorem tv_ge {a : Int} {z : Nat -> Int} (k : Nat) : tv a z (10 + k) = z k := by rw [Nat.add_comm]; show z (k + 10 - 10) = z k; rw [Nat.add_sub_cancel]
theorem heap_of_cell {w : World} {a : Addr} {v : Value} (h : w.cell? a = some v) : ∃ x, w.heap[a.block]? = some x := by
 unfold World.cell? at h
 cases e : w.heap[a.block]? with
 | none => rw [e] at h; cases h
 | some x => exact ⟨x, rfl⟩
theorem kt_se {a r : Int} (hr : (a.tmod 5 + 5).tmod 5 = r) (h : ∀ [Env], evFK scanH (xoE (xT r)) orcB Tryz.prog 2000 80 9 [.v (.c .se), .v (.c (.ext 0))] HT.lf 0 (fun s _ _ _ _ => isB s true) = true) (x : Option Addr) (c : Nat) (w : World) :
  Calls Tryz.prog 9 #[.slice x 0 c, .int .i64 a] w fun e w' => e = .returned (.bool true) /\ Tch No w w' :=
 @closedA (envT a (fun _ => 0) ⟨0, 0, none⟩) _ scanH _ orcB 2000 80 (@scanH_ok (envT a (fun _ => 0) ⟨0, 0, none⟩)) (@xoE_ok (envT a (fun _ => 0) ⟨0, 0, none⟩) _ _ (xT_ok hr)) (@orcB_ok (envT a (fun _ => 0) ⟨0, 0, none⟩)) (@pok (envT a (fun _ => 0) ⟨0, 0, none⟩)) _ true [.v (.c .se), .v (.c (.ext 0))] [.slice x 0 c, .int .i64 a] (by exact ⟨⟨x, c, rfl⟩, rfl, trivial⟩) (@h (envT a (fun _ => 0) ⟨0, 0, none⟩)) w
theorem kt_row {a r : Int} (hr : (a.tmod 5 + 5).tmod 5 = r) {m : Nat} {ex : Bool} (h : ∀ [Env], rowK 10 m (fun H => evFK scanH (xoE (xT r)) orcB Tryz.prog 2000 80 9 [.v (.c (.sg 0 m ex)), .v (.c (.ext 0))] H 1 (fun s _ _ _ W => isB0 s true W)) = true) (x : Addr) (len c : Nat) (z : Nat -> Int) (hm : 0 < m) (hml : m <= len) (hex : ex = true -> len = m) (w : World) (hc : ∀ k, k < m -> w.cell? (x.add k) = some (.int .i64 (z k))) :
  Calls Tryz.prog 9 #[.slice (some x) len c, .int .i64 a] w fun e w' => e = .returned (.bool true) /\ Tch No w w' :=
 @closed1 (envT a z x) _ scanH _ orcB 2000 80 (@scanH_ok (envT a z x)) (@xoE_ok (envT a z x) _ _ (xT_ok hr)) (@orcB_ok (envT a z x)) (@pok (envT a z x)) _ true 10 m x.block [.v (.c (.sg 0 m ex)), .v (.c (.ext 0))] [.slice (some x) len c, .int .i64 a] (by exact ⟨⟨rfl, rfl, len, c, rfl, hml, hex⟩, rfl, trivial⟩) w
  ⟨rfl, by obtain ⟨y, hy⟩ := heap_of_cell (hc 0 hm); rw [@add_block (envT a z x)] at hy; exact ⟨y, hy⟩, fun k hk => by rw [show (envT a z x).val (10 + k) = .int .i64 (tv a z (10 + k)) from rfl, tv_ge]; exact hc k hk⟩ (@h (envT a z x))
theorem kt_0 {a : Int} (hr : (a.tmod 5 + 5).tmod 5 = 0) (x : Addr) (len c : Nat) (z : Nat -> Int) (w : World) (hc : ∀ k, k < len -> w.cell? (x.add k) = some (.int .i64 (z k))) : Calls Tryz.prog 9 #[.slice (some x) len c, .int .i64 a] w fun e w' => e = .returned (.bool true) /\ Tch No w w' := by
 by_cases h5 : 5 <= len
 ·exact kt_row hr kt0m5 x len c z (by omega) h5 (fun e => by cases e) w (fun k hk => hc k (by omega))
 have h : len = 0 ∨ len = 1 ∨ len = 2 ∨ len = 3 ∨ len = 4 := by omega
 rcases h with rfl | rfl | rfl | rfl | rfl
 ·exact kt_se hr kt0m0 _ _ w
 ·exact kt_row hr kt0m1 x 1 c z (by omega) (Nat.le_refl _) (fun _ => rfl) w hc
 ·exact kt_row hr kt0m2 x 2 c z (by omega) (Nat.le_refl _) (fun _ => rfl) w hc
 ·exact kt_row hr kt0m3 x 3 c z (by omega) (Nat.le_refl _) (fun _ => rfl) w hc
 ·exact kt_row hr kt0m4 x 4 c z (by omega) (Nat.le_refl _) (fun _ => rfl) w hc
theorem kt_1 {a : Int} (hr : (a.tmod 5 + 5).tmod 5 = 1) (x : Addr) (len c : Nat) (z : Nat -> Int) (w : World) (hc : ∀ k, k < len -> w.cell? (x.add k) = some (.int .i64 (z k))) : Calls Tryz.prog 9 #[.slice (some x) len c, .int .i64 a] w fun e w' => e = .returned (.bool true) /\ Tch No w w' := by
 by_cases h5 : 5 <= len
 ·exact kt_row hr kt1m5 x len c z (by omega) h5 (fun e => by cases e) w (fun k hk => hc k (by omega))
 have h : len = 0 ∨ len = 1 ∨ len = 2 ∨ len = 3 ∨ len = 4 := by omega
 rcases h with rfl | rfl | rfl | rfl | rfl
 ·exact kt_se hr kt1m0 _ _ w
 ·exact kt_row hr kt1m1 x 1 c z (by omega) (Nat.le_refl _) (fun _ => rfl) w hc
 ·exact kt_row hr kt1m2 x 2 c z (by omega) (Nat.le_refl _) (fun _ => rfl) w hc
 ·exact kt_row hr kt1m3 x 3 c z (by omega) (Nat.le_refl _) (fun _ => rfl) w hc
 ·exact kt_row hr kt1m4 x 4 c z (by omega) (Nat.le_refl _) (fun _ => rfl) w hc
theorem kt_2 {a : Int} (hr : (a.tmod 5 + 5).tmod 5 = 2) (x : Addr) (len c : Nat) (z : Nat -> Int) (w : World) (hc : ∀ k, k < len -> w.cell? (x.add k) = some (.int .i64 (z k))) : Calls Tryz.prog 9 #[.slice (some x) len c, .int .i64 a] w fun e w' => e = .returned (.bool true) /\ Tch No w w' := by
 by_cases h5 : 5 <= len
 ·exact kt_row hr kt2m5 x len c z (by omega) h5 (fun e => by cases e) w (fun k hk => hc k (by omega))
 have h : len = 0 ∨ len = 1 ∨ len = 2 ∨ len = 3 ∨ len = 4 := by omega
 rcases h with rfl | rfl | rfl | rfl | rfl
 ·exact kt_se hr kt2m0 _ _ w
 ·exact kt_row hr kt2m1 x 1 c z (by omega) (Nat.le_refl _) (fun _ => rfl) w hc
 ·exact kt_row hr kt2m2 x 2 c z (by omega) (Nat.le_refl _) (fun _ => rfl) w hc
 ·exact kt_row hr kt2m3 x 3 c z (by omega) (Nat.le_refl _) (fun _ => rfl) w hc
 ·exact kt_row hr kt2m4 x 4 c z (by omega) (Nat.le_refl _) (fun _ => rfl) w hc
theorem kt_3 {a : Int} (hr : (a.tmod 5 + 5).tmod 5 = 3) (x : Addr) (len c : Nat) (z : Nat -> Int) (w : World) (hc : ∀ k, k < len -> w.cell? (x.add k) = some (.int .i64 (z k))) : Calls Tryz.prog 9 #[.slice (some x) len c, .int .i64 a] w fun e w' => e = .returned (.bool true) /\ Tch No w w' := by
 by_cases h5 : 5 <= len
 ·exact kt_row hr kt3m5 x len c z (by omega) h5 (fun e => by cases e) w (fun k hk => hc k (by omega))
 have h : len = 0 ∨ len = 1 ∨ len = 2 ∨ len = 3 ∨ len = 4 := by omega
 rcases h with rfl | rfl | rfl | rfl | rfl
 ·exact kt_se hr kt3m0 _ _ w
 ·exact kt_row hr kt3m1 x 1 c z (by omega) (Nat.le_refl _) (fun _ => rfl) w hc
 ·exact kt_row hr kt3m2 x 2 c z (by omega) (Nat.le_refl _) (fun _ => rfl) w hc
 ·exact kt_row hr kt3m3 x 3 c z (by omega) (Nat.le_refl _) (fun _ => rfl) w hc
 ·exact kt_row hr kt3m4 x 4 c z (by omega) (Nat.le_refl _) (fun _ => rfl) w hc
theorem kt_4 {a : Int} (hr : (a.tmod 5 + 5).tmod 5 = 4) (x : Addr) (len c : Nat) (z : Nat -> Int) (w : World) (hc : ∀ k, k < len -> w.cell? (x.add k) = some (.int .i64 (z k))) : Calls Tryz.prog 9 #[.slice (some x) len c, .int .i64 a] w fun e w' => e = .returned (.bool true) /\ Tch No w w' := by
 by_cases h5 : 5 <= len
 ·exact kt_row hr kt4m5 x len c z (by omega) h5 (fun e => by cases e) w (fun k hk => hc k (by omega))
 have h : len = 0 ∨ len = 1 ∨ len = 2 ∨ len = 3 ∨ len = 4 := by omega
 rcases h with rfl | rfl | rfl | rfl | rfl
 ·exact kt_se hr kt4m0 _ _ w
 ·exact kt_row hr kt4m1 x 1 c z (by omega) (Nat.le_refl _) (fun _ => rfl) w hc
 ·exact kt_row hr kt4m2 x 2 c z (by omega) (Nat.le_refl _) (fun _ => rfl) w hc
 ·exact kt_row hr kt4m3 x 3 c z (by omega) (Nat.le_refl _) (fun _ => rfl) w hc
 ·exact kt_row hr kt4m4 x 4 c z (by omega) (Nat.le_refl _) (fun _ => rfl) w hc
theorem keepTwice_row (a : Int) (x : Addr) (len c : Nat) (z : Nat -> Int) (w : World) (hc : ∀ k, k < len -> w.cell? (x.add k) = some (.int .i64 (z k))) : Calls Tryz.prog 9 #[.slice (some x) len c, .int .i64 a] w fun e w' => e = .returned (.bool true) /\ Tch No w w' := by
 have hb := Int.tmod_lt_of_pos (a.tmod 5 + 5) (show (0 : Int) < 5 by omega)
 have hb2 := Int.tmod_nonneg 5 (show 0 <= a.tmod 5 + 5 by have := Int.lt_tmod_of_pos a (show (0 : Int) < 5 by omega); omega)
 have h : (a.tmod 5 + 5).tmod 5 = 0 ∨ (a.tmod 5 + 5).tmod 5 = 1 ∨ (a.tmod 5 + 5).tmod 5 = 2 ∨ (a.tmod 5 + 5).tmod 5 = 3 ∨ (a.tmod 5 + 5).tmod 5 = 4 := by omega
 rcases h with h | h | h | h | h
 ·exact kt_0 h x len c z w hc
 ·exact kt_1 h x len c z w hc
 ·exact kt_2 h x len c z w hc
 ·exact kt_3 h x len c z w hc
 ·exact kt_4 h x len c z w hc
theorem keepTwice_nil (a : Int) (x : Option Addr) (c : Nat) (w : World) : Calls Tryz.prog 9 #[.slice x 0 c, .int .i64 a] w fun e w' => e = .returned (.bool true) /\ Tch No w w' := by
 have hb := Int.tmod_lt_of_pos (a.tmod 5 + 5) (show (0 : Int) < 5 by omega)
 have hb2 := Int.tmod_nonneg 5 (show 0 <= a.tmod 5 + 5 by have := Int.lt_tmod_of_pos a (show (0 : Int) < 5 by omega); omega)
 have h : (a.tmod 5 + 5).tmod 5 = 0 ∨ (a.tmod 5 + 5).tmod 5 = 1 ∨ (a.tmod 5 + 5).tmod 5 = 2 ∨ (a.tmod 5 + 5).tmod 5 = 3 ∨ (a.tmod 5 + 5).tmod 5 = 4 := by omega
 rcases h with h | h | h | h | h
 ·exact kt_se h kt0m0 x c w
 ·exact kt_se h kt1m0 x c w
 ·exact kt_se h kt2m0 x c w
 ·exact kt_se h kt3m0 x c w
 ·exact kt_se h kt4m0 x c w
end Ev
end Go.Proofs.YtlmkpnanpohcoaaGreat
