/- Part 40 of what the proof of TopTwice rests on. No condition. -/
import Derived.Test.YtohodhkdmnokdaaGreatPTopTwice36
import Derived.Test.YtohodhkdmnokdaaGreatPTopTwice37
import Derived.Test.YtohodhkdmnokdaaGreatPTopTwice38
import Derived.Test.YtohodhkdmnokdaaGreatPTopTwice39
namespace Go.Proofs.YtohodhkdmnokdaaGreat
set_option maxRecDepth 100000
set_option maxHeartbeats 60000000
set_option linter.unusedVariables false
set_option linter.unusedSimpArgs false
set_option linter.unusedSectionVars false
namespace Ev
open Go Go.RowKit Go.Maps
theorem heap_of_cell {w : World} {a : Addr} {v : Value} (h : w.cell? a = some v) : ∃ x, w.heap[a.block]? = some x := by
 unfold World.cell? at h
 cases e : w.heap[a.block]? with
 | none => rw [e] at h; cases h
 | some x => exact ⟨x, rfl⟩
theorem tw_se {y : Bool} (h : ∀ [Env], evFK scanH (xoE xR) orcY Tryz.prog 2000 80 11 [.v (.c .se), .v (.c (.bool y))] HT.lf 0 (fun s _ _ _ _ => isB s true) = true) (x : Option Addr) (c : Nat) (w : World) :
  Calls Tryz.prog 11 #[.slice x 0 c, .bool y] w fun e w' => e = .returned (.bool true) /\ Tch No w w' :=
 @closedA (envR (fun _ => 0) ⟨0, 0, none⟩) _ scanH _ orcY 2000 80 (@scanH_ok (envR (fun _ => 0) ⟨0, 0, none⟩)) (@xoE_ok (envR (fun _ => 0) ⟨0, 0, none⟩) _ _ xR_ok) (@orcY_ok (envR (fun _ => 0) ⟨0, 0, none⟩)) (@pok (envR (fun _ => 0) ⟨0, 0, none⟩)) _ true [.v (.c .se), .v (.c (.bool y))] [.slice x 0 c, .bool y] (by exact ⟨⟨x, c, rfl⟩, rfl, trivial⟩) (@h (envR (fun _ => 0) ⟨0, 0, none⟩)) w
theorem tw_row {y : Bool} {m : Nat} {ex : Bool} (h : ∀ [Env], rowK 10 m (fun H => evFK scanH (xoE xR) orcY Tryz.prog 2000 80 11 [.v (.c (.sg 0 m ex)), .v (.c (.bool y))] H 1 (fun s _ _ _ W => isB0 s true W)) = true) (x : Addr) (len c : Nat) (z : Nat -> Int) (hm : 0 < m) (hml : m <= len) (hex : ex = true -> len = m) (w : World) (hc : ∀ k, k < m -> w.cell? (x.add k) = some (.int .i64 (z k))) :
  Calls Tryz.prog 11 #[.slice (some x) len c, .bool y] w fun e w' => e = .returned (.bool true) /\ Tch No w w' :=
 @closed1 (envR z x) _ scanH _ orcY 2000 80 (@scanH_ok (envR z x)) (@xoE_ok (envR z x) _ _ xR_ok) (@orcY_ok (envR z x)) (@pok (envR z x)) _ true 10 m x.block [.v (.c (.sg 0 m ex)), .v (.c (.bool y))] [.slice (some x) len c, .bool y] (by exact ⟨⟨rfl, rfl, len, c, rfl, hml, hex⟩, rfl, trivial⟩) w
  ⟨rfl, by obtain ⟨y, hy⟩ := heap_of_cell (hc 0 hm); rw [@add_block (envR z x)] at hy; exact ⟨y, hy⟩, fun k hk => by rw [show (envR z x).val (10 + k) = .int .i64 (z (10 + k - 10)) from rfl, Nat.add_sub_cancel_left]; exact hc k hk⟩ (@h (envR z x))
theorem topTwice_row (y : Bool) (x : Addr) (len c : Nat) (z : Nat -> Int) (w : World) (hc : ∀ k, k < len -> w.cell? (x.add k) = some (.int .i64 (z k))) : Calls Tryz.prog 11 #[.slice (some x) len c, .bool y] w fun e w' => e = .returned (.bool true) /\ Tch No w w' := by
 cases y with
 | false =>
  by_cases h6 : 6 <= len
  ·exact tw_row tw6f x len c z (by omega) h6 (fun e => by cases e) w (fun k hk => hc k (by omega))
  have h : len = 0 ∨ len = 1 ∨ len = 2 ∨ len = 3 ∨ len = 4 ∨ len = 5 := by omega
  rcases h with rfl | rfl | rfl | rfl | rfl | rfl
  ·exact tw_se tw0f _ _ w
  ·exact tw_row tw1f x 1 c z (by omega) (Nat.le_refl _) (fun _ => rfl) w hc
  ·exact tw_row tw2f x 2 c z (by omega) (Nat.le_refl _) (fun _ => rfl) w hc
  ·exact tw_row tw3f x 3 c z (by omega) (Nat.le_refl _) (fun _ => rfl) w hc
  ·exact tw_row tw4f x 4 c z (by omega) (Nat.le_refl _) (fun _ => rfl) w hc
  ·exact tw_row tw5f x 5 c z (by omega) (Nat.le_refl _) (fun _ => rfl) w hc
 | true =>
  by_cases h6 : 6 <= len
  ·exact tw_row tw6t x len c z (by omega) h6 (fun e => by cases e) w (fun k hk => hc k (by omega))
  have h : len = 0 ∨ len = 1 ∨ len = 2 ∨ len = 3 ∨ len = 4 ∨ len = 5 := by omega
  rcases h with rfl | rfl | rfl | rfl | rfl | rfl
  ·exact tw_se tw0t _ _ w
  ·exact tw_row tw1t x 1 c z (by omega) (Nat.le_refl _) (fun _ => rfl) w hc
  ·exact tw_row tw2t x 2 c z (by omega) (Nat.le_refl _) (fun _ => rfl) w hc
  ·exact tw_row tw3t x 3 c z (by omega) (Nat.le_refl _) (fun _ => rfl) w hc
  ·exact tw_row tw4t x 4 c z (by omega) (Nat.le_refl _) (fun _ => rfl) w hc
  ·exact tw_row tw5t x 5 c z (by omega) (Nat.le_refl _) (fun _ => rfl) w hc
theorem topTwice_nil (y : Bool) (x : Option Addr) (c : Nat) (w : World) : Calls Tryz.prog 11 #[.slice x 0 c, .bool y] w fun e w' => e = .returned (.bool true) /\ Tch No w w' := by
 cases y with
 | false => exact tw_se tw0f x c w
 | true => exact tw_se tw0t x c w
end Ev
end Go.Proofs.YtohodhkdmnokdaaGreat
