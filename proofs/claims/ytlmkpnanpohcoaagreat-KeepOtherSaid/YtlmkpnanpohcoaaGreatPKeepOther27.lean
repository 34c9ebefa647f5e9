/- Part 27 of what the proof of KeepOther rests on. No condition. -/
import Derived.Test.YtlmkpnanpohcoaaGreatPKeepOther26
namespace Go.Proofs.YtlmkpnanpohcoaaGreat
set_option maxRecDepth 100000
set_option maxHeartbeats 60000000
set_option linter.unusedVariables false
set_option linter.unusedSimpArgs false
set_option linter.unusedSectionVars false
namespace Ev
open Go Go.RowKit Go.Maps
theorem ko7p : evFK scanH (xoR 0 (some 1) (some 8) [7]) orcB Tryz.prog 2000 80 11 [.v (.c (.int .i64 7)), .v (.c (.ext 0)), .v (.c (.bool true))] HT.lf 0 (fun s _ _ _ _ => isB s true) = true := by kernel_rfl
theorem ko7q : evFK scanH noXo orcB Tryz.prog 2000 80 11 [.v (.c (.int .i64 7)), .v (.c (.int .i64 7)), .v (.c (.bool true))] HT.lf 0 (fun s _ _ _ _ => isB s true) = true := by kernel_rfl
theorem ko7b1 : evFK scanH noXo orcB Tryz.prog 2000 80 11 [.v (.c (.int .i64 7)), .v (.c (.int .i64 1)), .v (.c (.bool false))] HT.lf 0 (fun s _ _ _ _ => isB s true) = true := by kernel_rfl
theorem ko7b2 : evFK scanH noXo orcB Tryz.prog 2000 80 11 [.v (.c (.int .i64 7)), .v (.c (.int .i64 2)), .v (.c (.bool false))] HT.lf 0 (fun s _ _ _ _ => isB s true) = true := by kernel_rfl
theorem ko7b3 : evFK scanH noXo orcB Tryz.prog 2000 80 11 [.v (.c (.int .i64 7)), .v (.c (.int .i64 3)), .v (.c (.bool false))] HT.lf 0 (fun s _ _ _ _ => isB s true) = true := by kernel_rfl
theorem ko7b4 : evFK scanH noXo orcB Tryz.prog 2000 80 11 [.v (.c (.int .i64 7)), .v (.c (.int .i64 4)), .v (.c (.bool false))] HT.lf 0 (fun s _ _ _ _ => isB s true) = true := by kernel_rfl
theorem ko7b5 : evFK scanH noXo orcB Tryz.prog 2000 80 11 [.v (.c (.int .i64 7)), .v (.c (.int .i64 5)), .v (.c (.bool false))] HT.lf 0 (fun s _ _ _ _ => isB s true) = true := by kernel_rfl
theorem ko7b6 : evFK scanH noXo orcB Tryz.prog 2000 80 11 [.v (.c (.int .i64 7)), .v (.c (.int .i64 6)), .v (.c (.bool false))] HT.lf 0 (fun s _ _ _ _ => isB s true) = true := by kernel_rfl
theorem ko7b7 : evFK scanH noXo orcB Tryz.prog 2000 80 11 [.v (.c (.int .i64 7)), .v (.c (.int .i64 7)), .v (.c (.bool false))] HT.lf 0 (fun s _ _ _ _ => isB s true) = true := by kernel_rfl
theorem ko7b8 : evFK scanH noXo orcB Tryz.prog 2000 80 11 [.v (.c (.int .i64 7)), .v (.c (.int .i64 8)), .v (.c (.bool false))] HT.lf 0 (fun s _ _ _ _ => isB s true) = true := by kernel_rfl
theorem ko7ltrue : evFK scanH (xoR 0 none (some 0) []) orcB Tryz.prog 2000 80 11 [.v (.c (.int .i64 7)), .v (.c (.ext 0)), .v (.c (.bool true))] HT.lf 0 (fun s _ _ _ _ => isB s true) = true := by kernel_rfl
theorem ko7htrue : evFK scanH (xoR 0 (some 9) none []) orcB Tryz.prog 2000 80 11 [.v (.c (.int .i64 7)), .v (.c (.ext 0)), .v (.c (.bool true))] HT.lf 0 (fun s _ _ _ _ => isB s true) = true := by kernel_rfl
theorem ko7lfalse : evFK scanH (xoR 0 none (some 0) []) orcB Tryz.prog 2000 80 11 [.v (.c (.int .i64 7)), .v (.c (.ext 0)), .v (.c (.bool false))] HT.lf 0 (fun s _ _ _ _ => isB s true) = true := by kernel_rfl
theorem ko7hfalse : evFK scanH (xoR 0 (some 9) none []) orcB Tryz.prog 2000 80 11 [.v (.c (.int .i64 7)), .v (.c (.ext 0)), .v (.c (.bool false))] HT.lf 0 (fun s _ _ _ _ => isB s true) = true := by kernel_rfl
theorem ko8p : evFK scanH (xoR 0 (some 1) (some 8) [8]) orcB Tryz.prog 2000 80 11 [.v (.c (.int .i64 8)), .v (.c (.ext 0)), .v (.c (.bool true))] HT.lf 0 (fun s _ _ _ _ => isB s true) = true := by kernel_rfl
theorem ko8q : evFK scanH noXo orcB Tryz.prog 2000 80 11 [.v (.c (.int .i64 8)), .v (.c (.int .i64 8)), .v (.c (.bool true))] HT.lf 0 (fun s _ _ _ _ => isB s true) = true := by kernel_rfl
theorem ko8b1 : evFK scanH noXo orcB Tryz.prog 2000 80 11 [.v (.c (.int .i64 8)), .v (.c (.int .i64 1)), .v (.c (.bool false))] HT.lf 0 (fun s _ _ _ _ => isB s true) = true := by kernel_rfl
theorem ko8b2 : evFK scanH noXo orcB Tryz.prog 2000 80 11 [.v (.c (.int .i64 8)), .v (.c (.int .i64 2)), .v (.c (.bool false))] HT.lf 0 (fun s _ _ _ _ => isB s true) = true := by kernel_rfl
theorem ko8b3 : evFK scanH noXo orcB Tryz.prog 2000 80 11 [.v (.c (.int .i64 8)), .v (.c (.int .i64 3)), .v (.c (.bool false))] HT.lf 0 (fun s _ _ _ _ => isB s true) = true := by kernel_rfl
theorem ko8b4 : evFK scanH noXo orcB Tryz.prog 2000 80 11 [.v (.c (.int .i64 8)), .v (.c (.int .i64 4)), .v (.c (.bool false))] HT.lf 0 (fun s _ _ _ _ => isB s true) = true := by kernel_rfl
theorem ko8b5 : evFK scanH noXo orcB Tryz.prog 2000 80 11 [.v (.c (.int .i64 8)), .v (.c (.int .i64 5)), .v (.c (.bool false))] HT.lf 0 (fun s _ _ _ _ => isB s true) = true := by kernel_rfl
theorem ko8b6 : evFK scanH noXo orcB Tryz.prog 2000 80 11 [.v (.c (.int .i64 8)), .v (.c (.int .i64 6)), .v (.c (.bool false))] HT.lf 0 (fun s _ _ _ _ => isB s true) = true := by kernel_rfl
theorem ko8b7 : evFK scanH noXo orcB Tryz.prog 2000 80 11 [.v (.c (.int .i64 8)), .v (.c (.int .i64 7)), .v (.c (.bool false))] HT.lf 0 (fun s _ _ _ _ => isB s true) = true := by kernel_rfl
theorem ko8b8 : evFK scanH noXo orcB Tryz.prog 2000 80 11 [.v (.c (.int .i64 8)), .v (.c (.int .i64 8)), .v (.c (.bool false))] HT.lf 0 (fun s _ _ _ _ => isB s true) = true := by kernel_rfl
theorem ko8ltrue : evFK scanH (xoR 0 none (some 0) []) orcB Tryz.prog 2000 80 11 [.v (.c (.int .i64 8)), .v (.c (.ext 0)), .v (.c (.bool true))] HT.lf 0 (fun s _ _ _ _ => isB s true) = true := by kernel_rfl
theorem ko8htrue : evFK scanH (xoR 0 (some 9) none []) orcB Tryz.prog 2000 80 11 [.v (.c (.int .i64 8)), .v (.c (.ext 0)), .v (.c (.bool true))] HT.lf 0 (fun s _ _ _ _ => isB s true) = true := by kernel_rfl
theorem ko8lfalse : evFK scanH (xoR 0 none (some 0) []) orcB Tryz.prog 2000 80 11 [.v (.c (.int .i64 8)), .v (.c (.ext 0)), .v (.c (.bool false))] HT.lf 0 (fun s _ _ _ _ => isB s true) = true := by kernel_rfl
theorem ko8hfalse : evFK scanH (xoR 0 (some 9) none []) orcB Tryz.prog 2000 80 11 [.v (.c (.int .i64 8)), .v (.c (.ext 0)), .v (.c (.bool false))] HT.lf 0 (fun s _ _ _ _ => isB s true) = true := by kernel_rfl
end Ev
namespace Ev
open Go Go.RowKit Go.Maps
@[reducible] def env3 (a b : Int) (p : Bool) : Env := ⟨fun j => match j with | 0 => .int .i64 a | 1 => .int .i64 b | _ => .bool p, (fun j => by split <;> rfl), fun _ => ⟨0, 0, none⟩⟩
def KOP (a b : Int) (p : Bool) : Prop := ∀ w, Calls Tryz.prog 11 #[.int .i64 a, .int .i64 b, .bool p] w fun e w' => e = .returned (.bool true) /\ Tch No w w'
theorem ko_con {a b : Int} {p : Bool} (h : evFK scanH noXo orcB Tryz.prog 2000 80 11 [.v (.c (.int .i64 a)), .v (.c (.int .i64 b)), .v (.c (.bool p))] HT.lf 0 (fun s _ _ _ _ => isB s true) = true) : KOP a b p := fun w =>
 @closedA env0 _ scanH noXo orcB 2000 80 (@scanH_ok env0) (@noXo_ok env0 _) (@orcB_ok env0) (@pok env0) _ true [.v (.c (.int .i64 a)), .v (.c (.int .i64 b)), .v (.c (.bool p))] [.int .i64 a, .int .i64 b, .bool p] (by exact ⟨rfl, rfl, rfl, trivial⟩) h w
theorem ko_ext {a b : Int} {p : Bool} {lo hi : Option Int} {ne : List Int} (hl : ∀ l, lo = some l -> l <= b) (hh : ∀ l, hi = some l -> b <= l) (hn : ∀ y ∈ ne, b ≠ y) (h : evFK scanH (xoR 0 lo hi ne) orcB Tryz.prog 2000 80 11 [.v (.c (.int .i64 a)), .v (.c (.ext 0)), .v (.c (.bool p))] HT.lf 0 (fun s _ _ _ _ => isB s true) = true) : KOP a b p := fun w =>
 @closedA (env3 b 0 p) _ scanH _ orcB 2000 80 (@scanH_ok (env3 b 0 p)) (@xoR_ok (env3 b 0 p) _ 0 lo hi ne b rfl hl hh hn) (@orcB_ok (env3 b 0 p)) (@pok (env3 b 0 p)) _ true [.v (.c (.int .i64 a)), .v (.c (.ext 0)), .v (.c (.bool p))] [.int .i64 a, .int .i64 b, .bool p] (by exact ⟨rfl, rfl, rfl, trivial⟩) h w
theorem ko_out {a b : Int} {p : Bool} {lo hi : Option Int} (hl : ∀ l, lo = some l -> l <= a) (hh : ∀ l, hi = some l -> a <= l) (h : evFK scanH (xoR 0 lo hi []) orcB Tryz.prog 2000 80 11 [.v (.c (.ext 0)), .v (.c (.ext 1)), .v (.c (.ext 2))] HT.lf 0 (fun s _ _ _ _ => isB s true) = true) : KOP a b p := fun w =>
 @closedA (env3 a b p) _ scanH _ orcB 2000 80 (@scanH_ok (env3 a b p)) (@xoR_ok (env3 a b p) _ 0 lo hi [] a rfl hl hh (fun y hy => by cases hy)) (@orcB_ok (env3 a b p)) (@pok (env3 a b p)) _ true [.v (.c (.ext 0)), .v (.c (.ext 1)), .v (.c (.ext 2))] [.int .i64 a, .int .i64 b, .bool p] (by exact ⟨rfl, rfl, rfl, trivial⟩) h w
theorem ko_1 (b : Int) (p : Bool) : KOP 1 b p := by
 by_cases h0 : b <= 0
 ·cases p
  ·exact ko_ext (fun l e => by cases e) (fun l e => by cases e; exact h0) (fun y hy => by cases hy) ko1lfalse
  ·exact ko_ext (fun l e => by cases e) (fun l e => by cases e; exact h0) (fun y hy => by cases hy) ko1ltrue
 by_cases h9 : 9 <= b
 ·cases p
  ·exact ko_ext (fun l e => by cases e; exact h9) (fun l e => by cases e) (fun y hy => by cases hy) ko1hfalse
  ·exact ko_ext (fun l e => by cases e; exact h9) (fun l e => by cases e) (fun y hy => by cases hy) ko1htrue
 cases p
 ·have h : b = 1 ∨ b = 2 ∨ b = 3 ∨ b = 4 ∨ b = 5 ∨ b = 6 ∨ b = 7 ∨ b = 8 := by omega
  rcases h with rfl | rfl | rfl | rfl | rfl | rfl | rfl | rfl
  ·exact ko_con ko1b1
  ·exact ko_con ko1b2
  ·exact ko_con ko1b3
  ·exact ko_con ko1b4
  ·exact ko_con ko1b5
  ·exact ko_con ko1b6
  ·exact ko_con ko1b7
  ·exact ko_con ko1b8
 ·by_cases e : b = 1
  ·subst e; exact ko_con ko1q
  ·exact ko_ext (fun l h => by cases h; omega) (fun l h => by cases h; omega) (fun y hy => by cases List.mem_singleton.1 hy; exact e) ko1p
theorem ko_2 (b : Int) (p : Bool) : KOP 2 b p := by
 by_cases h0 : b <= 0
 ·cases p
  ·exact ko_ext (fun l e => by cases e) (fun l e => by cases e; exact h0) (fun y hy => by cases hy) ko2lfalse
  ·exact ko_ext (fun l e => by cases e) (fun l e => by cases e; exact h0) (fun y hy => by cases hy) ko2ltrue
 by_cases h9 : 9 <= b
 ·cases p
  ·exact ko_ext (fun l e => by cases e; exact h9) (fun l e => by cases e) (fun y hy => by cases hy) ko2hfalse
  ·exact ko_ext (fun l e => by cases e; exact h9) (fun l e => by cases e) (fun y hy => by cases hy) ko2htrue
 cases p
 ·have h : b = 1 ∨ b = 2 ∨ b = 3 ∨ b = 4 ∨ b = 5 ∨ b = 6 ∨ b = 7 ∨ b = 8 := by omega
  rcases h with rfl | rfl | rfl | rfl | rfl | rfl | rfl | rfl
  ·exact ko_con ko2b1
  ·exact ko_con ko2b2
  ·exact ko_con ko2b3
  ·exact ko_con ko2b4
  ·exact ko_con ko2b5
  ·exact ko_con ko2b6
  ·exact ko_con ko2b7
  ·exact ko_con ko2b8
 ·by_cases e : b = 2
  ·subst e; exact ko_con ko2q
  ·exact ko_ext (fun l h => by cases h; omega) (fun l h => by cases h; omega) (fun y hy => by cases List.mem_singleton.1 hy; exact e) ko2p
theorem ko_3 (b : Int) (p : Bool) : KOP 3 b p := by
 by_cases h0 : b <= 0
 ·cases p
  ·exact ko_ext (fun l e => by cases e) (fun l e => by cases e; exact h0) (fun y hy => by cases hy) ko3lfalse
  ·exact ko_ext (fun l e => by cases e) (fun l e => by cases e; exact h0) (fun y hy => by cases hy) ko3ltrue
 by_cases h9 : 9 <= b
 ·cases p
  ·exact ko_ext (fun l e => by cases e; exact h9) (fun l e => by cases e) (fun y hy => by cases hy) ko3hfalse
  ·exact ko_ext (fun l e => by cases e; exact h9) (fun l e => by cases e) (fun y hy => by cases hy) ko3htrue
 cases p
 ·have h : b = 1 ∨ b = 2 ∨ b = 3 ∨ b = 4 ∨ b = 5 ∨ b = 6 ∨ b = 7 ∨ b = 8 := by omega
  rcases h with rfl | rfl | rfl | rfl | rfl | rfl | rfl | rfl
  ·exact ko_con ko3b1
  ·exact ko_con ko3b2
  ·exact ko_con ko3b3
  ·exact ko_con ko3b4
  ·exact ko_con ko3b5
  ·exact ko_con ko3b6
  ·exact ko_con ko3b7
  ·exact ko_con ko3b8
 ·by_cases e : b = 3
  ·subst e; exact ko_con ko3q
  ·exact ko_ext (fun l h => by cases h; omega) (fun l h => by cases h; omega) (fun y hy => by cases List.mem_singleton.1 hy; exact e) ko3p
theorem ko_4 (b : Int) (p : Bool) : KOP 4 b p := by
 by_cases h0 : b <= 0
 ·cases p
  ·exact ko_ext (fun l e => by cases e) (fun l e => by cases e; exact h0) (fun y hy => by cases hy) ko4lfalse
  ·exact ko_ext (fun l e => by cases e) (fun l e => by cases e; exact h0) (fun y hy => by cases hy) ko4ltrue
 by_cases h9 : 9 <= b
 ·cases p
  ·exact ko_ext (fun l e => by cases e; exact h9) (fun l e => by cases e) (fun y hy => by cases hy) ko4hfalse
  ·exact ko_ext (fun l e => by cases e; exact h9) (fun l e => by cases e) (fun y hy => by cases hy) ko4htrue
 cases p
 ·have h : b = 1 ∨ b = 2 ∨ b = 3 ∨ b = 4 ∨ b = 5 ∨ b = 6 ∨ b = 7 ∨ b = 8 := by omega
  rcases h with rfl | rfl | rfl | rfl | rfl | rfl | rfl | rfl
  ·exact ko_con ko4b1
  ·exact ko_con ko4b2
  ·exact ko_con ko4b3
  ·exact ko_con ko4b4
  ·exact ko_con ko4b5
  ·exact ko_con ko4b6
  ·exact ko_con ko4b7
  ·exact ko_con ko4b8
 ·by_cases e : b = 4
  ·subst e; exact ko_con ko4q
  ·exact ko_ext (fun l h => by cases h; omega) (fun l h => by cases h; omega) (fun y hy => by cases List.mem_singleton.1 hy; exact e) ko4p
theorem ko_5 (b : Int) (p : Bool) : KOP 5 b p := by
 by_cases h0 : b <= 0
 ·cases p
  ·exact ko_ext (fun l e => by cases e) (fun l e => by cases e; exact h0) (fun y hy => by cases hy) ko5lfalse
  ·exact ko_ext (fun l e => by cases e) (fun l e => by cases e; exact h0) (fun y hy => by cases hy) ko5ltrue
 by_cases h9 : 9 <= b
 ·cases p
  ·exact ko_ext (fun l e => by cases e; exact h9) (fun l e => by cases e) (fun y hy => by cases hy) ko5hfalse
  ·exact ko_ext (fun l e => by cases e; exact h9) (fun l e => by cases e) (fun y hy => by cases hy) ko5htrue
 cases p
 ·have h : b = 1 ∨ b = 2 ∨ b = 3 ∨ b = 4 ∨ b = 5 ∨ b = 6 ∨ b = 7 ∨ b = 8 := by omega
  rcases h with rfl | rfl | rfl | rfl | rfl | rfl | rfl | rfl
  ·exact ko_con ko5b1
  ·exact ko_con ko5b2
  ·exact ko_con ko5b3
  ·exact ko_con ko5b4
  ·exact ko_con ko5b5
  ·exact ko_con ko5b6
  ·exact ko_con ko5b7
  ·exact ko_con ko5b8
 ·by_cases e : b = 5
  ·subst e; exact ko_con ko5q
  ·exact ko_ext (fun l h => by cases h; omega) (fun l h => by cases h; omega) (fun y hy => by cases List.mem_singleton.1 hy; exact e) ko5p
theorem ko_6 (b : Int) (p : Bool) : KOP 6 b p := by
 by_cases h0 : b <= 0
 ·cases p
  ·exact ko_ext (fun l e => by cases e) (fun l e => by cases e; exact h0) (fun y hy => by cases hy) ko6lfalse
  ·exact ko_ext (fun l e => by cases e) (fun l e => by cases e; exact h0) (fun y hy => by cases hy) ko6ltrue
 by_cases h9 : 9 <= b
 ·cases p
  ·exact ko_ext (fun l e => by cases e; exact h9) (fun l e => by cases e) (fun y hy => by cases hy) ko6hfalse
  ·exact ko_ext (fun l e => by cases e; exact h9) (fun l e => by cases e) (fun y hy => by cases hy) ko6htrue
 cases p
 ·have h : b = 1 ∨ b = 2 ∨ b = 3 ∨ b = 4 ∨ b = 5 ∨ b = 6 ∨ b = 7 ∨ b = 8 := by omega
  rcases h with rfl | rfl | rfl | rfl | rfl | rfl | rfl | rfl
  ·exact ko_con ko6b1
  ·exact ko_con ko6b2
  ·exact ko_con ko6b3
  ·exact ko_con ko6b4
  ·exact ko_con ko6b5
  ·exact ko_con ko6b6
  ·exact ko_con ko6b7
  ·exact ko_con ko6b8
 ·by_cases e : b = 6
  ·subst e; exact ko_con ko6q
  ·exact ko_ext (fun l h => by cases h; omega) (fun l h => by cases h; omega) (fun y hy => by cases List.mem_singleton.1 hy; exact e) ko6p
theorem ko_7 (b : Int) (p : Bool) : KOP 7 b p := by
 by_cases h0 : b <= 0
 ·cases p
  ·exact ko_ext (fun l e => by cases e) (fun l e => by cases e; exact h0) (fun y hy => by cases hy) ko7lfalse
  ·exact ko_ext (fun l e => by cases e) (fun l e => by cases e; exact h0) (fun y hy => by cases hy) ko7ltrue
 by_cases h9 : 9 <= b
 ·cases p
  ·exact ko_ext (fun l e => by cases e; exact h9) (fun l e => by cases e) (fun y hy => by cases hy) ko7hfalse
  ·exact ko_ext (fun l e => by cases e; exact h9) (fun l e => by cases e) (fun y hy => by cases hy) ko7htrue
 cases p
 ·have h : b = 1 ∨ b = 2 ∨ b = 3 ∨ b = 4 ∨ b = 5 ∨ b = 6 ∨ b = 7 ∨ b = 8 := by omega
  rcases h with rfl | rfl | rfl | rfl | rfl | rfl | rfl | rfl
  ·exact ko_con ko7b1
  ·exact ko_con ko7b2
  ·exact ko_con ko7b3
  ·exact ko_con ko7b4
  ·exact ko_con ko7b5
  ·exact ko_con ko7b6
  ·exact ko_con ko7b7
  ·exact ko_con ko7b8
 ·by_cases e : b = 7
  ·subst e; exact ko_con ko7q
  ·exact ko_ext (fun l h => by cases h; omega) (fun l h => by cases h; omega) (fun y hy => by cases List.mem_singleton.1 hy; exact e) ko7p
theorem ko_8 (b : Int) (p : Bool) : KOP 8 b p := by
 by_cases h0 : b <= 0
 ·cases p
  ·exact ko_ext (fun l e => by cases e) (fun l e => by cases e; exact h0) (fun y hy => by cases hy) ko8lfalse
  ·exact ko_ext (fun l e => by cases e) (fun l e => by cases e; exact h0) (fun y hy => by cases hy) ko8ltrue
 by_cases h9 : 9 <= b
 ·cases p
  ·exact ko_ext (fun l e => by cases e; exact h9) (fun l e => by cases e) (fun y hy => by cases hy) ko8hfalse
  ·exact ko_ext (fun l e => by cases e; exact h9) (fun l e => by cases e) (fun y hy => by cases hy) ko8htrue
 cases p
 ·have h : b = 1 ∨ b = 2 ∨ b = 3 ∨ b = 4 ∨ b = 5 ∨ b = 6 ∨ b = 7 ∨ b = 8 := by omega
  rcases h with rfl | rfl | rfl | rfl | rfl | rfl | rfl | rfl
  ·exact ko_con ko8b1
  ·exact ko_con ko8b2
  ·exact ko_con ko8b3
  ·exact ko_con ko8b4
  ·exact ko_con ko8b5
  ·exact ko_con ko8b6
  ·exact ko_con ko8b7
  ·exact ko_con ko8b8
 ·by_cases e : b = 8
  ·subst e; exact ko_con ko8q
  ·exact ko_ext (fun l h => by cases h; omega) (fun l h => by cases h; omega) (fun y hy => by cases List.mem_singleton.1 hy; exact e) ko8p
theorem keepOther_any (a b : Int) (p : Bool) : KOP a b p := by
 by_cases h0 : a <= 0
 ·exact ko_out (fun l e => by cases e) (fun l e => by cases e; exact h0) kol
 by_cases h9 : 9 <= a
 ·exact ko_out (fun l e => by cases e; exact h9) (fun l e => by cases e) koh
 have h : a = 1 ∨ a = 2 ∨ a = 3 ∨ a = 4 ∨ a = 5 ∨ a = 6 ∨ a = 7 ∨ a = 8 := by omega
 rcases h with rfl | rfl | rfl | rfl | rfl | rfl | rfl | rfl
 ·exact ko_1 b p
 ·exact ko_2 b p
 ·exact ko_3 b p
 ·exact ko_4 b p
 ·exact ko_5 b p
 ·exact ko_6 b p
 ·exact ko_7 b p
 ·exact ko_8 b p
end Ev
end Go.Proofs.YtlmkpnanpohcoaaGreat
