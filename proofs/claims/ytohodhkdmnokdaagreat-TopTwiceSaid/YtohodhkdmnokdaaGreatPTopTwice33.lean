/- Part 33 of what the proof of TopTwice rests on. No condition. -/
import Derived.Test.YtohodhkdmnokdaaGreatPTopTwice24
import Derived.Test.YtohodhkdmnokdaaGreatPTopTwice26
import Derived.Test.YtohodhkdmnokdaaGreatPTopTwice28
import Derived.Test.YtohodhkdmnokdaaGreatPTopTwice32
namespace Go.Proofs.YtohodhkdmnokdaaGreat
set_option maxRecDepth 100000
set_option maxHeartbeats 60000000
set_option linter.unusedVariables false
set_option linter.unusedSimpArgs false
set_option linter.unusedSectionVars false
namespace Ev
open Go Go.RowKit Go.Maps
@[reducible] def env0 : Env := envV (fun _ => .bool true) (fun _ => rfl) (fun _ => ⟨0, 0, none⟩)
noncomputable def orcI : Orc := insOrc 445 93 (insOrc 114 192 noOrc)
theorem orcI_ok [Env] : OrcOK Tryz.prog orcI := ins_ok (insSome_ok noOrc_ok)
noncomputable def orcS : Orc := srtOrc 510 528 9 (srtOrc 510 545 9 (genOrc 69 (srtIF [138, 333] 3) (genOrc 374 (srtIF [455] 2) orcI)))
theorem orcS_ok [Env] : OrcOK Tryz.prog orcS := srtAll_ok orcI_ok
noncomputable def orcW : Orc := genOrc 280 sumFn (genOrc 146 ofFn (genOrc 497 (putFn false) (genOrc 257 (putFn true) (genOrc 470 (takeFn false) (genOrc 155 (takeFn true) orcS)))))
theorem orcW_ok [Env] : OrcOK Tryz.prog orcW := genOrc_ok sum_ok (genOrc_ok of_ok (genOrc_ok (put_ok putTx) (genOrc_ok (put_ok putPk) (genOrc_ok (take_ok takeTx) (genOrc_ok (take_ok takePk) orcS_ok)))))
theorem begunT (w : World) : Calls Tryz.prog 14 #[] w fun e w' => e = .returned (.bool true) /\ Tch No w w' :=
 @closedK env0 _ scanH noXo orcW 2000 80 (@scanH_ok env0) (@noXo_ok env0 _) (@orcW_ok env0) (@pok env0) _ true (by kernel_rfl) w
noncomputable def yesS (l : List S) : Option S := List.rec (motive := fun _ => Option S) (some (.v (.c (.bool true)))) (fun _ _ _ => none) l
noncomputable def orcY : Orc := valOrc 14 yesS orcW
theorem orcY_ok [Env] : OrcOK Tryz.prog orcY := valOrc_ok ⟨_, Tryz.func14, rfl⟩ (fun args s h σ D w vals hv => by
 cases args with
 | cons a l => cases h
 | nil =>
  cases h
  cases vals with
  | cons v l => exact hv.elim
  | nil => exact (begunT w).mono (by rintro e w' ⟨rfl, t⟩; exact ⟨_, rfl, rfl, t⟩)) orcW_ok
end Ev
end Go.Proofs.YtohodhkdmnokdaaGreat
