/- The texts TB0, one behind the other. No condition. -/
import Derived.Test.YtcmlgmiomcegeaaGreatTg6
import Derived.Test.YtcmlgmiomcegeaaGreatTg7
import Derived.Test.YtcmlgmiomcegeaaGreatTg8
namespace Go.Proofs.YtcmlgmiomcegeaaGreat.Ev
open Go Go.RowKit Go.Maps
set_option linter.unusedVariables false
set_option linter.unusedSectionVars false
@[reducible] def env0 : Env := envV (fun _ => .bool true) (fun _ => rfl) (fun _ => ⟨0, 0, none⟩)
noncomputable def orcI : Orc := insOrc 433 104 (insOrc 134 223 noOrc)
theorem orcI_ok [Env] : OrcOK Tryz.prog orcI := ins_ok (insSome_ok noOrc_ok)
noncomputable def orcS : Orc := srtOrc 498 518 9 (srtOrc 498 536 9 (genOrc 53 (srtIF [111, 321] 3) (genOrc 477 (srtIF [504] 2) orcI)))
theorem orcS_ok [Env] : OrcOK Tryz.prog orcS := srtAll_ok orcI_ok
noncomputable def orcW : Orc := genOrc 316 sumFn (genOrc 120 ofFn (genOrc 485 (putFn false) (genOrc 240 (putFn true) (genOrc 457 (takeFn false) (genOrc 131 (takeFn true) orcS)))))
theorem orcW_ok [Env] : OrcOK Tryz.prog orcW := genOrc_ok sum_ok (genOrc_ok of_ok (genOrc_ok (put_ok putTx) (genOrc_ok (put_ok putPk) (genOrc_ok (take_ok takeTx) (genOrc_ok (take_ok takePk) orcS_ok)))))
theorem begunT (w : World) : Calls Tryz.prog 6 #[] w fun e w' => e = .returned (.bool true) ∧ Tch No w w' :=
  @closedK env0 _ scanH noXo orcW 2000 80 (@scanH_ok env0) (@noXo_ok env0 _) (@orcW_ok env0) (@pok env0) _ true (by kernel_rfl) w
noncomputable def yesS (l : List S) : Option S := List.rec (motive := fun _ => Option S) (some (.v (.c (.bool true)))) (fun _ _ _ => none) l
noncomputable def orcY : Orc := valOrc 6 yesS orcW
theorem orcY_ok [Env] : OrcOK Tryz.prog orcY := valOrc_ok ⟨_, Tryz.func6, rfl⟩ (fun args s h σ D w vals hv => by
  cases args with
  | cons a l => cases h
  | nil =>
    cases h
    cases vals with
    | cons v l => exact hv.elim
    | nil => exact (begunT w).mono (by rintro e w' ⟨rfl, t⟩; exact ⟨_, rfl, rfl, t⟩)) orcW_ok
end Go.Proofs.YtcmlgmiomcegeaaGreat.Ev
