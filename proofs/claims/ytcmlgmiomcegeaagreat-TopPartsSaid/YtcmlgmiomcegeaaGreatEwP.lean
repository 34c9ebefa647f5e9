/- This program is in order for an abstract run. No condition. -/
import Derived.Test.YtcmlgmiomcegeaaGreatEw14
namespace Go.Proofs.YtcmlgmiomcegeaaGreat.Ev
open Go Go.RowKit Go.Maps
set_option linter.unusedSectionVars false
variable [Env]
theorem pmix : Tryz.prog.follows .mixedOrders = true := by kernel_rfl
theorem pname : named Tryz.prog = true := by kernel_rfl
theorem pregs : progOk Tryz.prog = true := by kernel_rfl
theorem pok : POk Tryz.prog := ⟨pmix, pname, pregs⟩
end Go.Proofs.YtcmlgmiomcegeaaGreat.Ev
