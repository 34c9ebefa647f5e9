/- slices.Insert of an End, as an oracle of an abstract run. No condition. -/
import Derived.Test.YtcmlgmiomcegeaaGreatInsL
import Derived.Test.YtcmlgmiomcegeaaGreatEwO
namespace Go.Proofs.YtcmlgmiomcegeaaGreat.Ev
open Go Go.RowKit Go.Maps
set_option linter.unusedSectionVars false
variable [Env]
theorem insEnd : InsK Tryz.prog 433 104 :=
  ⟨fun n i c cs vb nb w g cur => ins_end_shift n i c cs vb nb w g cur, fun n i c cs vb nb w g => ins_end_grow n i c cs vb nb w g, ⟨_, Tryz.func433, rfl⟩⟩
theorem ins_ok {orc : Orc} (ho : OrcOK Tryz.prog orc) : OrcOK Tryz.prog (insOrc 433 104 orc) := insOrc_ok insEnd ho
end Go.Proofs.YtcmlgmiomcegeaaGreat.Ev
