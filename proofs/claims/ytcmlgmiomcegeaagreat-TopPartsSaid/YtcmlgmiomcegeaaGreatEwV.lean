/- slices.Insert of one thing of a bag of texts, as an oracle of an abstract run. No condition. -/
import Derived.Test.YtcmlgmiomcegeaaGreatInsS
import Derived.Test.YtcmlgmiomcegeaaGreatEwO
namespace Go.Proofs.YtcmlgmiomcegeaaGreat.Ev
open Go Go.RowKit Go.Maps
set_option linter.unusedSectionVars false
variable [Env]
theorem insSome : InsK Tryz.prog 134 223 :=
  ⟨fun n i c cs vb nb w g cur => ins_some_shift n i c cs vb nb w g cur, fun n i c cs vb nb w g => ins_some_grow n i c cs vb nb w g, ⟨_, Tryz.func134, rfl⟩⟩
theorem insSome_ok {orc : Orc} (ho : OrcOK Tryz.prog orc) : OrcOK Tryz.prog (insOrc 134 223 orc) := insOrc_ok insSome ho
end Go.Proofs.YtcmlgmiomcegeaaGreat.Ev
