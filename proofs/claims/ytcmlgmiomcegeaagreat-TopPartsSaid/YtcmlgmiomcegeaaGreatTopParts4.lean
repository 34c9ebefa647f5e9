/- TopParts, some cases, run by the kernel. No condition. -/
import Derived.Test.YtcmlgmiomcegeaaGreatTC0
namespace Go.Proofs.YtcmlgmiomcegeaaGreat.Ev
open Go Go.RowKit Go.Maps
set_option linter.unusedVariables false
set_option linter.unusedSimpArgs false
set_option linter.unusedSectionVars false
theorem topParts_b2w3 [Env] : evFK scanH (xoE [⟨.gtr, 2, 2, 0, .ub, false⟩, ⟨.rem, 2, 2, 1, .int .i64 0, false⟩]) (orcT [(0, 4, 2), (1, 4, 3)]) Tryz.prog 2000 80 5 [.v (.c (.ext 0)), .v (.c (.ext 1)), .v (.c (.ext 2))] HT.lf 0 (fun s _ _ _ _ => isB s true) = true := by kernel_rfl
theorem topParts_b3w0 [Env] : evFK scanH (xoE [⟨.gtr, 2, 2, 0, .ub, false⟩, ⟨.rem, 2, 2, 1, .int .i64 0, false⟩]) (orcT [(0, 4, 3), (1, 5, 0)]) Tryz.prog 2000 80 5 [.v (.c (.ext 0)), .v (.c (.ext 1)), .v (.c (.ext 2))] HT.lf 0 (fun s _ _ _ _ => isB s true) = true := by kernel_rfl
end Go.Proofs.YtcmlgmiomcegeaaGreat.Ev
