/- TopPartFalls, some cases, run by the kernel. No condition. -/
import Derived.Test.YtcmlgmiomcegeaaGreatPF0
namespace Go.Proofs.YtcmlgmiomcegeaaGreat.Ev
open Go Go.RowKit Go.Maps
set_option linter.unusedVariables false
set_option linter.unusedSimpArgs false
set_option linter.unusedSectionVars false
theorem pf5tany [Env] : evFK scanH (xoE [⟨.gtr, 1, 1, 0, .ub, false⟩, ⟨.rem, 1, 1, 1, .int .i64 0, false⟩]) (orcT [(0, 8, 5)]) Tryz.prog 2000 80 4 [.v (.c (.ext 0)), .v (.c (.ext 1)), .v (.c (.bool true))] HT.lf 0 (fun s _ _ _ _ => isB s true) = true := by kernel_rfl
theorem pf6tany [Env] : evFK scanH (xoE [⟨.gtr, 1, 1, 0, .ub, false⟩, ⟨.rem, 1, 1, 1, .int .i64 0, false⟩]) (orcT [(0, 8, 6)]) Tryz.prog 2000 80 4 [.v (.c (.ext 0)), .v (.c (.ext 1)), .v (.c (.bool true))] HT.lf 0 (fun s _ _ _ _ => isB s true) = true := by kernel_rfl
theorem pf7tany [Env] : evFK scanH (xoE [⟨.gtr, 1, 1, 0, .ub, false⟩, ⟨.rem, 1, 1, 1, .int .i64 0, false⟩]) (orcT [(0, 8, 7)]) Tryz.prog 2000 80 4 [.v (.c (.ext 0)), .v (.c (.ext 1)), .v (.c (.bool true))] HT.lf 0 (fun s _ _ _ _ => isB s true) = true := by kernel_rfl
theorem pf0fany [Env] : evFK scanH (xoE [⟨.gtr, 1, 1, 0, .ub, false⟩, ⟨.rem, 1, 1, 1, .int .i64 0, false⟩]) (orcT [(0, 8, 0)]) Tryz.prog 2000 80 4 [.v (.c (.ext 0)), .v (.c (.ext 1)), .v (.c (.bool false))] HT.lf 0 (fun s _ _ _ _ => isB s true) = true := by kernel_rfl
theorem pf1fany [Env] : evFK scanH (xoE [⟨.gtr, 1, 1, 0, .ub, false⟩, ⟨.rem, 1, 1, 1, .int .i64 0, false⟩]) (orcT [(0, 8, 1)]) Tryz.prog 2000 80 4 [.v (.c (.ext 0)), .v (.c (.ext 1)), .v (.c (.bool false))] HT.lf 0 (fun s _ _ _ _ => isB s true) = true := by kernel_rfl
end Go.Proofs.YtcmlgmiomcegeaaGreat.Ev
