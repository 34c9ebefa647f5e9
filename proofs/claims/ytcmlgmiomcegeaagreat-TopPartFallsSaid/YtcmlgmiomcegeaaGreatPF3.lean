/- TopPartFalls, some cases, run by the kernel. No condition. -/
import Derived.Test.YtcmlgmiomcegeaaGreatPF0
namespace Go.Proofs.YtcmlgmiomcegeaaGreat.Ev
open Go Go.RowKit Go.Maps
set_option linter.unusedVariables false
set_option linter.unusedSimpArgs false
set_option linter.unusedSectionVars false
theorem pf2fany [Env] : evFK scanH (xoE [⟨.gtr, 1, 1, 0, .ub, false⟩, ⟨.rem, 1, 1, 1, .int .i64 0, false⟩]) (orcT [(0, 8, 2)]) Tryz.prog 2000 80 4 [.v (.c (.ext 0)), .v (.c (.ext 1)), .v (.c (.bool false))] HT.lf 0 (fun s _ _ _ _ => isB s true) = true := by kernel_rfl
theorem pf3fany [Env] : evFK scanH (xoE [⟨.gtr, 1, 1, 0, .ub, false⟩, ⟨.rem, 1, 1, 1, .int .i64 0, false⟩]) (orcT [(0, 8, 3)]) Tryz.prog 2000 80 4 [.v (.c (.ext 0)), .v (.c (.ext 1)), .v (.c (.bool false))] HT.lf 0 (fun s _ _ _ _ => isB s true) = true := by kernel_rfl
theorem pf4fany [Env] : evFK scanH (xoE [⟨.gtr, 1, 1, 0, .ub, false⟩, ⟨.rem, 1, 1, 1, .int .i64 0, false⟩]) (orcT [(0, 8, 4)]) Tryz.prog 2000 80 4 [.v (.c (.ext 0)), .v (.c (.ext 1)), .v (.c (.bool false))] HT.lf 0 (fun s _ _ _ _ => isB s true) = true := by kernel_rfl
theorem pf5fno [Env] : evFK scanH (xoE [⟨.gtr, 1, 1, 0, .bool false, false⟩]) (orcT [(0, 8, 5)]) Tryz.prog 2000 80 4 [.v (.c (.ext 0)), .v (.c (.ext 1)), .v (.c (.bool false))] HT.lf 0 (fun s _ _ _ _ => isB s true) = true := by kernel_rfl
theorem pf5f0 [Env] : evFK scanH (xoE [⟨.gtr, 1, 1, 0, .bool true, false⟩, ⟨.rem, 1, 1, 1, .int .i64 0, false⟩, ⟨.rem, 1, 1, 18, .int .i64 0, false⟩]) (orcT [(0, 8, 5)]) Tryz.prog 2000 80 4 [.v (.c (.ext 0)), .v (.c (.ext 1)), .v (.c (.bool false))] HT.lf 0 (fun s _ _ _ _ => isB s true) = true := by kernel_rfl
end Go.Proofs.YtcmlgmiomcegeaaGreat.Ev
