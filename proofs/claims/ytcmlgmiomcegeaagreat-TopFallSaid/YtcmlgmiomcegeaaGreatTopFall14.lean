/- TopFall, some cases, run by the kernel. No condition. -/
import Derived.Test.YtcmlgmiomcegeaaGreatTgTC0
namespace Go.Proofs.YtcmlgmiomcegeaaGreat.Ev
open Go Go.RowKit Go.Maps
set_option linter.unusedVariables false
set_option linter.unusedSimpArgs false
set_option linter.unusedSectionVars false
theorem topFall_b2s7af [Env] : evFK scanH (xoE [⟨.gtr, 2, 2, 0, .ub, false⟩, ⟨.rem, 2, 2, 1, .int .i64 0, false⟩]) (orcT [(0, 3, 2), (1, 12, 7)]) Tryz.prog 2000 80 3 [.v (.c (.ext 0)), .v (.c (.ext 1)), .v (.c (.ext 2)), .v (.c (.bool false))] HT.lf 0 (fun s _ _ _ _ => isB s true) = true := by kernel_rfl
theorem topFall_b2s8af [Env] : evFK scanH (xoE [⟨.gtr, 2, 2, 0, .ub, false⟩, ⟨.rem, 2, 2, 1, .int .i64 0, false⟩]) (orcT [(0, 3, 2), (1, 12, 8)]) Tryz.prog 2000 80 3 [.v (.c (.ext 0)), .v (.c (.ext 1)), .v (.c (.ext 2)), .v (.c (.bool false))] HT.lf 0 (fun s _ _ _ _ => isB s true) = true := by kernel_rfl
theorem topFall_b2s9af [Env] : evFK scanH (xoE [⟨.gtr, 2, 2, 0, .ub, false⟩, ⟨.rem, 2, 2, 1, .int .i64 0, false⟩]) (orcT [(0, 3, 2), (1, 12, 9)]) Tryz.prog 2000 80 3 [.v (.c (.ext 0)), .v (.c (.ext 1)), .v (.c (.ext 2)), .v (.c (.bool false))] HT.lf 0 (fun s _ _ _ _ => isB s true) = true := by kernel_rfl
theorem topFall_b2s10af [Env] : evFK scanH (xoE [⟨.gtr, 2, 2, 0, .ub, false⟩, ⟨.rem, 2, 2, 1, .int .i64 0, false⟩]) (orcT [(0, 3, 2), (1, 12, 10)]) Tryz.prog 2000 80 3 [.v (.c (.ext 0)), .v (.c (.ext 1)), .v (.c (.ext 2)), .v (.c (.bool false))] HT.lf 0 (fun s _ _ _ _ => isB s true) = true := by kernel_rfl
end Go.Proofs.YtcmlgmiomcegeaaGreat.Ev
