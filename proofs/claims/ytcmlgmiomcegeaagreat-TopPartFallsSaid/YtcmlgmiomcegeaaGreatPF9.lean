/- TopPartFalls, some cases, run by the kernel. No condition. -/
import Derived.Test.YtcmlgmiomcegeaaGreatPF0
namespace Go.Proofs.YtcmlgmiomcegeaaGreat.Ev
open Go Go.RowKit Go.Maps
set_option linter.unusedVariables false
set_option linter.unusedSimpArgs false
set_option linter.unusedSectionVars false
theorem pf6f7 [Env] : evFK scanH (xoE [⟨.gtr, 1, 1, 0, .bool true, false⟩, ⟨.rem, 1, 1, 1, .int .i64 0, false⟩, ⟨.rem, 1, 1, 18, .int .i64 7, false⟩]) (orcT [(0, 8, 6)]) Tryz.prog 2000 80 4 [.v (.c (.ext 0)), .v (.c (.ext 1)), .v (.c (.bool false))] HT.lf 0 (fun s _ _ _ _ => isB s true) = true := by kernel_rfl
theorem pf6f8 [Env] : evFK scanH (xoE [⟨.gtr, 1, 1, 0, .bool true, false⟩, ⟨.rem, 1, 1, 1, .int .i64 0, false⟩, ⟨.rem, 1, 1, 18, .int .i64 8, false⟩]) (orcT [(0, 8, 6)]) Tryz.prog 2000 80 4 [.v (.c (.ext 0)), .v (.c (.ext 1)), .v (.c (.bool false))] HT.lf 0 (fun s _ _ _ _ => isB s true) = true := by kernel_rfl
theorem pf6f9 [Env] : evFK scanH (xoE [⟨.gtr, 1, 1, 0, .bool true, false⟩, ⟨.rem, 1, 1, 1, .int .i64 0, false⟩, ⟨.rem, 1, 1, 18, .int .i64 9, false⟩]) (orcT [(0, 8, 6)]) Tryz.prog 2000 80 4 [.v (.c (.ext 0)), .v (.c (.ext 1)), .v (.c (.bool false))] HT.lf 0 (fun s _ _ _ _ => isB s true) = true := by kernel_rfl
theorem pf6f10 [Env] : evFK scanH (xoE [⟨.gtr, 1, 1, 0, .bool true, false⟩, ⟨.rem, 1, 1, 1, .int .i64 0, false⟩, ⟨.rem, 1, 1, 18, .int .i64 10, false⟩]) (orcT [(0, 8, 6)]) Tryz.prog 2000 80 4 [.v (.c (.ext 0)), .v (.c (.ext 1)), .v (.c (.bool false))] HT.lf 0 (fun s _ _ _ _ => isB s true) = true := by kernel_rfl
theorem pf6f11 [Env] : evFK scanH (xoE [⟨.gtr, 1, 1, 0, .bool true, false⟩, ⟨.rem, 1, 1, 1, .int .i64 0, false⟩, ⟨.rem, 1, 1, 18, .int .i64 11, false⟩]) (orcT [(0, 8, 6)]) Tryz.prog 2000 80 4 [.v (.c (.ext 0)), .v (.c (.ext 1)), .v (.c (.bool false))] HT.lf 0 (fun s _ _ _ _ => isB s true) = true := by kernel_rfl
end Go.Proofs.YtcmlgmiomcegeaaGreat.Ev
