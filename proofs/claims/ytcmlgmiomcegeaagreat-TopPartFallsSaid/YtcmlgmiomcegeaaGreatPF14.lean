/- TopPartFalls, some cases, run by the kernel. No condition. -/
import Derived.Test.YtcmlgmiomcegeaaGreatPF0
namespace Go.Proofs.YtcmlgmiomcegeaaGreat.Ev
open Go Go.RowKit Go.Maps
set_option linter.unusedVariables false
set_option linter.unusedSimpArgs false
set_option linter.unusedSectionVars false
theorem pf7f13 [Env] : evFK scanH (xoE [⟨.gtr, 1, 1, 0, .bool true, false⟩, ⟨.rem, 1, 1, 1, .int .i64 0, false⟩, ⟨.rem, 1, 1, 18, .int .i64 13, false⟩]) (orcT [(0, 8, 7)]) Tryz.prog 2000 80 4 [.v (.c (.ext 0)), .v (.c (.ext 1)), .v (.c (.bool false))] HT.lf 0 (fun s _ _ _ _ => isB s true) = true := by kernel_rfl
theorem pf7f14 [Env] : evFK scanH (xoE [⟨.gtr, 1, 1, 0, .bool true, false⟩, ⟨.rem, 1, 1, 1, .int .i64 0, false⟩, ⟨.rem, 1, 1, 18, .int .i64 14, false⟩]) (orcT [(0, 8, 7)]) Tryz.prog 2000 80 4 [.v (.c (.ext 0)), .v (.c (.ext 1)), .v (.c (.bool false))] HT.lf 0 (fun s _ _ _ _ => isB s true) = true := by kernel_rfl
theorem pf7f15 [Env] : evFK scanH (xoE [⟨.gtr, 1, 1, 0, .bool true, false⟩, ⟨.rem, 1, 1, 1, .int .i64 0, false⟩, ⟨.rem, 1, 1, 18, .int .i64 15, false⟩]) (orcT [(0, 8, 7)]) Tryz.prog 2000 80 4 [.v (.c (.ext 0)), .v (.c (.ext 1)), .v (.c (.bool false))] HT.lf 0 (fun s _ _ _ _ => isB s true) = true := by kernel_rfl
theorem pf7f16 [Env] : evFK scanH (xoE [⟨.gtr, 1, 1, 0, .bool true, false⟩, ⟨.rem, 1, 1, 1, .int .i64 0, false⟩, ⟨.rem, 1, 1, 18, .int .i64 16, false⟩]) (orcT [(0, 8, 7)]) Tryz.prog 2000 80 4 [.v (.c (.ext 0)), .v (.c (.ext 1)), .v (.c (.bool false))] HT.lf 0 (fun s _ _ _ _ => isB s true) = true := by kernel_rfl
theorem pf7f17 [Env] : evFK scanH (xoE [⟨.gtr, 1, 1, 0, .bool true, false⟩, ⟨.rem, 1, 1, 1, .int .i64 0, false⟩, ⟨.rem, 1, 1, 18, .int .i64 17, false⟩]) (orcT [(0, 8, 7)]) Tryz.prog 2000 80 4 [.v (.c (.ext 0)), .v (.c (.ext 1)), .v (.c (.bool false))] HT.lf 0 (fun s _ _ _ _ => isB s true) = true := by kernel_rfl
end Go.Proofs.YtcmlgmiomcegeaaGreat.Ev
