/- Part 35 of what the proof of TopLostNo rests on. No condition. -/
import Derived.Test.YtohodhkdmnokdaaGreatPTopRetry34
namespace Go.Proofs.YtohodhkdmnokdaaGreat
set_option maxRecDepth 100000
set_option maxHeartbeats 60000000
set_option linter.unusedVariables false
set_option linter.unusedSimpArgs false
set_option linter.unusedSectionVars false
namespace Ev
open Go Go.RowKit Go.Maps
theorem topLostNo_d0 [Env] : evFK scanH (xoE [⟨.gtr, 1, 1, 0, .ub, false⟩, ⟨.rem, 1, 1, 1, .int .i64 0, false⟩]) (orcT [(0, 5, 0)]) Tryz.prog 2000 80 8 [.v (.c (.ext 0)), .v (.c (.ext 1))] HT.lf 0 (fun s _ _ _ _ => isB s true) = true := by kernel_rfl
theorem topLostNo_d1 [Env] : evFK scanH (xoE [⟨.gtr, 1, 1, 0, .ub, false⟩, ⟨.rem, 1, 1, 1, .int .i64 0, false⟩]) (orcT [(0, 5, 1)]) Tryz.prog 2000 80 8 [.v (.c (.ext 0)), .v (.c (.ext 1))] HT.lf 0 (fun s _ _ _ _ => isB s true) = true := by kernel_rfl
theorem topLostNo_d2 [Env] : evFK scanH (xoE [⟨.gtr, 1, 1, 0, .ub, false⟩, ⟨.rem, 1, 1, 1, .int .i64 0, false⟩]) (orcT [(0, 5, 2)]) Tryz.prog 2000 80 8 [.v (.c (.ext 0)), .v (.c (.ext 1))] HT.lf 0 (fun s _ _ _ _ => isB s true) = true := by kernel_rfl
theorem topLostNo_d3 [Env] : evFK scanH (xoE [⟨.gtr, 1, 1, 0, .ub, false⟩, ⟨.rem, 1, 1, 1, .int .i64 0, false⟩]) (orcT [(0, 5, 3)]) Tryz.prog 2000 80 8 [.v (.c (.ext 0)), .v (.c (.ext 1))] HT.lf 0 (fun s _ _ _ _ => isB s true) = true := by kernel_rfl
end Ev
end Go.Proofs.YtohodhkdmnokdaaGreat
