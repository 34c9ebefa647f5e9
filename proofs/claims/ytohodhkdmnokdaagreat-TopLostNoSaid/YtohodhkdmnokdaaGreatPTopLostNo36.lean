/- Part 36 of what the proof of TopLostNo rests on. No condition. -/
import Derived.Test.YtohodhkdmnokdaaGreatPTopRetry34
namespace Go.Proofs.YtohodhkdmnokdaaGreat
set_option maxRecDepth 100000
set_option maxHeartbeats 60000000
set_option linter.unusedVariables false
set_option linter.unusedSimpArgs false
set_option linter.unusedSectionVars false
namespace Ev
open Go Go.RowKit Go.Maps
theorem topLostNo_d4 [Env] : evFK scanH (xoE [⟨.gtr, 1, 1, 0, .ub, false⟩, ⟨.rem, 1, 1, 1, .int .i64 0, false⟩]) (orcT [(0, 5, 4)]) Tryz.prog 2000 80 8 [.v (.c (.ext 0)), .v (.c (.ext 1))] HT.lf 0 (fun s _ _ _ _ => isB s true) = true := by kernel_rfl
end Ev
end Go.Proofs.YtohodhkdmnokdaaGreat
