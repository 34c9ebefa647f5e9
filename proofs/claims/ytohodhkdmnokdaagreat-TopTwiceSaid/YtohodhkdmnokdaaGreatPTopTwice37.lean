/- Part 37 of what the proof of TopTwice rests on. No condition. -/
import Derived.Test.YtohodhkdmnokdaaGreatPTopTwice35
namespace Go.Proofs.YtohodhkdmnokdaaGreat
set_option maxRecDepth 100000
set_option maxHeartbeats 60000000
set_option linter.unusedVariables false
set_option linter.unusedSimpArgs false
set_option linter.unusedSectionVars false
namespace Ev
open Go Go.RowKit Go.Maps
theorem tw4t [Env] : rowK 10 4 (fun H => evFK scanH (xoE xR) orcY Tryz.prog 2000 80 11 [.v (.c (.sg 0 4 true)), .v (.c (.bool true))] H 1 (fun s _ _ _ W => isB0 s true W)) = true := by kernel_rfl
theorem tw5t [Env] : rowK 10 5 (fun H => evFK scanH (xoE xR) orcY Tryz.prog 2000 80 11 [.v (.c (.sg 0 5 true)), .v (.c (.bool true))] H 1 (fun s _ _ _ W => isB0 s true W)) = true := by kernel_rfl
theorem tw6t [Env] : rowK 10 6 (fun H => evFK scanH (xoE xR) orcY Tryz.prog 2000 80 11 [.v (.c (.sg 0 6 false)), .v (.c (.bool true))] H 1 (fun s _ _ _ W => isB0 s true W)) = true := by kernel_rfl
theorem tw0f [Env] : evFK scanH (xoE xR) orcY Tryz.prog 2000 80 11 [.v (.c .se), .v (.c (.bool false))] HT.lf 0 (fun s _ _ _ _ => isB s true) = true := by kernel_rfl
end Ev
end Go.Proofs.YtohodhkdmnokdaaGreat
