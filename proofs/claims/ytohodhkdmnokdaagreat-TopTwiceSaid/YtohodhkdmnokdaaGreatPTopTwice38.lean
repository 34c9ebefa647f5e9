/- Part 38 of what the proof of TopTwice rests on. No condition. -/
import Derived.Test.YtohodhkdmnokdaaGreatPTopTwice35
namespace Go.Proofs.YtohodhkdmnokdaaGreat
set_option maxRecDepth 100000
set_option maxHeartbeats 60000000
set_option linter.unusedVariables false
set_option linter.unusedSimpArgs false
set_option linter.unusedSectionVars false
namespace Ev
open Go Go.RowKit Go.Maps
theorem tw1f [Env] : rowK 10 1 (fun H => evFK scanH (xoE xR) orcY Tryz.prog 2000 80 11 [.v (.c (.sg 0 1 true)), .v (.c (.bool false))] H 1 (fun s _ _ _ W => isB0 s true W)) = true := by kernel_rfl
theorem tw2f [Env] : rowK 10 2 (fun H => evFK scanH (xoE xR) orcY Tryz.prog 2000 80 11 [.v (.c (.sg 0 2 true)), .v (.c (.bool false))] H 1 (fun s _ _ _ W => isB0 s true W)) = true := by kernel_rfl
theorem tw3f [Env] : rowK 10 3 (fun H => evFK scanH (xoE xR) orcY Tryz.prog 2000 80 11 [.v (.c (.sg 0 3 true)), .v (.c (.bool false))] H 1 (fun s _ _ _ W => isB0 s true W)) = true := by kernel_rfl
theorem tw4f [Env] : rowK 10 4 (fun H => evFK scanH (xoE xR) orcY Tryz.prog 2000 80 11 [.v (.c (.sg 0 4 true)), .v (.c (.bool false))] H 1 (fun s _ _ _ W => isB0 s true W)) = true := by kernel_rfl
end Ev
end Go.Proofs.YtohodhkdmnokdaaGreat
