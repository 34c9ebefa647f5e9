/- Part 35 of what the proof of TopAbort rests on. No condition. -/
import Derived.Test.YtohodhkdmnokdaaGreatPTopAbort34
namespace Go.Proofs.YtohodhkdmnokdaaGreat
set_option maxRecDepth 100000
set_option maxHeartbeats 60000000
set_option linter.unusedVariables false
set_option linter.unusedSimpArgs false
set_option linter.unusedSectionVars false
namespace Ev
open Go Go.RowKit Go.Maps
theorem topAbort_b0htrue [Env] : evFK scanH (xoE []) (orcT [(0, 4, 0)]) Tryz.prog 2000 80 4 [.v (.c (.ext 0)), .v (.c (.bool true))] HT.lf 0 (fun s _ _ _ _ => isB s true) = true := by kernel_rfl
theorem topAbort_b0hfalse [Env] : evFK scanH (xoE []) (orcT [(0, 4, 0)]) Tryz.prog 2000 80 4 [.v (.c (.ext 0)), .v (.c (.bool false))] HT.lf 0 (fun s _ _ _ _ => isB s true) = true := by kernel_rfl
theorem topAbort_b1htrue [Env] : evFK scanH (xoE []) (orcT [(0, 4, 1)]) Tryz.prog 2000 80 4 [.v (.c (.ext 0)), .v (.c (.bool true))] HT.lf 0 (fun s _ _ _ _ => isB s true) = true := by kernel_rfl
theorem topAbort_b1hfalse [Env] : evFK scanH (xoE []) (orcT [(0, 4, 1)]) Tryz.prog 2000 80 4 [.v (.c (.ext 0)), .v (.c (.bool false))] HT.lf 0 (fun s _ _ _ _ => isB s true) = true := by kernel_rfl
theorem topAbort_b2htrue [Env] : evFK scanH (xoE []) (orcT [(0, 4, 2)]) Tryz.prog 2000 80 4 [.v (.c (.ext 0)), .v (.c (.bool true))] HT.lf 0 (fun s _ _ _ _ => isB s true) = true := by kernel_rfl
end Ev
end Go.Proofs.YtohodhkdmnokdaaGreat
