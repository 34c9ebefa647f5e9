/- Part 29 of what the proof of KeepTwice rests on. No condition. -/
import Derived.Test.YtlmkpnanpohcoaaGreatPKeepTwice27
namespace Go.Proofs.YtlmkpnanpohcoaaGreat
set_option maxRecDepth 100000
set_option maxHeartbeats 60000000
set_option linter.unusedVariables false
set_option linter.unusedSimpArgs false
set_option linter.unusedSectionVars false
namespace Ev
open Go Go.RowKit Go.Maps
theorem kt1m0 [Env] : evFK scanH (xoE (xT 1)) orcB Tryz.prog 2000 80 9 [.v (.c .se), .v (.c (.ext 0))] HT.lf 0 (fun s _ _ _ _ => isB s true) = true := by kernel_rfl
theorem kt1m1 [Env] : rowK 10 1 (fun H => evFK scanH (xoE (xT 1)) orcB Tryz.prog 2000 80 9 [.v (.c (.sg 0 1 true)), .v (.c (.ext 0))] H 1 (fun s _ _ _ W => isB0 s true W)) = true := by kernel_rfl
theorem kt1m2 [Env] : rowK 10 2 (fun H => evFK scanH (xoE (xT 1)) orcB Tryz.prog 2000 80 9 [.v (.c (.sg 0 2 true)), .v (.c (.ext 0))] H 1 (fun s _ _ _ W => isB0 s true W)) = true := by kernel_rfl
theorem kt1m3 [Env] : rowK 10 3 (fun H => evFK scanH (xoE (xT 1)) orcB Tryz.prog 2000 80 9 [.v (.c (.sg 0 3 true)), .v (.c (.ext 0))] H 1 (fun s _ _ _ W => isB0 s true W)) = true := by kernel_rfl
theorem kt1m4 [Env] : rowK 10 4 (fun H => evFK scanH (xoE (xT 1)) orcB Tryz.prog 2000 80 9 [.v (.c (.sg 0 4 true)), .v (.c (.ext 0))] H 1 (fun s _ _ _ W => isB0 s true W)) = true := by kernel_rfl
theorem kt1m5 [Env] : rowK 10 5 (fun H => evFK scanH (xoE (xT 1)) orcB Tryz.prog 2000 80 9 [.v (.c (.sg 0 5 false)), .v (.c (.ext 0))] H 1 (fun s _ _ _ W => isB0 s true W)) = true := by kernel_rfl
end Ev
end Go.Proofs.YtlmkpnanpohcoaaGreat
