/- What slices.Sorted gives at what maps.Keys hands back, at any world. No condition. -/
import Derived.Test.YtcmlgmiomcegeaaGreatEwS
import Derived.Test.YtcmlgmiomcegeaaGreatIter
namespace Go.Proofs.YtcmlgmiomcegeaaGreat.Ev
open Go Go.RowKit Go.Maps Go.Sort Go.Shelf
set_option linter.unusedVariables false
set_option linter.unusedSectionVars false
variable [Env]
set_option maxHeartbeats 1000000 in
theorem sortedK : SortedK Tryz.prog 498 518 9 := by
  refine ⟨Tryz.underlying9, fun k b nn D0 W hk hc hown hle => ?_, ⟨_, Tryz.func498, rfl⟩⟩
  have hseq : SeqGives Fence.wide 2 Tryz.prog 518 #[.pointer (some ⟨k, 0, none⟩)] encStr (fun ss => ss.Perm (strKeys D0)) (Maps.size D0) W :=
    AnyZ.keys_gives (ρ := Tryz.keys499_ren) { Tryz.keys499 with } Fence.wide _ trivial rfl (by omega) k b nn D0 _ hk hc hown
  exact callsIn_wide.1 (AnyZ.sorted_in Tryz.sorted498 Fence.wide 5 trivial trivial trivial trivial rfl (by omega) (Tryz.sorts498 _) (enters_of Tryz.func396 (by kernel_rfl) rfl) 518 #[.pointer (some ⟨k, 0, none⟩)] trivial (enters_of Tryz.func518 (by kernel_rfl) rfl) _ _ (by simp only [maxLen]; omega) (by omega) _ hseq)
theorem srt_ok {orc : Orc} (ho : OrcOK Tryz.prog orc) : OrcOK Tryz.prog (srtOrc 498 518 9 orc) := srtOrc_ok sortedK ho
end Go.Proofs.YtcmlgmiomcegeaaGreat.Ev
