/- What slices.Sorted gives at what maps.Keys hands back, at maps of numbers and of texts, at any world. No condition. -/
import Derived.Test.YtcmlgmiomcegeaaGreatEwR
import Derived.Test.YtcmlgmiomcegeaaGreatEwQ
namespace Go.Proofs.YtcmlgmiomcegeaaGreat.Ev
open Go Go.RowKit Go.Maps Go.Sort Go.Shelf
set_option linter.unusedVariables false
set_option linter.unusedSectionVars false
variable [Env]
set_option maxHeartbeats 1000000 in
theorem sortedK2 : SortedK Tryz.prog 498 536 9 := by
  refine ⟨Tryz.underlying9, fun k b nn D0 W hk hc hown hle => ?_, ⟨_, Tryz.func498, rfl⟩⟩
  have hseq : SeqGives Fence.wide 2 Tryz.prog 536 #[.pointer (some ⟨k, 0, none⟩)] encStr (fun ss => ss.Perm (strKeys D0)) (Maps.size D0) W :=
    AnyZ.keys_gives (ρ := Tryz.keys531_ren) { Tryz.keys531 with } Fence.wide _ trivial rfl (by omega) k b nn D0 _ hk hc hown
  exact callsIn_wide.1 (AnyZ.sorted_in Tryz.sorted498 Fence.wide 5 trivial trivial trivial trivial rfl (by omega) (Tryz.sorts498 _) (enters_of Tryz.func396 (by kernel_rfl) rfl) 536 #[.pointer (some ⟨k, 0, none⟩)] trivial (enters_of Tryz.func536 (by kernel_rfl) rfl) _ _ (by simp only [maxLen]; omega) (by omega) _ hseq)
set_option maxHeartbeats 1000000 in
theorem srt_int {g : FuncId} {k : Nat} {D0 : DataW Unit} {W : World} (eg : ∀ args w, (callFunc g args).run Tryz.prog w = .ok (.enter g args) w) (hle : Go.Maps.size D0 ≤ 1000000)
    (hseq : SeqGives Fence.wide 2 Tryz.prog g #[.pointer (some ⟨k, 0, none⟩)] encZ (fun ss => ss.Perm (intKeys D0)) (Maps.size D0) W) :
    Calls Tryz.prog 53 #[.func (.func g) #[] #[.pointer (some ⟨k, 0, none⟩)]] W fun e w' => ∃ (v : Value) (ss : List Int), e = .returned v ∧ ss.Perm (intKeys D0) ∧ w'.ownsRow W.heap.size 3 1 v ss.length ((ss.mergeSort leI).map encZ) ∧ (v = .slice none 0 0 ↔ ss = []) ∧ Below W.heap.size W w' :=
  callsIn_wide.1 (AnyZI.sorted_in Tryz.sorted53 Fence.wide 5 trivial trivial trivial trivial rfl (by omega) (Tryz.sorts53 _) (enters_of Tryz.func110 (by kernel_rfl) rfl) g #[.pointer (some ⟨k, 0, none⟩)] trivial eg _ _ (by simp only [maxLen]; omega) (by omega) _ hseq)
set_option maxHeartbeats 1000000 in
theorem srt_intN {g : FuncId} {k : Nat} {W : World} (eg : ∀ args w, (callFunc g args).run Tryz.prog w = .ok (.enter g args) w)
    (hseq : SeqGives Fence.wide 2 Tryz.prog g #[.pointer (some ⟨k, 0, none⟩)] encZ (fun ss : List Int => ss = []) 0 W) :
    Calls Tryz.prog 53 #[.func (.func g) #[] #[.pointer (some ⟨k, 0, none⟩)]] W fun e w' => e = .returned (.slice none 0 0) ∧ Below W.heap.size W w' := by
  have h := callsIn_wide.1 (AnyZI.sorted_in Tryz.sorted53 Fence.wide 5 trivial trivial trivial trivial rfl (by omega) (Tryz.sorts53 _) (enters_of Tryz.func110 (by kernel_rfl) rfl) g #[.pointer (some ⟨k, 0, none⟩)] trivial eg _ 0 (Nat.zero_le _) (by omega) _ hseq)
  refine h.mono ?_
  rintro e w' ⟨v, ss, rfl, hS, hrow, hnil, hb⟩
  exact ⟨by rw [hnil.2 hS], hb⟩
theorem sortedI : SortedI Tryz.prog 53 [111, 321] 3 := by
  refine ⟨Tryz.underlying3, fun g hg k b nn D0 W hk hc hown hle => ?_, fun g hg k W hk hc => ?_, ⟨_, Tryz.func53, rfl⟩⟩
  · simp only [List.mem_cons, List.not_mem_nil, or_false] at hg
    rcases hg with rfl | rfl
    · exact srt_int (enters_of Tryz.func111 (by kernel_rfl) rfl) hle (AnyZI.keys_gives (ρ := Tryz.keys54_ren) { Tryz.keys54 with } Fence.wide _ trivial rfl (by omega) k b nn D0 _ hk hc hown)
    · exact srt_int (enters_of Tryz.func321 (by kernel_rfl) rfl) hle (AnyZI.keys_gives (ρ := Tryz.keys242_ren) { Tryz.keys242 with } Fence.wide _ trivial rfl (by omega) k b nn D0 _ hk hc hown)
  · simp only [List.mem_cons, List.not_mem_nil, or_false] at hg
    rcases hg with rfl | rfl
    · exact srt_intN (enters_of Tryz.func111 (by kernel_rfl) rfl) (AnyZI.keys_gives_nil (ρ := Tryz.keys54_ren) { Tryz.keys54 with } Fence.wide _ trivial rfl k _ hk hc)
    · exact srt_intN (enters_of Tryz.func321 (by kernel_rfl) rfl) (AnyZI.keys_gives_nil (ρ := Tryz.keys242_ren) { Tryz.keys242 with } Fence.wide _ trivial rfl k _ hk hc)
set_option maxHeartbeats 1000000 in
theorem sortedL : SortedI Tryz.prog 477 [504] 2 := by
  refine ⟨Tryz.underlying2, fun g hg k b nn D0 W hk hc hown hle => ?_, fun g hg k W hk hc => ?_, ⟨_, Tryz.func477, rfl⟩⟩
  · obtain rfl := List.mem_singleton.1 hg
    exact callsIn_wide.1 (AnyZI.sorted_in Tryz.sorted477 Fence.wide 5 trivial trivial trivial trivial rfl (by omega) (Tryz.sorts477 _) (enters_of Tryz.func196 (by kernel_rfl) rfl) 504 #[.pointer (some ⟨k, 0, none⟩)] trivial (enters_of Tryz.func504 (by kernel_rfl) rfl) _ _ (by simp only [maxLen]; omega) (by omega) _
      (AnyZI.keys_gives (ρ := Tryz.keys478_ren) { Tryz.keys478 with } Fence.wide _ trivial rfl (by omega) k b nn D0 _ hk hc hown))
  · obtain rfl := List.mem_singleton.1 hg
    have h := callsIn_wide.1 (AnyZI.sorted_in Tryz.sorted477 Fence.wide 5 trivial trivial trivial trivial rfl (by omega) (Tryz.sorts477 _) (enters_of Tryz.func196 (by kernel_rfl) rfl) 504 #[.pointer (some ⟨k, 0, none⟩)] trivial (enters_of Tryz.func504 (by kernel_rfl) rfl) _ 0 (Nat.zero_le _) (by omega) _
      (AnyZI.keys_gives_nil (ρ := Tryz.keys478_ren) { Tryz.keys478 with } Fence.wide _ trivial rfl k _ hk hc))
    refine h.mono ?_
    rintro e w' ⟨v, ss, rfl, hS, hrow, hnil, hb⟩
    exact ⟨by rw [hnil.2 hS], hb⟩
theorem srtAll_ok {orc : Orc} (ho : OrcOK Tryz.prog orc) : OrcOK Tryz.prog (srtOrc 498 518 9 (srtOrc 498 536 9 (genOrc 53 (srtIF [111, 321] 3) (genOrc 477 (srtIF [504] 2) orc)))) :=
  srt_ok (srtOrc_ok sortedK2 (genOrc_ok (srtI_ok sortedI) (genOrc_ok (srtI_ok sortedL) ho)))
end Go.Proofs.YtcmlgmiomcegeaaGreat.Ev
