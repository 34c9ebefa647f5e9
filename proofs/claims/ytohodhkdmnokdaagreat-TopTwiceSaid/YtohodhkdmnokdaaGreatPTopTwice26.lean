/- Part 26 of what the proof of TopTwice rests on. No condition. -/
import Derived.Test.YtohodhkdmnokdaaGreatPTopTwice21
import Derived.Test.YtohodhkdmnokdaaGreatPTopTwice25
namespace Go.Proofs.YtohodhkdmnokdaaGreat
set_option maxRecDepth 100000
set_option maxHeartbeats 60000000
set_option linter.unusedVariables false
set_option linter.unusedSimpArgs false
set_option linter.unusedSectionVars false
namespace Ev
open Go Go.RowKit Go.Maps Go.Sort Go.Shelf
variable [Env]
theorem sortedK2 : SortedK Tryz.prog 510 545 9 := by
 refine ⟨Tryz.underlying9, fun k b nn D0 W hk hc hown hle => ?_, ⟨_, Tryz.func510, rfl⟩⟩
 have hseq : SeqGives Fence.wide 2 Tryz.prog 545 #[.pointer (some ⟨k, 0, none⟩)] encStr (fun ss => ss.Perm (strKeys D0)) (Maps.size D0) W :=
  AnyZ.keys_gives (ρ := Tryz.keys540_ren) { Tryz.keys540 with } Fence.wide _ trivial rfl (by omega) k b nn D0 _ hk hc hown
 exact callsIn_wide.1 (AnyZ.sorted_in Tryz.sorted510 Fence.wide 5 trivial trivial trivial trivial rfl (by omega) (Tryz.sorts510 _) (enters_of Tryz.func412 (by kernel_rfl) rfl) 545 #[.pointer (some ⟨k, 0, none⟩)] trivial (enters_of Tryz.func545 (by kernel_rfl) rfl) _ _ (by simp only [maxLen]; omega) (by omega) _ hseq)
theorem srt_int {g : FuncId} {k : Nat} {D0 : DataW Unit} {W : World} (eg : ∀ args w, (callFunc g args).run Tryz.prog w = .ok (.enter g args) w) (hle : Go.Maps.size D0 <= 1000000)
  (hseq : SeqGives Fence.wide 2 Tryz.prog g #[.pointer (some ⟨k, 0, none⟩)] encZ (fun ss => ss.Perm (intKeys D0)) (Maps.size D0) W) :
  Calls Tryz.prog 69 #[.func (.func g) #[] #[.pointer (some ⟨k, 0, none⟩)]] W fun e w' => ∃ (v : Value) (ss : List Int), e = .returned v /\ ss.Perm (intKeys D0) /\ w'.ownsRow W.heap.size 3 1 v ss.length ((ss.mergeSort leI).map encZ) /\ (v = .slice none 0 0 ↔ ss = []) /\ Below W.heap.size W w' :=
 callsIn_wide.1 (AnyZI.sorted_in Tryz.sorted69 Fence.wide 5 trivial trivial trivial trivial rfl (by omega) (Tryz.sorts69 _) (enters_of Tryz.func137 (by kernel_rfl) rfl) g #[.pointer (some ⟨k, 0, none⟩)] trivial eg _ _ (by simp only [maxLen]; omega) (by omega) _ hseq)
theorem srt_intN {g : FuncId} {k : Nat} {W : World} (eg : ∀ args w, (callFunc g args).run Tryz.prog w = .ok (.enter g args) w)
  (hseq : SeqGives Fence.wide 2 Tryz.prog g #[.pointer (some ⟨k, 0, none⟩)] encZ (fun ss : List Int => ss = []) 0 W) :
  Calls Tryz.prog 69 #[.func (.func g) #[] #[.pointer (some ⟨k, 0, none⟩)]] W fun e w' => e = .returned (.slice none 0 0) /\ Below W.heap.size W w' := by
 have h := callsIn_wide.1 (AnyZI.sorted_in Tryz.sorted69 Fence.wide 5 trivial trivial trivial trivial rfl (by omega) (Tryz.sorts69 _) (enters_of Tryz.func137 (by kernel_rfl) rfl) g #[.pointer (some ⟨k, 0, none⟩)] trivial eg _ 0 (Nat.zero_le _) (by omega) _ hseq)
 refine h.mono ?_
 rintro e w' ⟨v, ss, rfl, hS, hrow, hnil, hb⟩
 exact ⟨by rw [hnil.2 hS], hb⟩
theorem sortedI : SortedI Tryz.prog 69 [138, 333] 3 := by
 refine ⟨Tryz.underlying3, fun g hg k b nn D0 W hk hc hown hle => ?_, fun g hg k W hk hc => ?_, ⟨_, Tryz.func69, rfl⟩⟩
 ·simp only [List.mem_cons, List.not_mem_nil, or_false] at hg
  rcases hg with rfl | rfl
  ·exact srt_int (enters_of Tryz.func138 (by kernel_rfl) rfl) hle (AnyZI.keys_gives (ρ := Tryz.keys70_ren) { Tryz.keys70 with } Fence.wide _ trivial rfl (by omega) k b nn D0 _ hk hc hown)
  ·exact srt_int (enters_of Tryz.func333 (by kernel_rfl) rfl) hle (AnyZI.keys_gives (ρ := Tryz.keys259_ren) { Tryz.keys259 with } Fence.wide _ trivial rfl (by omega) k b nn D0 _ hk hc hown)
 ·simp only [List.mem_cons, List.not_mem_nil, or_false] at hg
  rcases hg with rfl | rfl
  ·exact srt_intN (enters_of Tryz.func138 (by kernel_rfl) rfl) (AnyZI.keys_gives_nil (ρ := Tryz.keys70_ren) { Tryz.keys70 with } Fence.wide _ trivial rfl k _ hk hc)
  ·exact srt_intN (enters_of Tryz.func333 (by kernel_rfl) rfl) (AnyZI.keys_gives_nil (ρ := Tryz.keys259_ren) { Tryz.keys259 with } Fence.wide _ trivial rfl k _ hk hc)
theorem sortedL : SortedI Tryz.prog 374 [455] 2 := by
 refine ⟨Tryz.underlying2, fun g hg k b nn D0 W hk hc hown hle => ?_, fun g hg k W hk hc => ?_, ⟨_, Tryz.func374, rfl⟩⟩
 ·obtain rfl := List.mem_singleton.1 hg
  exact callsIn_wide.1 (AnyZI.sorted_in Tryz.sorted374 Fence.wide 5 trivial trivial trivial trivial rfl (by omega) (Tryz.sorts374 _) (enters_of Tryz.func224 (by kernel_rfl) rfl) 455 #[.pointer (some ⟨k, 0, none⟩)] trivial (enters_of Tryz.func455 (by kernel_rfl) rfl) _ _ (by simp only [maxLen]; omega) (by omega) _
   (AnyZI.keys_gives (ρ := Tryz.keys375_ren) { Tryz.keys375 with } Fence.wide _ trivial rfl (by omega) k b nn D0 _ hk hc hown))
 ·obtain rfl := List.mem_singleton.1 hg
  have h := callsIn_wide.1 (AnyZI.sorted_in Tryz.sorted374 Fence.wide 5 trivial trivial trivial trivial rfl (by omega) (Tryz.sorts374 _) (enters_of Tryz.func224 (by kernel_rfl) rfl) 455 #[.pointer (some ⟨k, 0, none⟩)] trivial (enters_of Tryz.func455 (by kernel_rfl) rfl) _ 0 (Nat.zero_le _) (by omega) _
   (AnyZI.keys_gives_nil (ρ := Tryz.keys375_ren) { Tryz.keys375 with } Fence.wide _ trivial rfl k _ hk hc))
  refine h.mono ?_
  rintro e w' ⟨v, ss, rfl, hS, hrow, hnil, hb⟩
  exact ⟨by rw [hnil.2 hS], hb⟩
theorem srtAll_ok {orc : Orc} (ho : OrcOK Tryz.prog orc) : OrcOK Tryz.prog (srtOrc 510 528 9 (srtOrc 510 545 9 (genOrc 69 (srtIF [138, 333] 3) (genOrc 374 (srtIF [455] 2) orc)))) :=
 srt_ok (srtOrc_ok sortedK2 (genOrc_ok (srtI_ok sortedI) (genOrc_ok (srtI_ok sortedL) ho)))
end Ev
end Go.Proofs.YtohodhkdmnokdaaGreat
