import Derived.Test.YtcjlgdldhcbcjaaStr
import Derived.Test.YtcjlgdldhcbcjaaIter
namespace Go.Proofs.Ytcjlgdldhcbcjaa
open Go.RowKit Go.Maps Go.Shelf
set_option linter.unusedVariables false
set_option linter.unusedSimpArgs false

theorem infoC : (Try.prog.info? 5).map (fun i => (i.zero, i.size, i.bytes)) = some (some (.int .u8 0), 1, 1) := by kernel_rfl

/-- slices.Grow of the nil slice. -/
theorem grow_any (n : Nat) (w : World) (hn : n ≤ lim) :
    Calls Try.prog 62 #[.slice none 0 0, .int .i64 n] w fun e w' => ∃ v, e = .returned v ∧ w'.ownsRow 0 5 1 v ([] : List UInt8).length (u8s []) ∧ (∀ k, v.ownBlock = some k → w.heap.size ≤ k) ∧ Tch No w w' := by
  unfold lim at hn
  by_cases h0 : n = 0
  · subst h0
    refine (Any8.slices_Grow_room Try.growB none 0 0 0 w (by omega) (by omega) (by omega) (by omega)).mono ?_
    rintro e w' ⟨rfl, rfl⟩
    exact ⟨_, rfl, World.ownsRow_nil _ _ _ _, fun k hk => by simp [Value.ownBlock] at hk, Tch.refl _ _⟩
  · obtain ⟨i0, hi0, hz0, hz1, hz2⟩ := info_parts infoC
    refine (Any8.slices_Grow_grow Try.growB i0 (.int .u8 0) hi0 hz0 (by omega) none 0 0 n [] w (by omega) (by omega) (by rw [hz2]; omega) (by omega) (by simp) (fun _ => rfl) (fun a h => by cases h)).mono ?_
    rintro e w' ⟨rfl, rfl⟩
    refine ⟨_, rfl, ?_, fun k hk => by simp [Value.ownBlock] at hk; omega, (Tch.drew w).trans0 (Tch.alloc _ _)⟩
    refine ⟨rfl, .inr ⟨w.heap.size, _, _, rfl, Nat.zero_le _, heap_alloc_new w.drew _, Nat.zero_le _, grownCap_le_maxLen _ _ _ _ (by simp only [maxLen]; omega), ?_, rfl⟩⟩
    have hg := grownCap_ge w (0 + n) 0 (Try.growB_ren.t 25)
    simp only [Array.size_append, size_zeroCells, List.size_toArray, List.length_nil, Nat.sub_zero, Nat.zero_add] at hg ⊢
    have hz : (Value.int IntKind.u8 0).cells.size = 1 := rfl
    rw [hz]; omega

def tot (B : Nat → List UInt8) (k : Nat) : Nat := ((List.range k).map fun i => (B i).length).sum
def cat (B : Nat → List UInt8) (k : Nat) : List UInt8 := (List.range k).flatMap B
theorem tot_succ (B : Nat → List UInt8) (k : Nat) : tot B (k + 1) = tot B k + (B k).length := by
  simp [tot, List.range_succ, List.sum_append_nat]
theorem cat_succ (B : Nat → List UInt8) (k : Nat) : cat B (k + 1) = cat B k ++ B k := by
  simp [cat, List.range_succ]
theorem cat_len (B : Nat → List UInt8) : ∀ k, (cat B k).length = tot B k
  | 0 => rfl
  | k + 1 => by rw [cat_succ, List.length_append, cat_len B k, tot_succ]
theorem tot_mono (B : Nat → List UInt8) {i n : Nat} (h : i ≤ n) : tot B i ≤ tot B n := by
  induction n with
  | zero => have : i = 0 := by omega
            subst this; exact Nat.le_refl _
  | succ n ih =>
    by_cases e : i = n + 1
    · subst e; exact Nat.le_refl _
    · rw [tot_succ]; have := ih (by omega); omega

def CatPost (w : World) (bs : List UInt8) (e : Ending) (w' : World) : Prop :=
  ∃ v, e = .returned v ∧ SlB w' v bs ∧ (∀ k, v.ownBlock = some k → w.heap.size ≤ k) ∧ Tch No w w'

set_option maxRecDepth 100000 in
set_option maxHeartbeats 2000000 in
theorem concat_any (sb n cap : Nat) (V : Nat → Value) (B : Nat → List UInt8) (w : World) (hn : n ≤ 1000000) (hcell : ∀ i, i < n → w.cell? ⟨sb, i, none⟩ = some (V i)) (hB : ∀ i, i < n → SlB w (V i) (B i)) (ht : tot B n ≤ 1000000000) :
    Calls Try.prog 52 #[.slice (some ⟨sb, 0, none⟩) n cap] w (CatPost w (cat B n)) := by
  have HC := Lib.hid hcell
  have HB := Lib.hid hB
  clear hcell hB
  obtain ⟨i0, hi0, hz0, hz1, hz2⟩ := info_parts infoC
  have HG : Hid (∀ m : Nat, m ≤ lim → Calls Try.prog 62 #[.slice none 0 0, .int .i64 m] w fun e w' => ∃ v, e = .returned v ∧ w'.ownsRow 0 5 1 v ([] : List UInt8).length (u8s []) ∧ (∀ k, v.ownBlock = some k → w.heap.size ≤ k) ∧ Tch No w w') := fun m hm => grow_any m w hm
  go_enter Try.func52, Try.ntmps52
  go_wp2
  go_loop [3, 11] (fun s i => ∃ (k m : Nat), k ≤ n ∧ i = .int .i64 k ∧ s = .int .i64 m ∧ m ≤ 1000000000 ∧ Hid (m = tot B k)) (fun _ i => n - (intOf i).toNat)
  case atStart => exact ⟨0, 0, by omega, rfl, rfl, by omega, rfl⟩
  case round =>
    obtain ⟨k, m, hk, rfl, rfl, hm, hs⟩ := hrel
    by_cases hlt : k < n
    · have c := HC.out k hlt
      obtain ⟨a, l, cp, hv, hl⟩ := (HB.out k hlt).shape'
      rw [hv] at c
      have hstep : Hid (m + l = tot B (k + 1)) := by rw [Hid, tot_succ, ← hs.out, hl.out]
      have hle : m + l ≤ 1000000000 := by rw [hstep.out]; exact Nat.le_trans (tot_mono B (by omega)) ht
      clear hv
      go_wp2
      exact ⟨⟨k + 1, m + l, by omega, by go_num, by go_num, hle, hstep.out⟩, by simp [intOf]; omega⟩
    · have hkn : k = n := by omega
      have hml : m ≤ lim := by unfold lim; omega
      go_wp2_with (go_at_call 62; go_must (refine (HG.out m hml).mono ?_); rintro e w1 ⟨v, rfl, g1, g2, g3⟩)
      have G1 := Lib.hid g1
      have G2 := Lib.hid g2
      clear g1 g2
      go_loopw [6, 27] (fun s i wr => ∃ (j : Nat), j ≤ n ∧ i = .int .i64 j ∧ Hid (wr.ownsRow 0 5 1 s (cat B j).length (u8s (cat B j))) ∧ Hid (∀ k, s.ownBlock = some k → w.heap.size ≤ k) ∧ Tch No w wr) (fun _ i _ => n - (intOf i).toNat)
      case atStart => exact ⟨0, by omega, rfl, G1, G2, g3⟩
      case round =>
        obtain ⟨j, hj, rfl, hown, hfr, hT⟩ := hrel
        by_cases hlt : j < n
        · have c := hT.cell (HC.out j hlt) (fun h => h)
          have b := Lib.hid ((HB.out j hlt).tch0 hT)
          obtain ⟨a, l, cp, hv, hl⟩ := b.out.shape'
          rw [hv] at c
          have hb' : Hid (SlB wr (.slice a l cp) (B j)) := by rw [← hv]; exact b
          obtain ⟨a6, l6, cp6, hv6, hl6⟩ := own_shape' hown.out
          subst hv6
          have hlen : (cat B j).length + (B j).length ≤ lim := by
            rw [cat_len, ← tot_succ]; unfold lim; have := tot_mono B (show j + 1 ≤ n by omega); omega
          obtain ⟨ys, hys⟩ : ∃ ys, Hid (ys = cat B j ++ B j) := ⟨_, rfl⟩
          clear hv b
          go_wp2_with (at_builtin; go_must (refine wpList_app _ rfl _ _ 22 rfl 5 i0 Try.underlying22 hi0 hz0 hz1 hz2 (.slice a6 l6 cp6) (cat B j) rfl hown.out (.slice a l cp) (B j) rfl hb'.out hlen ys hys ?_); intro a1 n1 cap1 w2 hA hn1)
          have hys' : ys = cat B (j + 1) := by rw [hys.out, cat_succ]
          have hA' := hA.own
          rw [hys'] at hA'
          refine ⟨⟨j + 1, by omega, by go_num, hA', ?_, ?_⟩, by simp [intOf]; omega⟩
          · intro q hq
            rcases hA.loc with e | e
            · rw [e] at hq; exact hfr.out q hq
            · rw [e] at hq; simp at hq; have := hT.size; omega
          · exact hT.fresh (Tch.grown hA.grow (F := fun q => (Value.slice a6 l6 cp6).ownBlock = some q) (fun q hq _ => hq)) (fun q hq => hfr.out q hq)
        · have hjn : j = n := by omega
          subst hjn
          obtain ⟨a6, l6, cp6, hv6, hl6⟩ := own_shape' hown.out
          subst hv6
          go_wp2
          go_ret
          exact ⟨_, rfl, SlB.ofRow hown.out (by rw [cat_len]; unfold lim; omega), hfr.out, hT⟩
end Go.Proofs.Ytcjlgdldhcbcjaa
