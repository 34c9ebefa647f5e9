/- Segments: slices.Equal, Cut. No condition. -/
import Derived.Test.YtcjlgdldhcbcjaaSeg1
import Derived.Test.YtcjlgdldhcbcjaaFall0
import Derived.Test.YtcjlgdldhcbcjaaBeg1
import Derived.BigQuiet
namespace Go.Proofs.Ytcjlgdldhcbcjaa
open Go.RowKit Go.Maps
set_option linter.unusedVariables false
set_option linter.unusedSimpArgs false

theorem u8_ne {a b : UInt8} (h : a ≠ b) : ¬ (a.toNat : Int) = (b.toNat : Int) := fun e => h (UInt8.toNat_inj.1 (by omega))
set_option maxRecDepth 100000 in
set_option maxHeartbeats 1000000 in
theorem equal_any (v1 v2 : Value) (b1 b2 : List UInt8) (w : World) (h1 : SlB w v1 b1) (h2 : SlB w v2 b2) :
    Calls Try.prog 45 #[v1, v2] w fun e w' => e = .returned (.bool (decide (b1 = b2))) ∧ Tch No w w' := by
  obtain ⟨a1, c1, rfl, hc1, hm1⟩ := h1.shape
  obtain ⟨a2, c2, rfl, hc2, hm2⟩ := h2.shape
  have H1 := Lib.hid h1
  have H2 := Lib.hid h2
  have l1 := h1.1
  have l2 := h2.1
  unfold lim at l1 l2
  obtain ⟨n1, hn1⟩ : ∃ n, b1.length = n := ⟨_, rfl⟩
  obtain ⟨n2, hn2⟩ : ∃ n, b2.length = n := ⟨_, rfl⟩
  have N1 := Lib.hid hn1
  have N2 := Lib.hid hn2
  rw [hn1] at hc1 l1 ⊢
  rw [hn2] at hc2 l2 ⊢
  clear h1 h2 hn1 hn2
  by_cases hne : n1 = n2
  · subst hne
    go_enter Try.func45, Try.ntmps45
    go_wp2_with fail
    go_loopw [13] (fun i wr => ∃ k : Nat, k ≤ n1 ∧ i = .int .i64 k ∧ Hid (Tch No w wr) ∧ Hid (b1.take k = b2.take k)) (fun i _ => n1 - (intOf i).toNat)
    case atStart => exact ⟨0, by omega, rfl, Tch.refl _ _, rfl⟩
    case round =>
      obtain ⟨k, hk, rfl, hW, hE⟩ := hrel
      by_cases hlt : k < n1
      · rcases H1.out.2 with ⟨_, h⟩ | ⟨g1, o1, d1, h, _, _, _, x1⟩
        · have := N1.out; rw [h] at this; simp at this; omega
        rcases H2.out.2 with ⟨_, h'⟩ | ⟨g2, o2, d2, h', _, _, _, x2⟩
        · have := N2.out; rw [h'] at this; simp at this; omega
        rw [N1.out] at h
        rw [N2.out] at h'
        simp only [Value.slice.injEq, true_and] at h h'
        obtain ⟨rfl, rfl⟩ := h
        obtain ⟨rfl, rfl⟩ := h'
        have y1 := hW.out.cell (x1 k (by rw [N1.out]; exact hlt)) (fun h => h)
        have y2 := hW.out.cell (x2 k (by rw [N2.out]; exact hlt)) (fun h => h)
        obtain ⟨e1, he1⟩ : ∃ e, b1[k]'(by rw [N1.out]; exact hlt) = e := ⟨_, rfl⟩
        obtain ⟨e2, he2⟩ : ∃ e, b2[k]'(by rw [N2.out]; exact hlt) = e := ⟨_, rfl⟩
        rw [he1] at y1
        rw [he2] at y2
        have p1 : (k : Int) < (n1 : Int) := by omega
        have p2 : (0 : Int) ≤ (k : Int) := by omega
        by_cases heq : e1 = e2
        · have hS : Hid (b1.take (k + 1) = b2.take (k + 1)) := by
            rw [Hid, List.take_succ_eq_append_getElem (by rw [N1.out]; exact hlt), List.take_succ_eq_append_getElem (by rw [N2.out]; exact hlt), hE.out, he1, he2, heq]
          subst heq
          clear he1 he2 x1 x2
          go_wp2_with fail
          go_quiet (fail)
          go_wp2_with fail
          exact ⟨⟨k + 1, by omega, by go_num, hW.out.trans0 (by exact ⟨rfl, rfl, rfl, Nat.le_refl _, fun _ _ _ => rfl⟩), hS⟩, by simp [intOf]; omega⟩
        · have hS : Hid (¬ b1 = b2) := fun e => by subst e; exact heq (he1.symm.trans he2)
          have hq := u8_ne heq
          clear he1 he2 x1 x2
          go_wp2_with fail
          go_quiet (fail)
          go_wp2_with fail
          go_ret
          exact ⟨ret_b (by simp [hS.out]), hW.out.trans0 (by exact ⟨rfl, rfl, rfl, Nat.le_refl _, fun _ _ _ => rfl⟩)⟩
      · have hS : Hid (b1 = b2) := by
          have := hE.out
          rw [List.take_of_length_le (by rw [N1.out]; omega), List.take_of_length_le (by rw [N2.out]; omega)] at this
          exact this
        have p1 : ¬ (k : Int) < (n1 : Int) := by omega
        go_wp2_with fail
        go_ret
        exact ⟨ret_b (by simp [hS.out]), hW.out⟩
  · have hS : Hid (¬ b1 = b2) := fun e => by subst e; exact hne (N1.out.symm.trans N2.out)
    have p1 : ¬ (n1 : Int) = (n2 : Int) := by omega
    go_enter Try.func45, Try.ntmps45
    go_wp2_with fail
    go_ret
    exact ⟨ret_b (by simp [hS.out]), Tch.refl _ _⟩
/-- What Cut gives. -/
def CutPost (w : World) (bs : List UInt8) (e : Ending) (w' : World) : Prop :=
  ∃ x, e = .returned (.tuple #[x, .int .i64 ((cutM bs).2.1 : Nat), .int .i64 ((cutM bs).2.2 : Nat)]) ∧ SlB w' x (cutM bs).1 ∧ (∀ k, x.ownBlock = some k → w.heap.size ≤ k) ∧ Tch No w w'
theorem CutPost.bad {w w' : World} {bs : List UInt8} (k : Nat) (h : cutM bs = ([], 0, k)) (t : Tch No w w') : CutPost w bs (.returned (.tuple #[.slice none 0 0, .int .i64 0, .int .i64 (k : Int)])) w' :=
  ⟨.slice none 0 0, by rw [h]; rfl, by rw [h]; exact SlB.nil _, fun k hk => by simp [Value.ownBlock] at hk, t⟩
set_option maxRecDepth 100000 in
set_option maxHeartbeats 2000000 in
theorem scut_any (v : Value) (bs : List UInt8) (w : World) (h : SlB w v bs) : Calls Try.prog 21 #[v] w (CutPost w bs) := by
  obtain ⟨a, cap, rfl, hc, hm⟩ := h.shape
  have H := Lib.hid h
  have hl := h.1
  unfold lim at hl
  obtain ⟨n, hn⟩ : ∃ n, bs.length = n := ⟨_, rfl⟩
  have N := Lib.hid hn
  have hcm : Hid (cutM bs = cutM bs) := rfl
  rw [hn] at hc hl ⊢
  clear h hn
  by_cases h2 : n < 2
  · have hE : Hid (cutM bs = ([], 0, 2)) := by rw [Hid, cutM, if_pos (by rw [N.out]; exact h2)]
    have p1 : (n : Int) < 2 := by omega
    go_enter Try.func21, Try.ntmps21
    go_wp2_with fail
    go_ret3
    exact CutPost.bad 2 hE.out (Tch.refl _ _)
  have p1 : ¬ (n : Int) < 2 := by omega
  obtain ⟨m, hmm⟩ : ∃ m, leNum (bs.take 2) = m := ⟨_, rfl⟩
  have hml : m < 65536 := by
    have := leNum_lt (bs.take 2)
    rw [hmm, List.length_take, N.out] at this
    rw [show min 2 n = 2 by omega] at this
    omega
  have MM := Lib.hid hmm
  have hin : Hid (IsIn (w.alloc (.cells #[.slice a n cap, .bool false] 94)) w.heap.size (.slice a n cap) bs false) := by
    have h3 := H.out
    rw [N.out] at h3
    exact ⟨blk_new w _, h3.tch0 (Tch.alloc _ _), fun e => by have := h3.blt _ e; omega⟩
  have hsm := Lib.hid (ismall_ok w.heap.size _ bs _ hin.out (by rw [N.out]; omega))
  rw [hmm] at hsm
  clear hmm
  have step : Hid (∀ W, Tch No w W → ∀ n' : Nat, n' = n → SlB W (.slice a n' cap) bs) := fun W hW n' e => by
    have := H.out.tch0 hW; rw [N.out] at this; rw [e]; exact this
  go_enter Try.func21, Try.ntmps21
  go_wp2_with fail
  refine (read_any a n cap w).mono ?_
  rintro e w1 ⟨rfl, rfl⟩
  go_wp2_with fail
  refine hsm.out.mono ?_
  rintro e w2 ⟨v2, rfl, _, _, t2⟩
  have T2 : Hid (Tch No w w2) := (Tch.alloc w _).fresh t2 (fun k hk => by rw [show k = w.heap.size from hk]; exact Nat.le_refl _)
  clear t2 hin hsm
  by_cases q1 : m < 1
  · have hE : Hid (cutM bs = ([], 0, 3)) := by rw [Hid, cutM, if_neg (by rw [N.out]; exact h2), MM.out, if_pos (Or.inl q1)]
    have r1 : (m : Int) < 1 := by omega
    go_wp2_with fail
    go_ret3
    exact CutPost.bad 3 hE.out T2.out
  have r1 : ¬ (m : Int) < 1 := by omega
  by_cases q2 : 4000 < m
  · have hE : Hid (cutM bs = ([], 0, 3)) := by rw [Hid, cutM, if_neg (by rw [N.out]; exact h2), MM.out, if_pos (Or.inr q2)]
    have r2 : 4000 < (m : Int) := by omega
    go_wp2_with fail
    go_ret3
    exact CutPost.bad 3 hE.out T2.out
  have r2 : ¬ 4000 < (m : Int) := by omega
  by_cases q3 : n < 6 + m
  · have hE : Hid (cutM bs = ([], 0, 2)) := by rw [Hid, cutM, if_neg (by rw [N.out]; exact h2), MM.out, if_neg (by omega), if_pos (by rw [N.out]; exact q3)]
    have r3 : (n : Int) < 6 + (m : Int) := by omega
    go_wp2_with fail
    go_ret3
    exact CutPost.bad 2 hE.out T2.out
  have r3 : ¬ (n : Int) < 6 + (m : Int) := by omega
  obtain ⟨g, o, ha⟩ : ∃ g o, a = some ⟨g, o, none⟩ := by
    rcases H.out.2 with ⟨_, h⟩ | ⟨g, o, d, h, _⟩
    · have := N.out; rw [h] at this; simp at this; omega
    · injection h with h; exact ⟨g, o, h⟩
  subst ha
  obtain ⟨what, hwh⟩ : ∃ what, (bs.drop 6).take m = what := ⟨_, rfl⟩
  have hwl : what.length = m := by rw [← hwh, List.length_take, List.length_drop, N.out]; omega
  have HWL := Lib.hid hwl
  have hwhat : Hid (∀ W, Tch No w W → SlB W (.slice (some ⟨g, o + 6, none⟩) m (cap - 6)) what) := by
    intro W hW
    have h1 := (step.out W hW n rfl).drop 6 (by rw [N.out]; omega) (o + 6) (fun _ => rfl)
    have h2 := h1.take m (by rw [List.length_drop, N.out]; omega)
    rw [hwh] at h2
    exact h2
  have hhead : Hid (∀ W, Tch No w W → SlB W (.slice (some ⟨g, o, none⟩) 6 cap) (bs.take 6)) := fun W hW => (step.out W hW n rfl).take 6 (by rw [N.out]; omega)
  have hE0 : Hid (cutM bs = if sizedM what ≠ bs.take 6 then ([], 0, 3) else (what, 6 + m, 0)) := by
    rw [Hid, cutM, if_neg (by rw [N.out]; exact h2), MM.out, if_neg (by omega), if_neg (by rw [N.out]; omega), hwh]
  clear hwh hwl
  have c1 : (6 : Int) ≤ (cap : Int) := by omega
  have c2 : 6 + (m : Int) ≤ (cap : Int) := by omega
  go_wp2_with fail
  by_cases q4 : sizedM what = bs.take 6
  · have hdec : Hid (decide (sizedM what = bs.take 6) = true) := by rw [Hid, decide_eq_true_iff]; exact q4
    have hE : Hid (cutM bs = (what, 6 + m, 0)) := by rw [Hid, hE0.out, if_neg (by simpa using q4)]
    clear q4 hE0
    go_region_held3 (fun W => True) (first | trivial)
      (first | (go_at_call 39; refine (sized_any _ what _ (hwhat.out _ (T2.out.trans0 (Tch.drew _))) (by rw [HWL.out]; omega)).mono ?_; rintro e w3 ⟨v3, rfl, b3, f3, t3, o3⟩; have B3 := Lib.hid b3; have T3 := Lib.hid ((T2.out.trans0 (Tch.drew _)).trans0 t3); clear b3 f3 t3 o3) | (go_at_call 45; refine (equal_any v3 _ (sizedM what) (bs.take 6) w3 B3.out (hhead.out _ T3.out)).mono ?_; rintro e w4 ⟨he, t4⟩; rw [hdec.out] at he; subst he; have T4 := Lib.hid (T3.out.trans0 t4); clear t4))
    go_wp2_with fail
    refine (clone_any _ m _ what w4 (hwhat.out _ T4.out)).mono ?_
    rintro e w5 ⟨v5, rfl, b5, f5, t5⟩
    have B5 := Lib.hid b5; have F5 := Lib.hid f5; have T5 := Lib.hid (T4.out.trans0 t5); clear b5 f5 t5
    go_wp2_with fail
    go_ret3
    refine ⟨v5, by rw [hE.out]; simp, by rw [hE.out]; exact B5.out, fun k hk => Nat.le_trans T4.out.size (F5.out k hk), T5.out⟩
  · have hdec : Hid (decide (sizedM what = bs.take 6) = false) := by rw [Hid, decide_eq_false_iff_not]; exact q4
    have hE : Hid (cutM bs = ([], 0, 3)) := by rw [Hid, hE0.out, if_pos q4]
    clear q4 hE0
    go_region_held3 (fun W => True) (first | trivial)
      (first | (go_at_call 39; refine (sized_any _ what _ (hwhat.out _ (T2.out.trans0 (Tch.drew _))) (by rw [HWL.out]; omega)).mono ?_; rintro e w3 ⟨v3, rfl, b3, f3, t3, o3⟩; have B3 := Lib.hid b3; have T3 := Lib.hid ((T2.out.trans0 (Tch.drew _)).trans0 t3); clear b3 f3 t3 o3) | (go_at_call 45; refine (equal_any v3 _ (sizedM what) (bs.take 6) w3 B3.out (hhead.out _ T3.out)).mono ?_; rintro e w4 ⟨he, t4⟩; rw [hdec.out] at he; subst he; have T4 := Lib.hid (T3.out.trans0 t4); clear t4))
    go_wp2_with fail
    go_ret3
    exact CutPost.bad 3 hE.out T4.out
end Go.Proofs.Ytcjlgdldhcbcjaa
