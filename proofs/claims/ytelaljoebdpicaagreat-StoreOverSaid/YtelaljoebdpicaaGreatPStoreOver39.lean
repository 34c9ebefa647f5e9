/- Part 39 of what the proof of StoreOver rests on. No condition. -/
import Derived.Test.YtelaljoebdpicaaGreatPStoreOver07
import Derived.Test.YtelaljoebdpicaaGreatPStoreOver38
namespace Go.Proofs.YtelaljoebdpicaaGreat
set_option maxRecDepth 100000
set_option maxHeartbeats 60000000
set_option linter.unusedVariables false
set_option linter.unusedSimpArgs false
set_option linter.unusedSectionVars false
section
open Go.RowKit Go.Maps
theorem rrecord_any (r : RecM) (hok : OkRec r) (v : Value) (w : World) (h : IsRec w v r) :
  Calls Tryz.prog 29 #[v] w fun e w' => e = .returned (.bool (recB r)) /\ Tch No w w' := by
 have RE := Lib.hid (rec_eq r)
 obtain ⟨kd, tid, id, yes, parts, puts⟩ := r
 obtain ⟨vp, vu, rfl, hp, hu⟩ := h
 have hkd := hok.kind
 have hti := hok.tid
 have hid := hok.id
 simp only at hkd hti hid hp hu
 have HT1 := Lib.hid (fun W => rtid_any tid hti W)
 have HT2 := Lib.hid (fun W => rtid_any id hid W)
 have HR := Lib.hid (fun W h => rrising_any parts vp W h)
 have HC := Lib.hid (fun W h => rputs_any puts hok.puts vu W h)
 have HB := Lib.hid (fun W => rbroker_any (parts.headD 0) W)
 obtain ⟨ap, cp, hvp, hcp, hmp⟩ := CellsAt.shape hp
 obtain ⟨au, cu, hvu, hcu, hmu⟩ := CellsAt.shape hu
 have HP : Hid (IsInts w vp parts) := hp
 have HU : Hid (IsPuts w vu puts) := hu
 obtain ⟨np, hnp⟩ : ∃ n, parts.length = n := ⟨_, rfl⟩
 obtain ⟨nu, hnu⟩ : ∃ n, puts.length = n := ⟨_, rfl⟩
 have hbr0 : np = 0 -> risingB parts = true := fun e => by
  have : parts = [] := List.eq_nil_of_length_eq_zero (by omega)
  rw [this]; rfl
 have hbp0 : nu = 0 -> puts.all putB = true := fun e => by
  have : puts = [] := List.eq_nil_of_length_eq_zero (by omega)
  rw [this]; rfl
 have hbr1 : np = 1 -> risingB parts = brokerB (parts.headD 0) := fun e => by
  match parts, hnp with
  | [a], _ => simp [risingB, strictB]
  | [], h => simp at h; omega
  | a :: b :: r, h => simp at h; omega
 have HX : np = 1 -> ∃ b o, ap = some ⟨b, o, none⟩ /\ ∀ W, Tch No w W -> W.cell? ⟨b, o, none⟩ = some (.int .i64 (parts.headD 0)) := fun e => by
  rcases ints_cells hp with ⟨_, h0⟩ | ⟨b, o, cap2, h1, _, _, _, h5⟩
  ·subst h0; simp at hnp; omega
  ·rw [hvp] at h1
   injection h1 with h1 _ _
   refine ⟨b, o, h1, fun W T => ?_⟩
   have := T.cell (h5 0 (by omega)) (fun h => h)
   have e0 : parts.headD 0 = parts[0]'(by omega) := by
    cases parts with
    | nil => simp at hnp; omega
    | cons a r => rfl
   rw [e0]
   simpa using this
 have HXX := Lib.hid HX
 have H01 := Lib.hid hbr0
 have H02 := Lib.hid hbp0
 have H03 := Lib.hid hbr1
 clear hp hu hok hkd hti hid hcp hmp hcu hmu hbr0 hbp0 hbr1 HX
 simp only [qidM, qyesM, hnp, hnu] at RE
 rw [hnp] at hvp
 rw [hnu] at hvu
 simp only [hnp] at HR
 simp only [hnu] at HC
 clear hnp hnu
 subst hvp hvu
 generalize recB _ = rb at RE ⊢
 generalize risingB parts = br at RE HR H01 H03
 generalize puts.all putB = bp at RE HC H02
 generalize tidB tid = bt at RE HT1
 generalize tidB id = bi at RE HT2
 generalize parts.headD 0 = hd at HB HXX H03
 generalize brokerB hd = bh at HB H03
 cases bt with
 | false =>
  have HE : Hid (rb = false) := by rw [Hid, RE.out]; simp
  go_enter Tryz.func29, Tryz.ntmps29
  go_wp2_with (go_at_call 57; refine (HT1.out _).mono ?_; rintro e w' ⟨rfl, rfl⟩)
  go_ret
  exact ⟨ret_b HE.out.symm, Tch.alloc _ _⟩
 | true =>
  go_enter Tryz.func29, Tryz.ntmps29
  by_cases hk : 1 <= kd /\ kd <= 9
  ·have hc : kd = 1 ∨ kd = 2 ∨ kd = 3 ∨ kd = 4 ∨ kd = 5 ∨ kd = 6 ∨ kd = 7 ∨ kd = 8 ∨ kd = 9 := by omega
   clear hk
   rcases hc with k | k | k | k | k | k | k | k | k <;> subst k
   ·by_cases hid0 : ¬ id = 0
    ·have hd1 : (id == 0) = false := by simpa using hid0
     have HE : Hid (rb = false) := by
      rw [Hid, RE.out]; simp [loM, hiM, npM] <;> grind
     go_wp2_with (go_at_call 57; refine (HT1.out _).mono ?_; rintro e w' ⟨rfl, rfl⟩)
     go_ret
     exact ⟨ret_b HE.out.symm, Tch.alloc _ _⟩
    have hid1 : id = 0 := by omega
    clear hid0
    subst hid1
    cases yes with
    | true =>
     have HE : Hid (rb = false) := by
      rw [Hid, RE.out]; simp [loM, hiM, npM] <;> grind
     go_wp2_with (go_at_call 57; refine (HT1.out _).mono ?_; rintro e w' ⟨rfl, rfl⟩)
     go_ret
     exact ⟨ret_b HE.out.symm, Tch.alloc _ _⟩
    | false =>
     by_cases hnu : 0 < nu
     ·have hn2 : ¬ nu <= 0 := by omega
      have HE : Hid (rb = false) := by
       rw [Hid, RE.out]; simp [loM, hiM, npM] <;> grind
      go_wp2_with (go_at_call 57; refine (HT1.out _).mono ?_; rintro e w' ⟨rfl, rfl⟩)
      go_ret
      exact ⟨ret_b HE.out.symm, Tch.alloc _ _⟩
     obtain rfl : nu = 0 := by omega
     have hbp := H02.out rfl
     subst hbp
     by_cases hnp : 0 < np
     ·have hn2 : ¬ np <= 0 := by omega
      have HE : Hid (rb = false) := by
       rw [Hid, RE.out]; simp [loM, hiM, npM] <;> grind
      go_wp2_with (go_at_call 57; refine (HT1.out _).mono ?_; rintro e w' ⟨rfl, rfl⟩)
      go_ret
      exact ⟨ret_b HE.out.symm, Tch.alloc _ _⟩
     obtain rfl : np = 0 := by omega
     have hbr := H01.out rfl
     subst hbr
     have HE : Hid (rb = true) := by
      rw [Hid, RE.out]; simp [loM, hiM, npM] <;> grind
     go_wp2_with (go_at_call 57; refine (HT1.out _).mono ?_; rintro e w' ⟨rfl, rfl⟩)
     go_ret
     exact ⟨ret_b HE.out.symm, Tch.alloc _ _⟩
   ·cases yes with
    | true =>
     have HE : Hid (rb = false) := by
      rw [Hid, RE.out]; simp [loM, hiM, npM] <;> grind
     go_wp2_with (go_at_call 57; refine (HT1.out _).mono ?_; rintro e w' ⟨rfl, rfl⟩)
     go_ret
     exact ⟨ret_b HE.out.symm, Tch.alloc _ _⟩
    | false =>
     by_cases hnu : 0 < nu
     ·have hn2 : ¬ nu <= 0 := by omega
      have HE : Hid (rb = false) := by
       rw [Hid, RE.out]; simp [loM, hiM, npM] <;> grind
      go_wp2_with (go_at_call 57; refine (HT1.out _).mono ?_; rintro e w' ⟨rfl, rfl⟩)
      go_ret
      exact ⟨ret_b HE.out.symm, Tch.alloc _ _⟩
     obtain rfl : nu = 0 := by omega
     have hbp := H02.out rfl
     subst hbp
     by_cases hnp : 0 < np
     ·have hn2 : ¬ np <= 0 := by omega
      have HE : Hid (rb = false) := by
       rw [Hid, RE.out]; simp [loM, hiM, npM] <;> grind
      go_wp2_with (go_at_call 57; refine (HT1.out _).mono ?_; rintro e w' ⟨rfl, rfl⟩)
      go_ret
      exact ⟨ret_b HE.out.symm, Tch.alloc _ _⟩
     obtain rfl : np = 0 := by omega
     have hbr := H01.out rfl
     subst hbr
     have HE : Hid (rb = bi) := by
      rw [Hid, RE.out]; simp [loM, hiM, npM] <;> grind
     go_wp2_with (first | (go_at_call 57; with_reducible refine (HT1.out _).mono ?_; rintro e w' ⟨rfl, rfl⟩) | (go_at_call 57; with_reducible refine (HT2.out _).mono ?_; rintro e w' ⟨rfl, rfl⟩))
     go_ret
     exact ⟨ret_b HE.out.symm, Tch.alloc _ _⟩
   ·by_cases hid0 : ¬ id = 0
    ·have hd1 : (id == 0) = false := by simpa using hid0
     have HE : Hid (rb = false) := by
      rw [Hid, RE.out]; simp [loM, hiM, npM] <;> grind
     go_wp2_with (go_at_call 57; refine (HT1.out _).mono ?_; rintro e w' ⟨rfl, rfl⟩)
     go_ret
     exact ⟨ret_b HE.out.symm, Tch.alloc _ _⟩
    have hid1 : id = 0 := by omega
    clear hid0
    subst hid1
    cases yes with
    | true =>
     have HE : Hid (rb = false) := by
      rw [Hid, RE.out]; simp [loM, hiM, npM] <;> grind
     go_wp2_with (go_at_call 57; refine (HT1.out _).mono ?_; rintro e w' ⟨rfl, rfl⟩)
     go_ret
     exact ⟨ret_b HE.out.symm, Tch.alloc _ _⟩
    | false =>
     by_cases hnu : 0 < nu
     ·have hn2 : ¬ nu <= 0 := by omega
      have HE : Hid (rb = false) := by
       rw [Hid, RE.out]; simp [loM, hiM, npM] <;> grind
      go_wp2_with (go_at_call 57; refine (HT1.out _).mono ?_; rintro e w' ⟨rfl, rfl⟩)
      go_ret
      exact ⟨ret_b HE.out.symm, Tch.alloc _ _⟩
     obtain rfl : nu = 0 := by omega
     have hbp := H02.out rfl
     subst hbp
     by_cases hnp : 0 < np
     ·have hn2 : ¬ np <= 0 := by omega
      have HE : Hid (rb = false) := by
       rw [Hid, RE.out]; simp [loM, hiM, npM] <;> grind
      go_wp2_with (go_at_call 57; refine (HT1.out _).mono ?_; rintro e w' ⟨rfl, rfl⟩)
      go_ret
      exact ⟨ret_b HE.out.symm, Tch.alloc _ _⟩
     obtain rfl : np = 0 := by omega
     have hbr := H01.out rfl
     subst hbr
     have HE : Hid (rb = true) := by
      rw [Hid, RE.out]; simp [loM, hiM, npM] <;> grind
     go_wp2_with (go_at_call 57; refine (HT1.out _).mono ?_; rintro e w' ⟨rfl, rfl⟩)
     go_ret
     exact ⟨ret_b HE.out.symm, Tch.alloc _ _⟩
   ·by_cases hid0 : ¬ id = 0
    ·have hd1 : (id == 0) = false := by simpa using hid0
     have HE : Hid (rb = false) := by
      rw [Hid, RE.out]; simp [loM, hiM, npM] <;> grind
     go_wp2_with (go_at_call 57; refine (HT1.out _).mono ?_; rintro e w' ⟨rfl, rfl⟩)
     go_ret
     exact ⟨ret_b HE.out.symm, Tch.alloc _ _⟩
    have hid1 : id = 0 := by omega
    clear hid0
    subst hid1
    cases yes with
    | true =>
     have HE : Hid (rb = false) := by
      rw [Hid, RE.out]; simp [loM, hiM, npM] <;> grind
     go_wp2_with (go_at_call 57; refine (HT1.out _).mono ?_; rintro e w' ⟨rfl, rfl⟩)
     go_ret
     exact ⟨ret_b HE.out.symm, Tch.alloc _ _⟩
    | false =>
     by_cases hnp : 0 < np
     ·have hn2 : ¬ np <= 0 := by omega
      have HE : Hid (rb = false) := by
       rw [Hid, RE.out]; simp [loM, hiM, npM] <;> grind
      go_wp2_with (go_at_call 57; refine (HT1.out _).mono ?_; rintro e w' ⟨rfl, rfl⟩)
      go_ret
      exact ⟨ret_b HE.out.symm, Tch.alloc _ _⟩
     obtain rfl : np = 0 := by omega
     have hbr := H01.out rfl
     subst hbr
     have HE : Hid (rb = (bp && decide ((nu : Int) <= 10))) := by
      rw [Hid, RE.out]; simp [loM, hiM, npM] <;> grind
     go_wp2_with (first | (go_at_call 57; refine (HT1.out _).mono ?_; rintro e w' ⟨rfl, rfl⟩) | (go_at_call 59; refine (HC.out _ (HU.out.keep (Tch.alloc _ _))).mono ?_; rintro e w' ⟨rfl, T2⟩))
     go_ret
     exact ⟨ret_b HE.out.symm, (Tch.alloc _ _).trans0 T2⟩
   ·by_cases hid0 : ¬ id = 0
    ·have hd1 : (id == 0) = false := by simpa using hid0
     have HE : Hid (rb = false) := by
      rw [Hid, RE.out]; simp [loM, hiM, npM] <;> grind
     go_wp2_with (go_at_call 57; refine (HT1.out _).mono ?_; rintro e w' ⟨rfl, rfl⟩)
     go_ret
     exact ⟨ret_b HE.out.symm, Tch.alloc _ _⟩
    have hid1 : id = 0 := by omega
    clear hid0
    subst hid1
    by_cases hnu : 0 < nu
    ·have hn2 : ¬ nu <= 0 := by omega
     have HE : Hid (rb = false) := by
      rw [Hid, RE.out]; simp [loM, hiM, npM] <;> grind
     go_wp2_with (go_at_call 57; refine (HT1.out _).mono ?_; rintro e w' ⟨rfl, rfl⟩)
     go_ret
     exact ⟨ret_b HE.out.symm, Tch.alloc _ _⟩
    obtain rfl : nu = 0 := by omega
    have hbp := H02.out rfl
    subst hbp
    by_cases hnp : 0 < np
    ·have hn2 : ¬ np <= 0 := by omega
     have HE : Hid (rb = false) := by
      rw [Hid, RE.out]; simp [loM, hiM, npM] <;> grind
     go_wp2_with (go_at_call 57; refine (HT1.out _).mono ?_; rintro e w' ⟨rfl, rfl⟩)
     go_ret
     exact ⟨ret_b HE.out.symm, Tch.alloc _ _⟩
    obtain rfl : np = 0 := by omega
    have hbr := H01.out rfl
    subst hbr
    have HE : Hid (rb = true) := by
     rw [Hid, RE.out]; simp [loM, hiM, npM] <;> grind
    go_wp2_with (go_at_call 57; refine (HT1.out _).mono ?_; rintro e w' ⟨rfl, rfl⟩)
    go_ret
    exact ⟨ret_b HE.out.symm, Tch.alloc _ _⟩
   ·by_cases hid0 : ¬ id = 0
    ·have hd1 : (id == 0) = false := by simpa using hid0
     have HE : Hid (rb = false) := by
      rw [Hid, RE.out]; simp [loM, hiM, npM] <;> grind
     go_wp2_with (go_at_call 57; refine (HT1.out _).mono ?_; rintro e w' ⟨rfl, rfl⟩)
     go_ret
     exact ⟨ret_b HE.out.symm, Tch.alloc _ _⟩
    have hid1 : id = 0 := by omega
    clear hid0
    subst hid1
    cases yes with
    | true =>
     have HE : Hid (rb = false) := by
      rw [Hid, RE.out]; simp [loM, hiM, npM] <;> grind
     go_wp2_with (go_at_call 57; refine (HT1.out _).mono ?_; rintro e w' ⟨rfl, rfl⟩)
     go_ret
     exact ⟨ret_b HE.out.symm, Tch.alloc _ _⟩
    | false =>
     by_cases hnu : 0 < nu
     ·have hn2 : ¬ nu <= 0 := by omega
      have HE : Hid (rb = false) := by
       rw [Hid, RE.out]; simp [loM, hiM, npM] <;> grind
      go_wp2_with (go_at_call 57; refine (HT1.out _).mono ?_; rintro e w' ⟨rfl, rfl⟩)
      go_ret
      exact ⟨ret_b HE.out.symm, Tch.alloc _ _⟩
     obtain rfl : nu = 0 := by omega
     have hbp := H02.out rfl
     subst hbp
     by_cases hnp : 0 < np
     ·have hn2 : 1 <= np := hnp
      have HE : Hid (rb = (br && decide ((np : Int) <= 7))) := by
       rw [Hid, RE.out]; simp [loM, hiM, npM] <;> grind
      go_wp2_with (first | (go_at_call 57; refine (HT1.out _).mono ?_; rintro e w' ⟨rfl, rfl⟩) | (go_at_call 92; refine (HR.out _ (HP.out.keep (Tch.alloc _ _))).mono ?_; rintro e w' ⟨rfl, T2⟩))
      go_ret
      exact ⟨ret_b HE.out.symm, (Tch.alloc _ _).trans0 T2⟩
     obtain rfl : np = 0 := by omega
     have HE : Hid (rb = false) := by
      rw [Hid, RE.out]; simp [loM, hiM, npM] <;> grind
     go_wp2_with (first | (go_at_call 57; refine (HT1.out _).mono ?_; rintro e w' ⟨rfl, rfl⟩) | (go_at_call 92; refine (HR.out _ (HP.out.keep (Tch.alloc _ _))).mono ?_; rintro e w' ⟨rfl, T2⟩))
     go_ret
     exact ⟨ret_b HE.out.symm, Tch.alloc _ _⟩
   ·by_cases hid0 : ¬ id = 0
    ·have hd1 : (id == 0) = false := by simpa using hid0
     have HE : Hid (rb = false) := by
      rw [Hid, RE.out]; simp [loM, hiM, npM] <;> grind
     go_wp2_with (go_at_call 57; refine (HT1.out _).mono ?_; rintro e w' ⟨rfl, rfl⟩)
     go_ret
     exact ⟨ret_b HE.out.symm, Tch.alloc _ _⟩
    have hid1 : id = 0 := by omega
    clear hid0
    subst hid1
    cases yes with
    | true =>
     have HE : Hid (rb = false) := by
      rw [Hid, RE.out]; simp [loM, hiM, npM] <;> grind
     go_wp2_with (go_at_call 57; refine (HT1.out _).mono ?_; rintro e w' ⟨rfl, rfl⟩)
     go_ret
     exact ⟨ret_b HE.out.symm, Tch.alloc _ _⟩
    | false =>
     by_cases hnp : 0 < np
     ·have hn2 : ¬ np <= 0 := by omega
      have HE : Hid (rb = false) := by
       rw [Hid, RE.out]; simp [loM, hiM, npM] <;> grind
      go_wp2_with (go_at_call 57; refine (HT1.out _).mono ?_; rintro e w' ⟨rfl, rfl⟩)
      go_ret
      exact ⟨ret_b HE.out.symm, Tch.alloc _ _⟩
     obtain rfl : np = 0 := by omega
     have hbr := H01.out rfl
     subst hbr
     have HE : Hid (rb = (bp && decide ((nu : Int) <= 10))) := by
      rw [Hid, RE.out]; simp [loM, hiM, npM] <;> grind
     go_wp2_with (first | (go_at_call 57; refine (HT1.out _).mono ?_; rintro e w' ⟨rfl, rfl⟩) | (go_at_call 59; refine (HC.out _ (HU.out.keep (Tch.alloc _ _))).mono ?_; rintro e w' ⟨rfl, T2⟩))
     go_ret
     exact ⟨ret_b HE.out.symm, (Tch.alloc _ _).trans0 T2⟩
   ·by_cases hid0 : ¬ id = 0
    ·have hd1 : (id == 0) = false := by simpa using hid0
     have HE : Hid (rb = false) := by
      rw [Hid, RE.out]; simp [loM, hiM, npM] <;> grind
     go_wp2_with (go_at_call 57; refine (HT1.out _).mono ?_; rintro e w' ⟨rfl, rfl⟩)
     go_ret
     exact ⟨ret_b HE.out.symm, Tch.alloc _ _⟩
    have hid1 : id = 0 := by omega
    clear hid0
    subst hid1
    cases yes with
    | true =>
     have HE : Hid (rb = false) := by
      rw [Hid, RE.out]; simp [loM, hiM, npM] <;> grind
     go_wp2_with (go_at_call 57; refine (HT1.out _).mono ?_; rintro e w' ⟨rfl, rfl⟩)
     go_ret
     exact ⟨ret_b HE.out.symm, Tch.alloc _ _⟩
    | false =>
     by_cases hnu : 0 < nu
     ·have hn2 : ¬ nu <= 0 := by omega
      have HE : Hid (rb = false) := by
       rw [Hid, RE.out]; simp [loM, hiM, npM] <;> grind
      go_wp2_with (go_at_call 57; refine (HT1.out _).mono ?_; rintro e w' ⟨rfl, rfl⟩)
      go_ret
      exact ⟨ret_b HE.out.symm, Tch.alloc _ _⟩
     obtain rfl : nu = 0 := by omega
     have hbp := H02.out rfl
     subst hbp
     have HE : Hid (rb = (br && decide ((np : Int) <= 7))) := by
      rw [Hid, RE.out]; simp [loM, hiM, npM] <;> grind
     go_wp2_with (first | (go_at_call 57; refine (HT1.out _).mono ?_; rintro e w' ⟨rfl, rfl⟩) | (go_at_call 92; refine (HR.out _ (HP.out.keep (Tch.alloc _ _))).mono ?_; rintro e w' ⟨rfl, T2⟩))
     go_ret
     exact ⟨ret_b HE.out.symm, (Tch.alloc _ _).trans0 T2⟩
   ·by_cases hid0 : ¬ id = 0
    ·have hd1 : (id == 0) = false := by simpa using hid0
     have HE : Hid (rb = false) := by
      rw [Hid, RE.out]; simp [loM, hiM, npM] <;> grind
     go_wp2_with (go_at_call 57; refine (HT1.out _).mono ?_; rintro e w' ⟨rfl, rfl⟩)
     go_ret
     exact ⟨ret_b HE.out.symm, Tch.alloc _ _⟩
    have hid1 : id = 0 := by omega
    clear hid0
    subst hid1
    cases yes with
    | true =>
     have HE : Hid (rb = false) := by
      rw [Hid, RE.out]; simp [loM, hiM, npM] <;> grind
     go_wp2_with (go_at_call 57; refine (HT1.out _).mono ?_; rintro e w' ⟨rfl, rfl⟩)
     go_ret
     exact ⟨ret_b HE.out.symm, Tch.alloc _ _⟩
    | false =>
     by_cases hnu : 0 < nu
     ·have hn2 : ¬ nu <= 0 := by omega
      have HE : Hid (rb = false) := by
       rw [Hid, RE.out]; simp [loM, hiM, npM] <;> grind
      go_wp2_with (go_at_call 57; refine (HT1.out _).mono ?_; rintro e w' ⟨rfl, rfl⟩)
      go_ret
      exact ⟨ret_b HE.out.symm, Tch.alloc _ _⟩
     obtain rfl : nu = 0 := by omega
     have hbp := H02.out rfl
     subst hbp
     by_cases hnp : np = 1
     ·subst hnp
      obtain ⟨b, o, rfl, hcb⟩ := HXX.out rfl
      have hcx := hcb _ (Tch.alloc w (.cells #[.int .i64 9, .int .i64 tid, .int .i64 0, .bool false, .slice (some ⟨b, o, none⟩) 1 cp, .slice au 0 cu] 37))
      clear hcb
      have h03 := H03.out rfl
      subst h03
      have HE : Hid (rb = br) := by
       rw [Hid, RE.out]; simp [loM, hiM, npM] <;> grind
      go_wp2_with (first | (go_at_call 57; refine (HT1.out _).mono ?_; rintro e w' ⟨rfl, rfl⟩) | (go_at_call 53; refine (HB.out _).mono ?_; rintro e w' ⟨rfl, rfl⟩))
      go_ret
      exact ⟨ret_b HE.out.symm, Tch.alloc _ _⟩
     have hn2 : ¬ (np : Int) = 1 := by omega
     have HE : Hid (rb = false) := by
      rw [Hid, RE.out]; simp [loM, hiM, npM] <;> grind
     go_wp2_with (go_at_call 57; refine (HT1.out _).mono ?_; rintro e w' ⟨rfl, rfl⟩)
     go_ret
     exact ⟨ret_b HE.out.symm, Tch.alloc _ _⟩
  ·have n1 : (kd == 1) = false := beq_eq_false_iff_ne.2 (by omega)
   have m1 : (kd != 1) = true := bne_iff_ne.2 (by omega)
   have n2 : (kd == 2) = false := beq_eq_false_iff_ne.2 (by omega)
   have m2 : (kd != 2) = true := bne_iff_ne.2 (by omega)
   have n3 : (kd == 3) = false := beq_eq_false_iff_ne.2 (by omega)
   have m3 : (kd != 3) = true := bne_iff_ne.2 (by omega)
   have n4 : (kd == 4) = false := beq_eq_false_iff_ne.2 (by omega)
   have m4 : (kd != 4) = true := bne_iff_ne.2 (by omega)
   have n5 : (kd == 5) = false := beq_eq_false_iff_ne.2 (by omega)
   have m5 : (kd != 5) = true := bne_iff_ne.2 (by omega)
   have n6 : (kd == 6) = false := beq_eq_false_iff_ne.2 (by omega)
   have m6 : (kd != 6) = true := bne_iff_ne.2 (by omega)
   have n7 : (kd == 7) = false := beq_eq_false_iff_ne.2 (by omega)
   have m7 : (kd != 7) = true := bne_iff_ne.2 (by omega)
   have n8 : (kd == 8) = false := beq_eq_false_iff_ne.2 (by omega)
   have m8 : (kd != 8) = true := bne_iff_ne.2 (by omega)
   have n9 : (kd == 9) = false := beq_eq_false_iff_ne.2 (by omega)
   have m9 : (kd != 9) = true := bne_iff_ne.2 (by omega)
   rw [decide_eq_false hk] at RE
   clear hk
   by_cases hid0 : ¬ id = 0
   ·have hd1 : (id == 0) = false := by simpa using hid0
    have HE : Hid (rb = false) := by
     rw [Hid, RE.out]; rfl
    go_wp2_with (go_at_call 57; refine (HT1.out _).mono ?_; rintro e w' ⟨rfl, rfl⟩)
    all_goals (go_ret; exact ⟨ret_b HE.out.symm, Tch.alloc _ _⟩)
   have hid1 : id = 0 := by omega
   clear hid0
   subst hid1
   cases yes with
   | true =>
    have HE : Hid (rb = false) := by
     rw [Hid, RE.out]; rfl
    go_wp2_with (go_at_call 57; refine (HT1.out _).mono ?_; rintro e w' ⟨rfl, rfl⟩)
    all_goals (go_ret; exact ⟨ret_b HE.out.symm, Tch.alloc _ _⟩)
   | false =>
    by_cases hnu : 0 < nu
    ·have hn2 : ¬ nu <= 0 := by omega
     have HE : Hid (rb = false) := by
      rw [Hid, RE.out]; rfl
     go_wp2_with (go_at_call 57; refine (HT1.out _).mono ?_; rintro e w' ⟨rfl, rfl⟩)
     all_goals (go_ret; exact ⟨ret_b HE.out.symm, Tch.alloc _ _⟩)
    obtain rfl : nu = 0 := by omega
    have hbp := H02.out rfl
    subst hbp
    by_cases hnp : 0 < np
    ·have hn2 : ¬ np <= 0 := by omega
     have HE : Hid (rb = false) := by
      rw [Hid, RE.out]; rfl
     go_wp2_with (go_at_call 57; refine (HT1.out _).mono ?_; rintro e w' ⟨rfl, rfl⟩)
     all_goals (go_ret; exact ⟨ret_b HE.out.symm, Tch.alloc _ _⟩)
    obtain rfl : np = 0 := by omega
    have hbr := H01.out rfl
    subst hbr
    have HE : Hid (rb = false) := by
     rw [Hid, RE.out]; rfl
    go_wp2_with (go_at_call 57; refine (HT1.out _).mono ?_; rintro e w' ⟨rfl, rfl⟩)
    all_goals (go_ret; exact ⟨ret_b HE.out.symm, Tch.alloc _ _⟩)
end
section
open Go.RowKit Go.Maps
theorem find_at {α : Type} (f : α -> Int) (l : List α) (t : Int) : (hasP f l t = false /\ atI f l t = -1 /\ l.find? (fun x => decide (f x = t)) = none) ∨ ∃ k, ∃ h : k < l.length, hasP f l t = true /\ atI f l t = (k : Int) /\ l.find? (fun x => decide (f x = t)) = some l[k] := by
 rcases atI_cases f l t with ⟨h1, h2⟩ | ⟨k, hk, h1, h2, h3, h4⟩
 ·left
  refine ⟨h1, h2, ?_⟩
  rw [List.find?_eq_none]
  intro x hx hd
  have : hasP f l t = true := hasP_iff.2 ⟨x, hx, by simpa using hd⟩
  rw [h1] at this; cases this
 ·right
  refine ⟨k, hk, h3, h1, ?_⟩
  rw [List.find?_eq_some_iff_getElem]
  exact ⟨by simpa using h2, k, hk, rfl, fun j hj => by simpa using h4 j (by omega) hj⟩
end
end Go.Proofs.YtelaljoebdpicaaGreat
