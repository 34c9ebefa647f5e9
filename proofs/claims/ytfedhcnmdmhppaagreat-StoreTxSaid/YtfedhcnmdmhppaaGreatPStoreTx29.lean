/- Part 29 of what the proof of StoreTx rests on. No condition. -/
import Derived.Test.YtfedhcnmdmhppaaGreatPStoreTx04
import Derived.Test.YtfedhcnmdmhppaaGreatPStoreTx26
import Derived.Test.YtfedhcnmdmhppaaGreatPStoreTx28
namespace Go.Proofs.YtfedhcnmdmhppaaGreat
set_option maxRecDepth 100000
set_option maxHeartbeats 60000000
set_option linter.unusedVariables false
set_option linter.unusedSimpArgs false
section
open Go.RowKit Go.Maps
theorem rrecord_any (r : RecM) (hok : OkRec r) (v : Value) (w : World) (h : IsRec w v r) :
  Calls Tryz.prog 34 #[v] w fun e w' => e = .returned (.bool (recB r)) /\ Tch No w w' := by
 have RE := Lib.hid (rec_eq r)
 obtain ⟨kd, tid, id, yes, parts, puts⟩ := r
 obtain ⟨vp, vu, rfl, hp, hu⟩ := h
 have hkd := hok.kind
 have hti := hok.tid
 have hid := hok.id
 simp only at hkd hti hid hp hu
 have HT1 := Lib.hid (fun W => rtid_any tid hti W)
 have HT2 := Lib.hid (fun W => rtid_any id hid W)
 have HR := Lib.hid (fun W h => rrising_any parts vp W h)
 have HC := Lib.hid (fun W h => rputs_any puts hok.puts vu W h)
 have HB := Lib.hid (fun W => rbroker_any (parts.headD 0) W)
 obtain ⟨ap, cp, hvp, hcp, hmp⟩ := CellsAt.shape hp
 obtain ⟨au, cu, hvu, hcu, hmu⟩ := CellsAt.shape hu
 have HP : Hid (IsInts w vp parts) := hp
 have HU : Hid (IsPuts w vu puts) := hu
 obtain ⟨np, hnp⟩ : ∃ n, parts.length = n := ⟨_, rfl⟩
 obtain ⟨nu, hnu⟩ : ∃ n, puts.length = n := ⟨_, rfl⟩
 have hbr0 : np = 0 -> risingB parts = true := fun e => by
  have : parts = [] := List.eq_nil_of_length_eq_zero (by omega)
  rw [this]; rfl
 have hbp0 : nu = 0 -> puts.all putB = true := fun e => by
  have : puts = [] := List.eq_nil_of_length_eq_zero (by omega)
  rw [this]; rfl
 have hbr1 : np = 1 -> risingB parts = brokerB (parts.headD 0) := fun e => by
  match parts, hnp with
  | [a], _ => simp [risingB, strictB]
  | [], h => simp at h; omega
  | a :: b :: r, h => simp at h; omega
 have HX : np = 1 -> ∃ b o, ap = some ⟨b, o, none⟩ /\ ∀ W, Tch No w W -> W.cell? ⟨b, o, none⟩ = some (.int .i64 (parts.headD 0)) := fun e => by
  rcases ints_cells hp with ⟨_, h0⟩ | ⟨b, o, cap2, h1, _, _, _, h5⟩
  ·subst h0; simp at hnp; omega
  ·rw [hvp] at h1
   injection h1 with h1 _ _
   refine ⟨b, o, h1, fun W T => ?_⟩
   have := T.cell (h5 0 (by omega)) (fun h => h)
   have e0 : parts.headD 0 = parts[0]'(by omega) := by
    cases parts with
    | nil => simp at hnp; omega
    | cons a r => rfl
   rw [e0]
   simpa using this
 have HXX := Lib.hid HX
 have H01 := Lib.hid hbr0
 have H02 := Lib.hid hbp0
 have H03 := Lib.hid hbr1
 clear hp hu hok hkd hti hid hcp hmp hcu hmu hbr0 hbp0 hbr1 HX
 simp only [qidM, qyesM, hnp, hnu] at RE
 rw [hnp] at hvp
 rw [hnu] at hvu
 simp only [hnp] at HR
 simp only [hnu] at HC
 clear hnp hnu
 subst hvp hvu
 generalize recB _ = rb at RE ⊢
 generalize risingB parts = br at RE HR H01 H03
 generalize puts.all putB = bp at RE HC H02
 generalize tidB tid = bt at RE HT1
 generalize tidB id = bi at RE HT2
 generalize parts.headD 0 = hd at HB HXX H03
 generalize brokerB hd = bh at HB H03
 cases bt with
 | false =>
  have HE : Hid (rb = false) := by rw [Hid, RE.out]; simp
  go_enter Tryz.func34, Tryz.ntmps34
  go_wp2_with (go_at_call 61; refine (HT1.out _).mono ?_; rintro e w' ⟨rfl, rfl⟩)
  go_ret
  exact ⟨ret_b HE.out.symm, Tch.alloc _ _⟩
 | true =>
  go_enter Tryz.func34, Tryz.ntmps34
  by_cases hk : 1 <= kd /\ kd <= 9
  ·have hc : kd = 1 ∨ kd = 2 ∨ kd = 3 ∨ kd = 4 ∨ kd = 5 ∨ kd = 6 ∨ kd = 7 ∨ kd = 8 ∨ kd = 9 := by omega
   clear hk
   rcases hc with k | k | k | k | k | k | k | k | k <;> subst k
   ·by_cases hid0 : ¬ id = 0
    ·have hd1 : (id == 0) = false := by simpa using hid0
     have HE : Hid (rb = false) := by
      rw [Hid, RE.out]; simp [loM, hiM, npM] <;> grind
     go_wp2_with (go_at_call 61; refine (HT1.out _).mono ?_; rintro e w' ⟨rfl, rfl⟩)
     go_ret
     exact ⟨ret_b HE.out.symm, Tch.alloc _ _⟩
    have hid1 : id = 0 := by omega
    clear hid0
    subst hid1
    cases yes with
    | true =>
     have HE : Hid (rb = false) := by
      rw [Hid, RE.out]; simp [loM, hiM, npM] <;> grind
     go_wp2_with (go_at_call 61; refine (HT1.out _).mono ?_; rintro e w' ⟨rfl, rfl⟩)
     go_ret
     exact ⟨ret_b HE.out.symm, Tch.alloc _ _⟩
    | false =>
     by_cases hnu : 0 < nu
     ·have hn2 : ¬ nu <= 0 := by omega
      have HE : Hid (rb = false) := by
       rw [Hid, RE.out]; simp [loM, hiM, npM] <;> grind
      go_wp2_with (go_at_call 61; refine (HT1.out _).mono ?_; rintro e w' ⟨rfl, rfl⟩)
      go_ret
      exact ⟨ret_b HE.out.symm, Tch.alloc _ _⟩
     obtain rfl : nu = 0 := by omega
     have hbp := H02.out rfl
     subst hbp
     by_cases hnp : 0 < np
     ·have hn2 : ¬ np <= 0 := by omega
      have HE : Hid (rb = false) := by
       rw [Hid, RE.out]; simp [loM, hiM, npM] <;> grind
      go_wp2_with (go_at_call 61; refine (HT1.out _).mono ?_; rintro e w' ⟨rfl, rfl⟩)
      go_ret
      exact ⟨ret_b HE.out.symm, Tch.alloc _ _⟩
     obtain rfl : np = 0 := by omega
     have hbr := H01.out rfl
     subst hbr
     have HE : Hid (rb = true) := by
      rw [Hid, RE.out]; simp [loM, hiM, npM] <;> grind
     go_wp2_with (go_at_call 61; refine (HT1.out _).mono ?_; rintro e w' ⟨rfl, rfl⟩)
     go_ret
     exact ⟨ret_b HE.out.symm, Tch.alloc _ _⟩
   ·cases yes with
    | true =>
     have HE : Hid (rb = false) := by
      rw [Hid, RE.out]; simp [loM, hiM, npM] <;> grind
     go_wp2_with (go_at_call 61; refine (HT1.out _).mono ?_; rintro e w' ⟨rfl, rfl⟩)
     go_ret
     exact ⟨ret_b HE.out.symm, Tch.alloc _ _⟩
    | false =>
     by_cases hnu : 0 < nu
     ·have hn2 : ¬ nu <= 0 := by omega
      have HE : Hid (rb = false) := by
       rw [Hid, RE.out]; simp [loM, hiM, npM] <;> grind
      go_wp2_with (go_at_call 61; refine (HT1.out _).mono ?_; rintro e w' ⟨rfl, rfl⟩)
      go_ret
      exact ⟨ret_b HE.out.symm, Tch.alloc _ _⟩
     obtain rfl : nu = 0 := by omega
     have hbp := H02.out rfl
     subst hbp
     by_cases hnp : 0 < np
     ·have hn2 : ¬ np <= 0 := by omega
      have HE : Hid (rb = false) := by
       rw [Hid, RE.out]; simp [loM, hiM, npM] <;> grind
      go_wp2_with (go_at_call 61; refine (HT1.out _).mono ?_; rintro e w' ⟨rfl, rfl⟩)
      go_ret
      exact ⟨ret_b HE.out.symm, Tch.alloc _ _⟩
     obtain rfl : np = 0 := by omega
     have hbr := H01.out rfl
     subst hbr
     have HE : Hid (rb = bi) := by
      rw [Hid, RE.out]; simp [loM, hiM, npM] <;> grind
     go_wp2_with (first | (go_at_call 61; with_reducible refine (HT1.out _).mono ?_; rintro e w' ⟨rfl, rfl⟩) | (go_at_call 61; with_reducible refine (HT2.out _).mono ?_; rintro e w' ⟨rfl, rfl⟩))
     go_ret
     exact ⟨ret_b HE.out.symm, Tch.alloc _ _⟩
   ·by_cases hid0 : ¬ id = 0
    ·have hd1 : (id == 0) = false := by simpa using hid0
     have HE : Hid (rb = false) := by
      rw [Hid, RE.out]; simp [loM, hiM, npM] <;> grind
     go_wp2_with (go_at_call 61; refine (HT1.out _).mono ?_; rintro e w' ⟨rfl, rfl⟩)
     go_ret
     exact ⟨ret_b HE.out.symm, Tch.alloc _ _⟩
    have hid1 : id = 0 := by omega
    clear hid0
    subst hid1
    cases yes with
    | true =>
     have HE : Hid (rb = false) := by
      rw [Hid, RE.out]; simp [loM, hiM, npM] <;> grind
     go_wp2_with (go_at_call 61; refine (HT1.out _).mono ?_; rintro e w' ⟨rfl, rfl⟩)
     go_ret
     exact ⟨ret_b HE.out.symm, Tch.alloc _ _⟩
    | false =>
     by_cases hnu : 0 < nu
     ·have hn2 : ¬ nu <= 0 := by omega
      have HE : Hid (rb = false) := by
       rw [Hid, RE.out]; simp [loM, hiM, npM] <;> grind
      go_wp2_with (go_at_call 61; refine (HT1.out _).mono ?_; rintro e w' ⟨rfl, rfl⟩)
      go_ret
      exact ⟨ret_b HE.out.symm, Tch.alloc _ _⟩
     obtain rfl : nu = 0 := by omega
     have hbp := H02.out rfl
     subst hbp
     by_cases hnp : 0 < np
     ·have hn2 : ¬ np <= 0 := by omega
      have HE : Hid (rb = false) := by
       rw [Hid, RE.out]; simp [loM, hiM, npM] <;> grind
      go_wp2_with (go_at_call 61; refine (HT1.out _).mono ?_; rintro e w' ⟨rfl, rfl⟩)
      go_ret
      exact ⟨ret_b HE.out.symm, Tch.alloc _ _⟩
     obtain rfl : np = 0 := by omega
     have hbr := H01.out rfl
     subst hbr
     have HE : Hid (rb = true) := by
      rw [Hid, RE.out]; simp [loM, hiM, npM] <;> grind
     go_wp2_with (go_at_call 61; refine (HT1.out _).mono ?_; rintro e w' ⟨rfl, rfl⟩)
     go_ret
     exact ⟨ret_b HE.out.symm, Tch.alloc _ _⟩
   ·by_cases hid0 : ¬ id = 0
    ·have hd1 : (id == 0) = false := by simpa using hid0
     have HE : Hid (rb = false) := by
      rw [Hid, RE.out]; simp [loM, hiM, npM] <;> grind
     go_wp2_with (go_at_call 61; refine (HT1.out _).mono ?_; rintro e w' ⟨rfl, rfl⟩)
     go_ret
     exact ⟨ret_b HE.out.symm, Tch.alloc _ _⟩
    have hid1 : id = 0 := by omega
    clear hid0
    subst hid1
    cases yes with
    | true =>
     have HE : Hid (rb = false) := by
      rw [Hid, RE.out]; simp [loM, hiM, npM] <;> grind
     go_wp2_with (go_at_call 61; refine (HT1.out _).mono ?_; rintro e w' ⟨rfl, rfl⟩)
     go_ret
     exact ⟨ret_b HE.out.symm, Tch.alloc _ _⟩
    | false =>
     by_cases hnp : 0 < np
     ·have hn2 : ¬ np <= 0 := by omega
      have HE : Hid (rb = false) := by
       rw [Hid, RE.out]; simp [loM, hiM, npM] <;> grind
      go_wp2_with (go_at_call 61; refine (HT1.out _).mono ?_; rintro e w' ⟨rfl, rfl⟩)
      go_ret
      exact ⟨ret_b HE.out.symm, Tch.alloc _ _⟩
     obtain rfl : np = 0 := by omega
     have hbr := H01.out rfl
     subst hbr
     have HE : Hid (rb = (bp && decide ((nu : Int) <= 10))) := by
      rw [Hid, RE.out]; simp [loM, hiM, npM] <;> grind
     go_wp2_with (first | (go_at_call 61; refine (HT1.out _).mono ?_; rintro e w' ⟨rfl, rfl⟩) | (go_at_call 63; refine (HC.out _ (HU.out.keep (Tch.alloc _ _))).mono ?_; rintro e w' ⟨rfl, T2⟩))
     go_ret
     exact ⟨ret_b HE.out.symm, (Tch.alloc _ _).trans0 T2⟩
   ·by_cases hid0 : ¬ id = 0
    ·have hd1 : (id == 0) = false := by simpa using hid0
     have HE : Hid (rb = false) := by
      rw [Hid, RE.out]; simp [loM, hiM, npM] <;> grind
     go_wp2_with (go_at_call 61; refine (HT1.out _).mono ?_; rintro e w' ⟨rfl, rfl⟩)
     go_ret
     exact ⟨ret_b HE.out.symm, Tch.alloc _ _⟩
    have hid1 : id = 0 := by omega
    clear hid0
    subst hid1
    by_cases hnu : 0 < nu
    ·have hn2 : ¬ nu <= 0 := by omega
     have HE : Hid (rb = false) := by
      rw [Hid, RE.out]; simp [loM, hiM, npM] <;> grind
     go_wp2_with (go_at_call 61; refine (HT1.out _).mono ?_; rintro e w' ⟨rfl, rfl⟩)
     go_ret
     exact ⟨ret_b HE.out.symm, Tch.alloc _ _⟩
    obtain rfl : nu = 0 := by omega
    have hbp := H02.out rfl
    subst hbp
    by_cases hnp : 0 < np
    ·have hn2 : ¬ np <= 0 := by omega
     have HE : Hid (rb = false) := by
      rw [Hid, RE.out]; simp [loM, hiM, npM] <;> grind
     go_wp2_with (go_at_call 61; refine (HT1.out _).mono ?_; rintro e w' ⟨rfl, rfl⟩)
     go_ret
     exact ⟨ret_b HE.out.symm, Tch.alloc _ _⟩
    obtain rfl : np = 0 := by omega
    have hbr := H01.out rfl
    subst hbr
    have HE : Hid (rb = true) := by
     rw [Hid, RE.out]; simp [loM, hiM, npM] <;> grind
    go_wp2_with (go_at_call 61; refine (HT1.out _).mono ?_; rintro e w' ⟨rfl, rfl⟩)
    go_ret
    exact ⟨ret_b HE.out.symm, Tch.alloc _ _⟩
   ·by_cases hid0 : ¬ id = 0
    ·have hd1 : (id == 0) = false := by simpa using hid0
     have HE : Hid (rb = false) := by
      rw [Hid, RE.out]; simp [loM, hiM, npM] <;> grind
     go_wp2_with (go_at_call 61; refine (HT1.out _).mono ?_; rintro e w' ⟨rfl, rfl⟩)
     go_ret
     exact ⟨ret_b HE.out.symm, Tch.alloc _ _⟩
    have hid1 : id = 0 := by omega
    clear hid0
    subst hid1
    cases yes with
    | true =>
     have HE : Hid (rb = false) := by
      rw [Hid, RE.out]; simp [loM, hiM, npM] <;> grind
     go_wp2_with (go_at_call 61; refine (HT1.out _).mono ?_; rintro e w' ⟨rfl, rfl⟩)
     go_ret
     exact ⟨ret_b HE.out.symm, Tch.alloc _ _⟩
    | false =>
     by_cases hnu : 0 < nu
     ·have hn2 : ¬ nu <= 0 := by omega
      have HE : Hid (rb = false) := by
       rw [Hid, RE.out]; simp [loM, hiM, npM] <;> grind
      go_wp2_with (go_at_call 61; refine (HT1.out _).mono ?_; rintro e w' ⟨rfl, rfl⟩)
      go_ret
      exact ⟨ret_b HE.out.symm, Tch.alloc _ _⟩
     obtain rfl : nu = 0 := by omega
     have hbp := H02.out rfl
     subst hbp
     by_cases hnp : 0 < np
     ·have hn2 : 1 <= np := hnp
      have HE : Hid (rb = (br && decide ((np : Int) <= 7))) := by
       rw [Hid, RE.out]; simp [loM, hiM, npM] <;> grind
      go_wp2_with (first | (go_at_call 61; refine (HT1.out _).mono ?_; rintro e w' ⟨rfl, rfl⟩) | (go_at_call 100; refine (HR.out _ (HP.out.keep (Tch.alloc _ _))).mono ?_; rintro e w' ⟨rfl, T2⟩))
      go_ret
      exact ⟨ret_b HE.out.symm, (Tch.alloc _ _).trans0 T2⟩
     obtain rfl : np = 0 := by omega
     have HE : Hid (rb = false) := by
      rw [Hid, RE.out]; simp [loM, hiM, npM] <;> grind
     go_wp2_with (first | (go_at_call 61; refine (HT1.out _).mono ?_; rintro e w' ⟨rfl, rfl⟩) | (go_at_call 100; refine (HR.out _ (HP.out.keep (Tch.alloc _ _))).mono ?_; rintro e w' ⟨rfl, T2⟩))
     go_ret
     exact ⟨ret_b HE.out.symm, Tch.alloc _ _⟩
   ·by_cases hid0 : ¬ id = 0
    ·have hd1 : (id == 0) = false := by simpa using hid0
     have HE : Hid (rb = false) := by
      rw [Hid, RE.out]; simp [loM, hiM, npM] <;> grind
     go_wp2_with (go_at_call 61; refine (HT1.out _).mono ?_; rintro e w' ⟨rfl, rfl⟩)
     go_ret
     exact ⟨ret_b HE.out.symm, Tch.alloc _ _⟩
    have hid1 : id = 0 := by omega
    clear hid0
    subst hid1
    cases yes with
    | true =>
     have HE : Hid (rb = false) := by
      rw [Hid, RE.out]; simp [loM, hiM, npM] <;> grind
     go_wp2_with (go_at_call 61; refine (HT1.out _).mono ?_; rintro e w' ⟨rfl, rfl⟩)
     go_ret
     exact ⟨ret_b HE.out.symm, Tch.alloc _ _⟩
    | false =>
     by_cases hnp : 0 < np
     ·have hn2 : ¬ np <= 0 := by omega
      have HE : Hid (rb = false) := by
       rw [Hid, RE.out]; simp [loM, hiM, npM] <;> grind
      go_wp2_with (go_at_call 61; refine (HT1.out _).mono ?_; rintro e w' ⟨rfl, rfl⟩)
      go_ret
      exact ⟨ret_b HE.out.symm, Tch.alloc _ _⟩
     obtain rfl : np = 0 := by omega
     have hbr := H01.out rfl
     subst hbr
     have HE : Hid (rb = (bp && decide ((nu : Int) <= 10))) := by
      rw [Hid, RE.out]; simp [loM, hiM, npM] <;> grind
     go_wp2_with (first | (go_at_call 61; refine (HT1.out _).mono ?_; rintro e w' ⟨rfl, rfl⟩) | (go_at_call 63; refine (HC.out _ (HU.out.keep (Tch.alloc _ _))).mono ?_; rintro e w' ⟨rfl, T2⟩))
     go_ret
     exact ⟨ret_b HE.out.symm, (Tch.alloc _ _).trans0 T2⟩
   ·by_cases hid0 : ¬ id = 0
    ·have hd1 : (id == 0) = false := by simpa using hid0
     have HE : Hid (rb = false) := by
      rw [Hid, RE.out]; simp [loM, hiM, npM] <;> grind
     go_wp2_with (go_at_call 61; refine (HT1.out _).mono ?_; rintro e w' ⟨rfl, rfl⟩)
     go_ret
     exact ⟨ret_b HE.out.symm, Tch.alloc _ _⟩
    have hid1 : id = 0 := by omega
    clear hid0
    subst hid1
    cases yes with
    | true =>
     have HE : Hid (rb = false) := by
      rw [Hid, RE.out]; simp [loM, hiM, npM] <;> grind
     go_wp2_with (go_at_call 61; refine (HT1.out _).mono ?_; rintro e w' ⟨rfl, rfl⟩)
     go_ret
     exact ⟨ret_b HE.out.symm, Tch.alloc _ _⟩
    | false =>
     by_cases hnu : 0 < nu
     ·have hn2 : ¬ nu <= 0 := by omega
      have HE : Hid (rb = false) := by
       rw [Hid, RE.out]; simp [loM, hiM, npM] <;> grind
      go_wp2_with (go_at_call 61; refine (HT1.out _).mono ?_; rintro e w' ⟨rfl, rfl⟩)
      go_ret
      exact ⟨ret_b HE.out.symm, Tch.alloc _ _⟩
     obtain rfl : nu = 0 := by omega
     have hbp := H02.out rfl
     subst hbp
     have HE : Hid (rb = (br && decide ((np : Int) <= 7))) := by
      rw [Hid, RE.out]; simp [loM, hiM, npM] <;> grind
     go_wp2_with (first | (go_at_call 61; refine (HT1.out _).mono ?_; rintro e w' ⟨rfl, rfl⟩) | (go_at_call 100; refine (HR.out _ (HP.out.keep (Tch.alloc _ _))).mono ?_; rintro e w' ⟨rfl, T2⟩))
     go_ret
     exact ⟨ret_b HE.out.symm, (Tch.alloc _ _).trans0 T2⟩
   ·by_cases hid0 : ¬ id = 0
    ·have hd1 : (id == 0) = false := by simpa using hid0
     have HE : Hid (rb = false) := by
      rw [Hid, RE.out]; simp [loM, hiM, npM] <;> grind
     go_wp2_with (go_at_call 61; refine (HT1.out _).mono ?_; rintro e w' ⟨rfl, rfl⟩)
     go_ret
     exact ⟨ret_b HE.out.symm, Tch.alloc _ _⟩
    have hid1 : id = 0 := by omega
    clear hid0
    subst hid1
    cases yes with
    | true =>
     have HE : Hid (rb = false) := by
      rw [Hid, RE.out]; simp [loM, hiM, npM] <;> grind
     go_wp2_with (go_at_call 61; refine (HT1.out _).mono ?_; rintro e w' ⟨rfl, rfl⟩)
     go_ret
     exact ⟨ret_b HE.out.symm, Tch.alloc _ _⟩
    | false =>
     by_cases hnu : 0 < nu
     ·have hn2 : ¬ nu <= 0 := by omega
      have HE : Hid (rb = false) := by
       rw [Hid, RE.out]; simp [loM, hiM, npM] <;> grind
      go_wp2_with (go_at_call 61; refine (HT1.out _).mono ?_; rintro e w' ⟨rfl, rfl⟩)
      go_ret
      exact ⟨ret_b HE.out.symm, Tch.alloc _ _⟩
     obtain rfl : nu = 0 := by omega
     have hbp := H02.out rfl
     subst hbp
     by_cases hnp : np = 1
     ·subst hnp
      obtain ⟨b, o, rfl, hcb⟩ := HXX.out rfl
      have hcx := hcb _ (Tch.alloc w (.cells #[.int .i64 9, .int .i64 tid, .int .i64 0, .bool false, .slice (some ⟨b, o, none⟩) 1 cp, .slice au 0 cu] 37))
      clear hcb
      have h03 := H03.out rfl
      subst h03
      have HE : Hid (rb = br) := by
       rw [Hid, RE.out]; simp [loM, hiM, npM] <;> grind
      go_wp2_with (first | (go_at_call 61; refine (HT1.out _).mono ?_; rintro e w' ⟨rfl, rfl⟩) | (go_at_call 57; refine (HB.out _).mono ?_; rintro e w' ⟨rfl, rfl⟩))
      go_ret
      exact ⟨ret_b HE.out.symm, Tch.alloc _ _⟩
     have hn2 : ¬ (np : Int) = 1 := by omega
     have HE : Hid (rb = false) := by
      rw [Hid, RE.out]; simp [loM, hiM, npM] <;> grind
     go_wp2_with (go_at_call 61; refine (HT1.out _).mono ?_; rintro e w' ⟨rfl, rfl⟩)
     go_ret
     exact ⟨ret_b HE.out.symm, Tch.alloc _ _⟩
  ·have n1 : (kd == 1) = false := beq_eq_false_iff_ne.2 (by omega)
   have m1 : (kd != 1) = true := bne_iff_ne.2 (by omega)
   have n2 : (kd == 2) = false := beq_eq_false_iff_ne.2 (by omega)
   have m2 : (kd != 2) = true := bne_iff_ne.2 (by omega)
   have n3 : (kd == 3) = false := beq_eq_false_iff_ne.2 (by omega)
   have m3 : (kd != 3) = true := bne_iff_ne.2 (by omega)
   have n4 : (kd == 4) = false := beq_eq_false_iff_ne.2 (by omega)
   have m4 : (kd != 4) = true := bne_iff_ne.2 (by omega)
   have n5 : (kd == 5) = false := beq_eq_false_iff_ne.2 (by omega)
   have m5 : (kd != 5) = true := bne_iff_ne.2 (by omega)
   have n6 : (kd == 6) = false := beq_eq_false_iff_ne.2 (by omega)
   have m6 : (kd != 6) = true := bne_iff_ne.2 (by omega)
   have n7 : (kd == 7) = false := beq_eq_false_iff_ne.2 (by omega)
   have m7 : (kd != 7) = true := bne_iff_ne.2 (by omega)
   have n8 : (kd == 8) = false := beq_eq_false_iff_ne.2 (by omega)
   have m8 : (kd != 8) = true := bne_iff_ne.2 (by omega)
   have n9 : (kd == 9) = false := beq_eq_false_iff_ne.2 (by omega)
   have m9 : (kd != 9) = true := bne_iff_ne.2 (by omega)
   rw [decide_eq_false hk] at RE
   clear hk
   by_cases hid0 : ¬ id = 0
   ·have hd1 : (id == 0) = false := by simpa using hid0
    have HE : Hid (rb = false) := by
     rw [Hid, RE.out]; rfl
    go_wp2_with (go_at_call 61; refine (HT1.out _).mono ?_; rintro e w' ⟨rfl, rfl⟩)
    all_goals (go_ret; exact ⟨ret_b HE.out.symm, Tch.alloc _ _⟩)
   have hid1 : id = 0 := by omega
   clear hid0
   subst hid1
   cases yes with
   | true =>
    have HE : Hid (rb = false) := by
     rw [Hid, RE.out]; rfl
    go_wp2_with (go_at_call 61; refine (HT1.out _).mono ?_; rintro e w' ⟨rfl, rfl⟩)
    all_goals (go_ret; exact ⟨ret_b HE.out.symm, Tch.alloc _ _⟩)
   | false =>
    by_cases hnu : 0 < nu
    ·have hn2 : ¬ nu <= 0 := by omega
     have HE : Hid (rb = false) := by
      rw [Hid, RE.out]; rfl
     go_wp2_with (go_at_call 61; refine (HT1.out _).mono ?_; rintro e w' ⟨rfl, rfl⟩)
     all_goals (go_ret; exact ⟨ret_b HE.out.symm, Tch.alloc _ _⟩)
    obtain rfl : nu = 0 := by omega
    have hbp := H02.out rfl
    subst hbp
    by_cases hnp : 0 < np
    ·have hn2 : ¬ np <= 0 := by omega
     have HE : Hid (rb = false) := by
      rw [Hid, RE.out]; rfl
     go_wp2_with (go_at_call 61; refine (HT1.out _).mono ?_; rintro e w' ⟨rfl, rfl⟩)
     all_goals (go_ret; exact ⟨ret_b HE.out.symm, Tch.alloc _ _⟩)
    obtain rfl : np = 0 := by omega
    have hbr := H01.out rfl
    subst hbr
    have HE : Hid (rb = false) := by
     rw [Hid, RE.out]; rfl
    go_wp2_with (go_at_call 61; refine (HT1.out _).mono ?_; rintro e w' ⟨rfl, rfl⟩)
    all_goals (go_ret; exact ⟨ret_b HE.out.symm, Tch.alloc _ _⟩)
end
section
open Go.RowKit Go.Maps
theorem find_at {α : Type} (f : α -> Int) (l : List α) (t : Int) : (hasP f l t = false /\ atI f l t = -1 /\ l.find? (fun x => decide (f x = t)) = none) ∨ ∃ k, ∃ h : k < l.length, hasP f l t = true /\ atI f l t = (k : Int) /\ l.find? (fun x => decide (f x = t)) = some l[k] := by
 rcases atI_cases f l t with ⟨h1, h2⟩ | ⟨k, hk, h1, h2, h3, h4⟩
 ·left
  refine ⟨h1, h2, ?_⟩
  rw [List.find?_eq_none]
  intro x hx hd
  have : hasP f l t = true := hasP_iff.2 ⟨x, hx, by simpa using hd⟩
  rw [h1] at this; cases this
 ·right
  refine ⟨k, hk, h3, h1, ?_⟩
  rw [List.find?_eq_some_iff_getElem]
  exact ⟨by simpa using h2, k, hk, rfl, fun j hj => by simpa using h4 j (by omega) hj⟩
theorem rcan1 (s : StM) (hok : OkSt s) (hm : MayP s) (r : RecM) (hor : OkRec r) (hk : r.kind = 1) (hrec : recB r = true) (hu : r.puts.length <= 1000000) (v vr : Value) (w : World) (h : IsSt w v s) (hr : IsRec w vr r) :
  Calls Tryz.prog 27 #[v, vr] w fun e w' => e = .returned (.int .i64 (canM s r : Nat)) /\ Tch No w w' := by
 have HRE : Hid (∀ W, Tch No w W -> Calls Tryz.prog 34 #[vr] W fun e w' => e = .returned (.bool true) /\ Tch No W w') := fun W T => by have := rrecord_any r hor vr W (hr.keep T); rw [hrec] at this; exact this
 have HAE : Hid (∀ W, Tch No w W -> Calls Tryz.prog 62 #[v, .int .i64 r.tid] W fun e w' => e = .returned (.int .i64 (atI (·.tid) s.ends r.tid)) /\ Tch No W w') := fun W T => atends_any s r.tid v W (h.keep T)
 have HAW : Hid (∀ W, Tch No w W -> Calls Tryz.prog 39 #[v, .int .i64 r.tid] W fun e w' => e = .returned (.int .i64 (atI (·.tid) s.waits r.tid)) /\ Tch No W w') := fun W T => atwaits_any s r.tid v W (h.keep T)
 have HAM : Hid (∀ W, Tch No w W -> Calls Tryz.prog 32 #[v, .int .i64 r.id] W fun e w' => e = .returned (.int .i64 (atI (·.id) s.ms r.id)) /\ Tch No W w') := fun W T => atms_any s r.id v W (h.keep T)
 have HFU : Hid (∀ W, Tch No w W -> Calls Tryz.prog 84 #[v, vr] W fun e w' => e = .returned (.int .i64 (fullM s r : Nat)) /\ Tch No W w') := fun W T => rfull1 s hm r hk hu v vr W (h.keep T) (hr.keep T)
 have HHO := Lib.hid (fun W => rhome_any r.tid hor.tid W)
 have HMK := Lib.hid (fun W => rmake_any s.broker (s.tx + 1) ⟨by have := hm.br; omega, by have := hm.br; omega⟩ ⟨by have := hm.tx; omega, by have := hm.tx; omega⟩ W)
 obtain ⟨am, cm, aw, cw, ae, ce, ao, co, an, cn, nm, nw, ne, no, nn, hval, HMSL, HNM, hlnm, HWSL, HNW, hlnw, HESL, HNE, hlne, HOSL, HNO, hlno, HNSL, HNN, hlnn⟩ := st_pre h
 have HAO : Hid (∀ W, Tch No w W -> Calls Tryz.prog 40 #[.slice ao no co, .int .i64 r.tid] W fun e w' => e = .returned (.int .i64 (atI (·.tid) s.opens r.tid)) /\ Tch No W w') := fun W T => atpend_any s.opens r.tid _ W (HOSL.out.keep T)
 have HAN : Hid (∀ W, Tch No w W -> Calls Tryz.prog 40 #[.slice an nn cn, .int .i64 r.tid] W fun e w' => e = .returned (.int .i64 (atI (·.tid) s.noes r.tid)) /\ Tch No W w') := fun W T => atpend_any s.noes r.tid _ W (HNSL.out.keep T)
 obtain ⟨ap, cp, au, cu, rfl, hrp, hru⟩ := hr.shape
 have HHS : Hid (∀ W, Tch No w W -> Calls Tryz.prog 83 #[.slice ap r.parts.length cp, .int .i64 s.broker] W fun e w' => e = .returned (.bool (r.parts.contains s.broker)) /\ Tch No W w') := fun W T => (rhas_any r.parts s.broker _ W (hrp.keep T)).mono (by rintro e w' ⟨rfl, rfl⟩; exact ⟨rfl, Tch.refl _ _⟩)
 have HK := Lib.hid hk
 have HREC := Lib.hid hrec
 have HRP := Lib.hid hrp
 have HP1 : Hid (r.kind = 9 -> r.parts.length = 1) := fun h9 => by
  have h := hrec
  unfold recB at h
  simp only [Bool.and_eq_true] at h
  have h2 := h.2
  rw [h9] at h2
  simp at h2
  exact h2.1
 have hpn : r.parts.length <= 9223372036854775807 := by
  obtain ⟨_, c, _, h1, h2⟩ := CellsAt.shape hrp
  unfold maxLen at h2; omega
 rw [hk] at HRE HFU ⊢
 obtain ⟨np, hnp⟩ : ∃ n, r.parts.length = n := ⟨_, rfl⟩
 obtain ⟨nu, hnu⟩ : ∃ n, r.puts.length = n := ⟨_, rfl⟩
 have HNPP := Lib.hid hnp
 rw [hnp] at HHS HRE HFU hpn ⊢
 rw [hnu] at HRE HFU ⊢
 have HRP2 : Hid (IsInts w (.slice ap np cp) r.parts) := by have h := HRP.out; rw [hnp] at h; exact h
 obtain ⟨htx1, htx2⟩ := hm.tx
 subst hval
 have q1 := atI_has (fun x : EndM => x.tid) s.ends r.tid
 have q2 := atI_has (fun x : BrM => x.tid) s.waits r.tid
 have q3 := atI_has (fun x : PendM => x.tid) s.opens r.tid
 obtain ⟨ov, hov⟩ : ∃ b, hasP (fun x : EndM => x.tid) s.ends r.tid = b := ⟨_, rfl⟩
 obtain ⟨rd, hrd⟩ : ∃ b, hasP (fun x : BrM => x.tid) s.waits r.tid = b := ⟨_, rfl⟩
 obtain ⟨op, hop⟩ : ∃ b, hasP (fun x : PendM => x.tid) s.opens r.tid = b := ⟨_, rfl⟩
 obtain ⟨hmh, hhm⟩ : ∃ x, homeM r.tid = x := ⟨_, rfl⟩
 obtain ⟨ow, how⟩ : ∃ b, (hmh == s.broker) = b := ⟨_, rfl⟩
 obtain ⟨hs, hhs⟩ : ∃ b, r.parts.contains s.broker = b := ⟨_, rfl⟩
 obtain ⟨mk, hmk⟩ : ∃ x, makeM s.broker (s.tx + 1) = x := ⟨_, rfl⟩
 have HOV := Lib.hid hov
 have HRD := Lib.hid hrd
 have HOP := Lib.hid hop
 have HHB := Lib.hid hhs
 have HMB := Lib.hid hmk
 have HMEM : Hid (s.broker ∈ r.parts ↔ hs = true) := by rw [Hid, <- hhs, List.contains_iff_mem]
 have HOW : Hid (decide (homeM r.tid = s.broker) = ow) := by rw [Hid, hhm, <- how]; rfl
 rw [hov] at q1
 rw [hrd] at q2
 rw [hop] at q3
 rw [hhm] at HHO
 rw [hhs] at HHS
 rw [hmk] at HMK
 generalize atI (fun x : EndM => x.tid) s.ends r.tid = je at q1 HAE
 generalize atI (fun x : BrM => x.tid) s.waits r.tid = jw at q2 HAW
 generalize atI (fun x : PendM => x.tid) s.opens r.tid = jo at q3 HAO
 clear h hr hrec hk hor hok hrp hru hm hnp hnu hov hrd hop hhm hhs hmk HRP
 have HRP := HRP2
 clear HRP2
 go_enter Tryz.func27, Tryz.ntmps27
 go_upto_region 1 with fail
 refine wp_world (fun w' => Hid (Tch No w w') /\ Hid (BoxAt w' w.heap.size [.int .i64 s.broker, .int .i64 s.nid, .int .i64 s.nseq, .int .i64 s.tx, .slice am nm cm, .slice aw nw cw, .slice ae ne ce, .slice ao no co, .slice an nn cn]) /\ Hid (BoxAt w' (w.heap.size + 1) [.int .i64 1, .int .i64 r.tid, .int .i64 r.id, .bool r.yes, .slice ap np cp, .slice au nu cu])) ⟨(Tch.alloc _ _).trans0 (Tch.alloc _ _), box2a _ _ _ _ _, box2b _ _ _ _ _⟩ ?_
 rintro w1 ⟨TT, HB, HB2⟩
 refine wp_world (fun w' => ∃ p : TchW w1, w' = p.wo) ⟨⟨w1, Tch.refl _ _⟩, rfl⟩ ?_
 rintro _ ⟨p0, rfl⟩
 obtain ⟨c0, c1, c2, c3, c4, c5, c6, c7, c8⟩ := kb9 HB.out
 obtain ⟨g0, g1, g2, g3, g4, g5⟩ := kb6 HB2.out
 cases ov with
 | true =>
  have HN : Hid (canM s r = 9) := by rw [Hid, canM, HREC.out, HK.out]; simp [HOV.out, HRD.out, HOP.out, HOW.out]
  go_wp2_with (first
   | (go_at_call 34; refine cz HRE.out TT fun q' => ?_)
   | (go_at_call 62; refine cz HAE.out TT fun q' => ?_)
   | (go_at_call 32; refine cz HAM.out TT fun q' => ?_)
   | (go_at_call 40; refine cz HAN.out TT fun q' => ?_)
   | (go_at_call 84; refine cz HFU.out TT fun q' => ?_)
   | (go_at_call 83; refine cz HHS.out TT fun q' => ?_))
  go_ret
  exact ⟨ret_e HN.out, TT.out.trans0 (TchW.t _)⟩
 | false =>
 go_upto_region 5 with (first
  | (go_at_call 34; refine cz HRE.out TT fun q' => ?_)
  | (go_at_call 62; refine cz HAE.out TT fun q' => ?_)
  | (go_at_call 32; refine cz HAM.out TT fun q' => ?_)
  | (go_at_call 40; refine cz HAN.out TT fun q' => ?_)
  | (go_at_call 84; refine cz HFU.out TT fun q' => ?_)
  | (go_at_call 83; refine cz HHS.out TT fun q' => ?_))
 refine wp_world (fun w' => Hid (Tch No w w') /\ Hid (BoxAt w' w.heap.size [.int .i64 s.broker, .int .i64 s.nid, .int .i64 s.nseq, .int .i64 s.tx, .slice am nm cm, .slice aw nw cw, .slice ae ne ce, .slice ao no co, .slice an nn cn]) /\ Hid (BoxAt w' (w.heap.size + 1) [.int .i64 1, .int .i64 r.tid, .int .i64 r.id, .bool r.yes, .slice ap np cp, .slice au nu cu])) ⟨TT.out.trans0 (TchW.t _), HB.out.keep (TchW.t _), HB2.out.keep (TchW.t _)⟩ ?_
 clear TT HB HB2 c0 c1 c2 c3 c4 c5 c6 c7 c8 g0 g1 g2 g3 g4 g5
 rintro w5 ⟨TT, HB, HB2⟩
 obtain ⟨c0, c1, c2, c3, c4, c5, c6, c7, c8⟩ := kb9 HB.out
 obtain ⟨g0, g1, g2, g3, g4, g5⟩ := kb6 HB2.out
 have HAW5 : Hid (∀ p : TchW w5, Calls Tryz.prog 39 #[.agg #[.int .i64 s.broker, .int .i64 s.nid, .int .i64 s.nseq, .int .i64 s.tx, .slice am nm cm, .slice aw nw cw, .slice ae ne ce, .slice ao no co, .slice an nn cn], .int .i64 r.tid] p.wo fun e w' => e = .returned (.int .i64 jw) /\ Tch No p.wo w') := fun p => HAW.out _ (TT.out.trans0 p.t)
 have HAO5 : Hid (∀ p : TchW w5, Calls Tryz.prog 40 #[.slice ao no co, .int .i64 r.tid] p.wo fun e w' => e = .returned (.int .i64 jo) /\ Tch No p.wo w') := fun p => HAO.out _ (TT.out.trans0 p.t)
 refine wp_region_qt (by kernel_rfl) (by kernel_rfl) ?_
 repeat (go_big_quiet_step (first | (go_at_call 39; exact qt_t (HAW5.out _)) | (go_at_call 40; exact qt_t (HAO5.out _))))
 with_reducible refine wpQuiet_nil ?_
 rintro _ ⟨pq, rfl⟩
 clear HAW5 HAO5
 go_upto_region 6 with fail
 refine wp_world (fun w' => Hid (Tch No w w') /\ Hid (BoxAt w' w.heap.size [.int .i64 s.broker, .int .i64 s.nid, .int .i64 s.nseq, .int .i64 s.tx, .slice am nm cm, .slice aw nw cw, .slice ae ne ce, .slice ao no co, .slice an nn cn]) /\ Hid (BoxAt w' (w.heap.size + 1) [.int .i64 1, .int .i64 r.tid, .int .i64 r.id, .bool r.yes, .slice ap np cp, .slice au nu cu])) ⟨TT.out.trans0 (TchW.t _), HB.out.keep (TchW.t _), HB2.out.keep (TchW.t _)⟩ ?_
 clear TT HB HB2 c0 c1 c2 c3 c4 c5 c6 c7 c8 g0 g1 g2 g3 g4 g5
 rintro w6 ⟨TT, HB, HB2⟩
 obtain ⟨c0, c1, c2, c3, c4, c5, c6, c7, c8⟩ := kb9 HB.out
 obtain ⟨g0, g1, g2, g3, g4, g5⟩ := kb6 HB2.out
 have HHO6 : Hid (∀ p : TchW w6, Calls Tryz.prog 58 #[.int .i64 r.tid] p.wo fun e w' => e = .returned (.int .i64 hmh) /\ p.wo = w') := fun p => HHO.out _
 refine wp_region_qt (by kernel_rfl) (by kernel_rfl) ?_
 repeat (go_big_quiet_step ((go_at_call 58; exact qt_s (HHO6.out _))))
 with_reducible refine wpQuiet_nil ?_
 rintro _ ⟨pq, rfl⟩
 clear HHO6
 have hw1 : IntKind.i64.wrap (s.tx + 1) = s.tx + 1 := IntWalk.i64_in _ (by omega)
 go_upto_region 22 with fail
 refine wp_world (fun w' => Hid (Tch No w w') /\ Hid (BoxAt w' w.heap.size [.int .i64 s.broker, .int .i64 s.nid, .int .i64 s.nseq, .int .i64 s.tx, .slice am nm cm, .slice aw nw cw, .slice ae ne ce, .slice ao no co, .slice an nn cn]) /\ Hid (BoxAt w' (w.heap.size + 1) [.int .i64 1, .int .i64 r.tid, .int .i64 r.id, .bool r.yes, .slice ap np cp, .slice au nu cu])) ⟨TT.out.trans0 (TchW.t _), HB.out.keep (TchW.t _), HB2.out.keep (TchW.t _)⟩ ?_
 clear TT HB HB2 c0 c1 c2 c3 c4 c5 c6 c7 c8 g0 g1 g2 g3 g4 g5
 rintro w22 ⟨TT, HB, HB2⟩
 obtain ⟨c0, c1, c2, c3, c4, c5, c6, c7, c8⟩ := kb9 HB.out
 obtain ⟨g0, g1, g2, g3, g4, g5⟩ := kb6 HB2.out
 have HMK22 : Hid (∀ p : TchW w22, Calls Tryz.prog 33 #[.int .i64 s.broker, .int .i64 (s.tx + 1)] p.wo fun e w' => e = .returned (.int .i64 mk) /\ p.wo = w') := fun p => HMK.out _
 by_cases l1 : r.tid = mk
 case neg =>
  have d1 : (r.tid == mk) = false := by simpa using l1
  have d2 : (r.tid != mk) = true := by simpa using l1
  have L1 := Lib.hid l1
  clear l1
  refine wp_region_qt (by kernel_rfl) (by kernel_rfl) ?_
  repeat (go_big_quiet_step ((go_at_call 33; exact qt_s (HMK22.out _))))
  with_reducible refine wpQuiet_nil ?_
  rintro _ ⟨pq, rfl⟩
  have HN : Hid (canM s r = 12) := by rw [Hid, canM, HREC.out, HK.out]; simp [HOV.out, HRD.out, HOP.out, HOW.out, HMB.out, eq_false L1.out]
  go_wp2_with (first
   | (go_at_call 34; refine cz HRE.out TT fun q' => ?_)
   | (go_at_call 62; refine cz HAE.out TT fun q' => ?_)
   | (go_at_call 32; refine cz HAM.out TT fun q' => ?_)
   | (go_at_call 40; refine cz HAN.out TT fun q' => ?_)
   | (go_at_call 84; refine cz HFU.out TT fun q' => ?_)
   | (go_at_call 83; refine cz HHS.out TT fun q' => ?_))
  go_ret
  exact ⟨ret_e HN.out, TT.out.trans0 (TchW.t _)⟩
 have d1 : (r.tid == mk) = true := by simpa using l1
 have d2 : (r.tid != mk) = false := by simpa using l1
 have L1 := Lib.hid l1
 clear l1
 refine wp_region_qt (by kernel_rfl) (by kernel_rfl) ?_
 repeat (go_big_quiet_step ((go_at_call 33; exact qt_s (HMK22.out _))))
 with_reducible refine wpQuiet_nil ?_
 rintro _ ⟨pq, rfl⟩
 by_cases l2 : 200 <= s.tx
 case pos =>
  have HN : Hid (canM s r = 5) := by rw [Hid, canM, HREC.out, HK.out]; simp [HOV.out, HRD.out, HOP.out, HOW.out, HMB.out, eq_true L1.out, l2]
  go_wp2_with (first
   | (go_at_call 34; refine cz HRE.out TT fun q' => ?_)
   | (go_at_call 62; refine cz HAE.out TT fun q' => ?_)
   | (go_at_call 32; refine cz HAM.out TT fun q' => ?_)
   | (go_at_call 40; refine cz HAN.out TT fun q' => ?_)
   | (go_at_call 84; refine cz HFU.out TT fun q' => ?_)
   | (go_at_call 83; refine cz HHS.out TT fun q' => ?_))
  go_ret
  exact ⟨ret_e HN.out, TT.out.trans0 (TchW.t _)⟩
 have HN : Hid (canM s r = fullM s r) := by rw [Hid, canM, HREC.out, HK.out]; simp [HOV.out, HRD.out, HOP.out, HOW.out, HMB.out, eq_true L1.out, l2]
 go_wp2_with (first
  | (go_at_call 34; refine cz HRE.out TT fun q' => ?_)
  | (go_at_call 62; refine cz HAE.out TT fun q' => ?_)
  | (go_at_call 32; refine cz HAM.out TT fun q' => ?_)
  | (go_at_call 40; refine cz HAN.out TT fun q' => ?_)
  | (go_at_call 84; refine cz HFU.out TT fun q' => ?_)
  | (go_at_call 83; refine cz HHS.out TT fun q' => ?_))
 go_ret
 exact ⟨ret_e HN.out, TT.out.trans0 (TchW.t _)⟩
end
end Go.Proofs.YtfedhcnmdmhppaaGreat
