/- Part 7 of what the proof of OrderCounts rests on. No condition. -/
import Derived.Deep.CutBlock
import Derived.Test.YtelaljoebdpicaaGreatPOrderCounts06
namespace Go.Proofs.YtelaljoebdpicaaGreat
set_option maxRecDepth 100000
set_option maxHeartbeats 60000000
set_option linter.unusedVariables false
set_option linter.unusedSimpArgs false
set_option linter.unusedSectionVars false
section
open Go.RowKit Go.Maps
def qidM (r : RecM) : Bool := if r.kind = 2 then tidB r.id else decide (r.id = 0)
def qyesM (r : RecM) : Bool := decide (r.kind = 5) || !r.yes
def loM (k : Int) : Int := if k = 6 ∨ k = 9 then 1 else 0
def hiM (k : Int) : Int := if k = 6 ∨ k = 8 then 7 else if k = 9 then 1 else 0
def npM (k : Int) : Int := if k = 4 ∨ k = 7 then 10 else 0
theorem len_zero {α : Type} (l : List α) : decide ((l.length : Int) <= 0) = decide (l = []) := by
 cases l with
 | nil => rfl
 | cons a r => simp
theorem rec_eq (r : RecM) : recB r = (decide (1 <= r.kind /\ r.kind <= 9) && tidB r.tid && ((((qidM r && qyesM r) && (risingB r.parts && (decide (loM r.kind <= (r.parts.length : Int)) && decide ((r.parts.length : Int) <= hiM r.kind)))) && decide ((r.puts.length : Int) <= npM r.kind)) && r.puts.all putB)) := by
 by_cases hk : 1 <= r.kind /\ r.kind <= 9
 ·have hc : r.kind = 1 ∨ r.kind = 2 ∨ r.kind = 3 ∨ r.kind = 4 ∨ r.kind = 5 ∨ r.kind = 6 ∨ r.kind = 7 ∨ r.kind = 8 ∨ r.kind = 9 := by omega
  unfold recB qidM qyesM loM hiM npM
  have hp0 : r.puts = [] -> r.puts.all putB = true := fun e => by rw [e]; rfl
  have hr0 : r.parts = [] -> risingB r.parts = true := fun e => by rw [e]; rfl
  have e1 : decide ((r.puts.length : Int) <= 10) = decide (r.puts.length <= 10) := by congr 1; simp; omega
  have e2 : decide ((r.parts.length : Int) <= 7) = decide (r.parts.length <= 7) := by congr 1; simp; omega
  have e3 : (decide ((1 : Int) <= (r.parts.length : Int)) && decide ((r.parts.length : Int) <= 1)) = decide (r.parts.length = 1) := by
   rw [<- Bool.decide_and]; congr 1; simp; omega
  have e4 : (decide ((1 : Int) <= (r.parts.length : Int)) && decide (r.parts.length <= 7)) = decide (1 <= r.parts.length /\ r.parts.length <= 7) := by
   rw [<- Bool.decide_and]; congr 1; simp; omega
  have e5 : decide ((0 : Int) <= (r.parts.length : Int)) = true := by simp
  have e6 : (risingB r.parts && decide (r.parts = [])) = decide (r.parts = []) := by
   by_cases h : r.parts = []
   ·rw [hr0 h]; simp
   ·simp [h]
  have e7 : (decide (r.puts = []) && r.puts.all putB) = decide (r.puts = []) := by
   by_cases h : r.puts = []
   ·rw [hp0 h]; simp
   ·simp [h]
  rcases hc with k | k | k | k | k | k | k | k | k <;> simp only [k] <;>
   simp only [show ((1 : Int) = 2) = False by simp, show ((3 : Int) = 2) = False by simp, show ((4 : Int) = 2) = False by simp, show ((5 : Int) = 2) = False by simp, show ((6 : Int) = 2) = False by simp, show ((7 : Int) = 2) = False by simp, show ((8 : Int) = 2) = False by simp, show ((9 : Int) = 2) = False by simp, if_true, if_false] <;>
   simp [len_zero, e1, e2, e5, Bool.and_assoc] <;> grind
 ·unfold recB
  rw [decide_eq_false hk]; rfl
theorem box_cell (w : World) (cs : Array Value) (t : TypeId) (i : Nat) (hi : i < cs.size) : (w.alloc (.cells cs t)).cell? ⟨w.heap.size, i, none⟩ = some cs[i] := by
 unfold World.cell? World.alloc; simp [hi]
theorem krecord_any (r : RecM) (hok : OkRec r) (v : Value) (w : World) (h : IsRec w v r) :
    Calls Tryz.prog 73 #[v] w fun e w' => e = .returned (.bool (recB r)) /\ Tch No w w' := by
  have RE := Lib.hid (rec_eq r)
  obtain ⟨kd, tid, id, yes, parts, puts⟩ := r
  obtain ⟨vp, vu, rfl, hp, hu⟩ := h
  have hkd := hok.kind
  have hti := hok.tid
  have hid := hok.id
  simp only at hkd hti hid hp hu
  have HT1 := Lib.hid (fun W => ktid_any tid hti W)
  have HT2 := Lib.hid (fun W => ktid_any id hid W)
  have HR := Lib.hid (fun lo hi W h => krising_any parts vp lo hi W h)
  have HC := Lib.hid (fun W h => containsputs_any puts hok.puts vu W h)
  obtain ⟨ap, cp, hvp, hcp, hmp⟩ := CellsAt.shape hp
  obtain ⟨au, cu, hvu, hcu, hmu⟩ := CellsAt.shape hu
  have HP : Hid (IsInts w vp parts) := hp
  have HU : Hid (IsPuts w vu puts) := hu
  clear hp hu hok hkd hti hid hcp hmp hcu hmu
  obtain ⟨np, hnp⟩ : ∃ n, parts.length = n := ⟨_, rfl⟩
  obtain ⟨nu, hnu⟩ : ∃ n, puts.length = n := ⟨_, rfl⟩
  simp only [qidM, qyesM, hnp, hnu] at RE
  rw [hnp] at hvp
  rw [hnu] at hvu
  simp only [hnp] at HR
  clear hnp hnu
  subst hvp hvu
  generalize recB _ = rb at RE ⊢
  generalize risingB parts = br at RE HR
  generalize puts.all putB = bp at RE HC
  generalize tidB tid = bt at RE HT1
  generalize tidB id = bi at RE HT2
  go_enter Tryz.func73, Tryz.ntmps73
  by_cases k1 : kd < 1
  · have HE : Hid (rb = false) := by rw [Hid, RE.out, decide_eq_false (by omega)]; rfl
    go_wp2_with fail
    go_ret
    exact ⟨ret_b HE.out.symm, Tch.alloc _ _⟩
  by_cases k9 : 9 < kd
  · have HE : Hid (rb = false) := by rw [Hid, RE.out, decide_eq_false (by omega)]; rfl
    go_wp2_with fail
    go_ret
    exact ⟨ret_b HE.out.symm, Tch.alloc _ _⟩
  have REk : Hid (decide (1 <= kd /\ kd <= 9) = true) := by simp [Hid]; omega
  cases bt with
  | false =>
    have HE : Hid (rb = false) := by rw [Hid, RE.out]; simp
    go_wp2_with (go_at_call 133; refine (HT1.out _).mono ?_; rintro e w' ⟨rfl, rfl⟩)
    go_ret
    exact ⟨ret_b HE.out.symm, Tch.alloc _ _⟩
  | true =>
    go_upto_block 0 with (go_at_call 133; refine (HT1.out _).mono ?_; rintro e w' ⟨rfl, rfl⟩)
    go_quiet (fail)
    go_upto_block 0 with fail
    go_cut [3, 4, 5, 6, 7] from 31 to 46 (fun s3 s4 s5 s6 s7 wx => s3 = .bool (if kd = 2 then bi else decide (id = 0)) /\ s4 = .bool (decide (kd = 5) || !yes) /\ s5 = .int .i64 (loM kd) /\ s6 = .int .i64 (hiM kd) /\ s7 = .int .i64 (npM kd) /\ Hid (Tch No w wx) /\ wx.cell? ⟨w.heap.size, 4, none⟩ = some (.slice ap np cp) /\ wx.cell? ⟨w.heap.size, 5, none⟩ = some (.slice au nu cu))
    case first =>
      clear RE REk HR HC HP HU
      have hc : kd = 1 ∨ kd = 2 ∨ kd = 3 ∨ kd = 4 ∨ kd = 5 ∨ kd = 6 ∨ kd = 7 ∨ kd = 8 ∨ kd = 9 := by omega
      clear k1 k9
      rcases hc with k | k | k | k | k | k | k | k | k <;> subst k <;>
        (go_wp2_with (go_at_call 133; refine (HT2.out _).mono ?_; rintro e w' ⟨rfl, rfl⟩)
         go_meet
         exact ⟨rfl, rfl, rfl, rfl, rfl, (Tch.alloc _ _).trans0 (tch_dn _ _), box_cell _ _ _ 4 (by simp), box_cell _ _ _ 5 (by simp)⟩)
    case rest =>
      obtain ⟨rfl, rfl, rfl, rfl, rfl, TT, c4, c5⟩ := hcut
      clear k1 k9
      generalize loM kd = lo at RE ⊢
      generalize hiM kd = hi at RE ⊢
      generalize npM kd = nn at RE ⊢
      generalize (if kd = 2 then bi else decide (id = 0)) = q1 at RE ⊢
      generalize (decide (kd = 5) || !yes) = q2 at RE ⊢
      rw [REk.out] at RE
      have HR1 : Hid (∀ W, Tch No wc W -> Calls Tryz.prog 142 #[.slice ap np cp, .int .i64 lo, .int .i64 hi] W fun e w' => e = .returned (.bool (br && (decide (lo <= (np : Int)) && decide ((np : Int) <= hi)))) /\ Tch No W w') := fun W T => HR.out lo hi W (HP.out.keep (TT.out.trans0 T))
      have HC2 := Lib.hid (HC.out wc (HU.out.keep TT.out))
      generalize (br && (decide (lo <= (np : Int)) && decide ((np : Int) <= hi))) = q3 at RE HR1
      have HR2 := HR1
      clear HR1 HR HC HP HU HT1 HT2 REk
      cases q1 with
      | false =>
        have HE : Hid (rb = false) := by rw [Hid, RE.out]; simp
        go_wp2_with (go_at_call 140; refine HC2.out.mono ?_; rintro e w' ⟨rfl, T2⟩; have d4 := T2.cell c4 (fun h => h); have d5 := T2.cell c5 (fun h => h))
        go_ret
        exact ⟨ret_b HE.out.symm, TT.out.trans0 T2⟩
      | true =>
        cases q2 with
        | false =>
          have HE : Hid (rb = false) := by rw [Hid, RE.out]; simp
          go_wp2_with (go_at_call 140; refine HC2.out.mono ?_; rintro e w' ⟨rfl, T2⟩; have d4 := T2.cell c4 (fun h => h); have d5 := T2.cell c5 (fun h => h))
          go_ret
          exact ⟨ret_b HE.out.symm, TT.out.trans0 T2⟩
        | true =>
          cases q3 with
          | false =>
            have HE : Hid (rb = false) := by rw [Hid, RE.out]; simp
            go_wp2_with (first
              | (go_at_call 140; refine HC2.out.mono ?_; rintro e w' ⟨rfl, T2⟩; have d4 := T2.cell c4 (fun h => h); have d5 := T2.cell c5 (fun h => h))
              | (go_at_call 142; refine (HR2.out _ T2).mono ?_; rintro e w' ⟨rfl, T3⟩; have f4 := T3.cell d4 (fun h => h); have f5 := T3.cell d5 (fun h => h)))
            go_ret
            exact ⟨ret_b HE.out.symm, (TT.out.trans0 T2).trans0 T3⟩
          | true =>
            cases hn : decide ((nu : Int) <= nn) with
            | false =>
              have HE : Hid (rb = false) := by rw [Hid, RE.out, hn]; simp
              go_wp2_with (first
                | (go_at_call 140; refine HC2.out.mono ?_; rintro e w' ⟨rfl, T2⟩; have d4 := T2.cell c4 (fun h => h); have d5 := T2.cell c5 (fun h => h))
                | (go_at_call 142; refine (HR2.out _ T2).mono ?_; rintro e w' ⟨rfl, T3⟩; have f4 := T3.cell d4 (fun h => h); have f5 := T3.cell d5 (fun h => h)))
              go_ret
              exact ⟨ret_b HE.out.symm, (TT.out.trans0 T2).trans0 T3⟩
            | true =>
              have HE : Hid (rb = bp) := by rw [Hid, RE.out, hn]; simp
              go_wp2_with (first
                | (go_at_call 140; refine HC2.out.mono ?_; rintro e w' ⟨rfl, T2⟩; have d4 := T2.cell c4 (fun h => h); have d5 := T2.cell c5 (fun h => h))
                | (go_at_call 142; refine (HR2.out _ T2).mono ?_; rintro e w' ⟨rfl, T3⟩; have f4 := T3.cell d4 (fun h => h); have f5 := T3.cell d5 (fun h => h)))
              go_ret
              exact ⟨ret_b (by first | (rw [HE.out]; done) | (rw [HE.out]; simp)), (TT.out.trans0 T2).trans0 T3⟩
end
end Go.Proofs.YtelaljoebdpicaaGreat
