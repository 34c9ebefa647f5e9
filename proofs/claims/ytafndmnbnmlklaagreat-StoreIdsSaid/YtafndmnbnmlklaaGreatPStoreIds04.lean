/- Part 4 of what the proof of StoreIds rests on. No condition. -/
import Derived.BigQuiet
import Derived.Deep.CutBlock
import Derived.Test.YtafndmnbnmlklaaGreatPStoreIds02
namespace Go.Proofs.YtafndmnbnmlklaaGreat
set_option maxRecDepth 100000
set_option maxHeartbeats 60000000
set_option linter.unusedVariables false
set_option linter.unusedSimpArgs false
set_option linter.unusedSectionVars false
section
open Go.RowKit Go.Maps
theorem tch_dn (w : World) (n : Nat) : Tch No w (w.drewN n) := ⟨rfl, rfl, rfl, Nat.le_refl _, fun _ _ _ => rfl⟩
theorem mem_at {l : List Int} {k : Nat} {x : Int} (hk : k < l.length) (e : l[k] = x) : l.contains x = true := by
 rw [<- e]; simp
theorem not_mem_all {l : List Int} {x : Int} (h : ∀ i (hi : i < l.length), ¬ l[i] = x) : l.contains x = false := by
 cases e : l.contains x with
 | false => rfl
 | true =>
  have : x ∈ l := by simpa using e
  obtain ⟨i, hi, e2⟩ := List.getElem_of_mem this
  exact absurd e2 (h i hi)
theorem index_any (l : List Int) (t : Int) (v : Value) (w : World) (h : IsInts w v l) :
  Calls Tryz.prog 221 #[v, .int .i64 t] w fun e w' => (∃ n : Int, e = .returned (.int .i64 n) /\ decide (0 <= n) = l.contains t) /\ w = w' := by
 have H := Lib.hid h
 obtain ⟨m, hm⟩ : ∃ m, l.length = m := ⟨_, rfl⟩
 have HM := Lib.hid hm
 obtain ⟨a, cap, hv, hcap, hmax⟩ := CellsAt.shape h
 rw [hm] at hcap hv
 have hml : m <= 9223372036854775807 := by unfold maxLen at hmax; omega
 subst hv
 clear h hm hcap hmax
 go_enter Tryz.func221, Tryz.ntmps221
 go_wp2_with fail
 go_loopg [5, 8] m (fun kx s5 s8 wr => ∃ k : Nat, s8 = .int .i64 k /\ k <= m /\ m - k <= kx /\ wr = w /\ Hid (∀ i (hi : i < l.length), i < k -> ¬ l[i] = t))
 case atStart => exact ⟨0, rfl, Nat.zero_le _, by omega, rfl, fun i _ h => absurd h (Nat.not_lt_zero _)⟩
 case round =>
  obtain ⟨k, rfl, hk, hg, rfl, I⟩ := hrel
  by_cases hlt : k < m
  ·have hkl : k < l.length := by have := HM.out; omega
   have hb : ∃ b o, a = some ⟨b, o, none⟩ /\ ∀ i (hi : i < l.length), wr.cell? ⟨b, o + i, none⟩ = some (.int .i64 l[i]) := by
    rcases ints_cells H.out with ⟨_, h0⟩ | ⟨b, o, cap2, h1, _, _, _, h5⟩
    ·subst h0; simp at hkl
    ·rw [HM.out] at h1
     injection h1 with h1 _ _
     exact ⟨b, o, h1, h5⟩
   obtain ⟨b, o, rfl, hc⟩ := hb
   have hc1 := hc k hkl
   clear hc
   obtain ⟨x, hx⟩ : ∃ x, l[k] = x := ⟨_, rfl⟩
   rw [hx] at hc1
   have HX := Lib.hid hx
   clear hx
   by_cases hxt : x = t
   ·have HC : Hid (l.contains t = true) := mem_at hkl (by rw [HX.out]; exact hxt)
    have hd : (x == t) = true := by simpa using hxt
    have hd2 : (t == x) = true := by simpa using hxt.symm
    clear hxt
    go_wp2_with fail
    go_ret
    exact ⟨⟨(k : Int), rfl, by rw [HC.out]; simp⟩, rfl⟩
   ·have hd : (x == t) = false := by simpa using hxt
    have hd2 : (t == x) = false := by simpa using fun e : t = x => hxt e.symm
    have HN : Hid (∀ i (hi : i < l.length), i < k + 1 -> ¬ l[i] = t) := fun i h1 h2 => by
     by_cases e : i = k
     ·subst e; rw [HX.out]; exact hxt
     ·exact I.out i h1 (by omega)
    clear hxt
    go_wp2_with fail
    go_roundg (m - (k + 1))
    case measure => omega
    case rel => exact ⟨k + 1, by go_num, by omega, by omega, rfl, HN⟩
  ·obtain rfl : k = m := by omega
   have HC : Hid (l.contains t = false) := not_mem_all (fun i hi => I.out i hi (by have := HM.out; omega))
   clear hg hlt hk
   go_wp2_with fail
   go_ret
   exact ⟨⟨-1, rfl, by rw [HC.out]; rfl⟩, rfl⟩
theorem contains_any (l : List Int) (t : Int) (v : Value) (w : World) (h : IsInts w v l) :
  Calls Tryz.prog 169 #[v, .int .i64 t] w fun e w' => e = .returned (.bool (l.contains t)) /\ w = w' := by
 have hi := Lib.hid (index_any l t v w h)
 obtain ⟨a, cap, rfl, _⟩ := CellsAt.shape h
 clear h
 generalize l.contains t = q at hi ⊢
 go_enter Tryz.func169, Tryz.ntmps169
 go_wp2_with (go_at_call 221; refine hi.out.mono ?_; rintro e w' ⟨⟨n, rfl, hn⟩, rfl⟩)
 go_ret
 exact ⟨ret_b (by first | assumption | (rw [<- hn]; done) | (rw [<- hn]; simp)), rfl⟩
theorem all_bad {l : List PutM} {k : Nat} (hk : k < l.length) (e : putB l[k] = false) : l.all putB = false := by
 rw [List.all_eq_false]; exact ⟨l[k], List.getElem_mem hk, by rw [e]; simp⟩
theorem all_good {l : List PutM} (h : ∀ i (hi : i < l.length), putB l[i] = true) : l.all putB = true := by
 rw [List.all_eq_true]; intro x hx
 obtain ⟨i, hi, rfl⟩ := List.getElem_of_mem hx
 exact h i hi
theorem krec1_t (p : PutM) (hp : OkPut p) (w : World) : Calls Tryz.prog 161 #[.agg #[strV p.q, strV p.b]] w fun e w' => e = .returned (.bool (!putB p)) /\ Tch No w w' := by
 have hk := Lib.hid (fun W => kput_t p hp W)
 obtain ⟨x, hx⟩ : ∃ x, strV p.q = x := ⟨_, rfl⟩
 obtain ⟨y, hy⟩ : ∃ y, strV p.b = y := ⟨_, rfl⟩
 have hxc : x.cells = #[x] := by rw [<- hx]; rfl
 have hyc : y.cells = #[y] := by rw [<- hy]; rfl
 simp only [Value.cells] at hxc hyc
 rw [hx, hy] at hk ⊢
 generalize putB p = q at hk ⊢
 clear hx hy hp
 go_enter Tryz.func161, Tryz.ntmps161
 go_wp2_with (go_at_call 162; refine (hk.out _).mono ?_; rintro e w' ⟨rfl, T⟩)
 go_ret
 exact ⟨rfl, (Tch.alloc _ _).trans0 T⟩
theorem indexputs_any (l : List PutM) (hok : ∀ p ∈ l, OkPut p) (v : Value) (w : World) (h : IsPuts w v l) :
  Calls Tryz.prog 215 #[v, .func (.func 161) #[] #[]] w fun e w' => (∃ n : Int, e = .returned (.int .i64 n) /\ decide (0 <= n) = !l.all putB) /\ Tch No w w' := by
 have HP := Lib.hid (fun p hp W => krec1_t p hp W)
 have HO := Lib.hid hok
 clear hok
 have H := Lib.hid h
 obtain ⟨m, hm⟩ : ∃ m, l.length = m := ⟨_, rfl⟩
 have HM := Lib.hid hm
 obtain ⟨a, cap, hv, hcap, hmax⟩ := CellsAt.shape h
 rw [hm] at hcap hv
 have hml : m <= 9223372036854775807 := by unfold maxLen at hmax; omega
 subst hv
 clear h hm hcap hmax
 go_enter Tryz.func215, Tryz.ntmps215
 go_wp2_with fail
 go_loopg [5, 8] m (fun kx s5 s8 wr => ∃ k : Nat, s8 = .int .i64 k /\ k <= m /\ m - k <= kx /\ Hid (Tch No w wr) /\ Hid (∀ i (hi : i < l.length), i < k -> putB l[i] = true))
 case atStart => exact ⟨0, rfl, Nat.zero_le _, by omega, Tch.refl _ _, fun i _ h => absurd h (Nat.not_lt_zero _)⟩
 case round =>
  obtain ⟨k, rfl, hk, hg, TT, I⟩ := hrel
  by_cases hlt : k < m
  ·have hkl : k < l.length := by have := HM.out; omega
   have HW : Hid (IsPuts wr (.slice a m cap) l) := IsPuts.keep H.out TT.out
   have hb : ∃ b o, a = some ⟨b, o, none⟩ /\ ∀ i (hi : i < l.length), wr.cell? ⟨b, o + i * 2, none⟩ = some (strV l[i].q) /\ wr.cell? ⟨b, o + i * 2 + 1, none⟩ = some (strV l[i].b) := by
    rcases puts_cells HW.out with ⟨_, h0⟩ | ⟨b, o, cap2, h1, _, _, _, h5⟩
    ·subst h0; simp at hkl
    ·rw [HM.out] at h1
     injection h1 with h1 _ _
     exact ⟨b, o, h1, h5⟩
   obtain ⟨b, o, rfl, hc⟩ := hb
   have hc1 := (hc k hkl).1
   have hc2 := (hc k hkl).2
   clear hc
   have HC := Lib.hid (fun W => HP.out l[k] (HO.out _ (List.getElem_mem hkl)) W)
   obtain ⟨x, hx⟩ : ∃ x, strV l[k].q = x := ⟨_, rfl⟩
   obtain ⟨y, hy⟩ : ∃ y, strV l[k].b = y := ⟨_, rfl⟩
   have hxc : x.cells = #[x] := by rw [<- hx]; rfl
   have hyc : y.cells = #[y] := by rw [<- hy]; rfl
   simp only [Value.cells] at hxc hyc
   rw [hx] at hc1
   rw [hy] at hc2
   rw [hx, hy] at HC
   clear hx hy
   cases hq : putB l[k] with
   | false =>
    rw [hq] at HC
    have HN : Hid (l.all putB = false) := all_bad hkl hq
    clear hq
    go_wp2_with (go_at_call 161; refine (HC.out _).mono ?_; rintro e w' ⟨rfl, T2⟩)
    go_ret
    exact ⟨⟨(k : Int), rfl, by rw [HN.out]; simp⟩, TT.out.trans0 T2⟩
   | true =>
    rw [hq] at HC
    have HN : Hid (∀ i (hi : i < l.length), i < k + 1 -> putB l[i] = true) := fun i h1 h2 => by
     by_cases e : i = k
     ·subst e; exact hq
     ·exact I.out i h1 (by omega)
    clear hq
    go_wp2_with (go_at_call 161; refine (HC.out _).mono ?_; rintro e w' ⟨rfl, T2⟩)
    go_roundg (m - (k + 1))
    case measure => omega
    case rel => exact ⟨k + 1, by go_num, by omega, by omega, TT.out.trans0 T2, HN⟩
  ·obtain rfl : k = m := by omega
   have HN : Hid (l.all putB = true) := all_good (fun i hi => I.out i hi (by have := HM.out; omega))
   clear hg hlt hk
   go_wp2_with fail
   go_ret
   exact ⟨⟨-1, rfl, by rw [HN.out]; rfl⟩, TT.out⟩
theorem containsputs_any (l : List PutM) (hok : ∀ p ∈ l, OkPut p) (v : Value) (w : World) (h : IsPuts w v l) :
  Calls Tryz.prog 160 #[v, .func (.func 161) #[] #[]] w fun e w' => e = .returned (.bool (!l.all putB)) /\ Tch No w w' := by
 have hi := Lib.hid (indexputs_any l hok v w h)
 obtain ⟨a, cap, rfl, _⟩ := CellsAt.shape h
 clear h hok
 generalize (!l.all putB) = q at hi ⊢
 go_enter Tryz.func160, Tryz.ntmps160
 go_wp2_with (go_at_call 215; refine hi.out.mono ?_; rintro e w' ⟨⟨n, rfl, hn⟩, T⟩)
 go_ret
 exact ⟨ret_b (by first | assumption | (rw [<- hn]; done) | (rw [<- hn]; simp)), T⟩
end
section
open Go.RowKit Go.Maps
def qidM (r : RecM) : Bool := if r.kind = 2 then tidB r.id else decide (r.id = 0)
def qyesM (r : RecM) : Bool := decide (r.kind = 5) || !r.yes
def loM (k : Int) : Int := if k = 6 ∨ k = 9 then 1 else 0
def hiM (k : Int) : Int := if k = 6 ∨ k = 8 then 7 else if k = 9 then 1 else 0
def npM (k : Int) : Int := if k = 4 ∨ k = 7 then 10 else 0
theorem len_zero {α : Type} (l : List α) : decide ((l.length : Int) <= 0) = decide (l = []) := by
 cases l with
 | nil => rfl
 | cons a r => simp
theorem rec_eq (r : RecM) : recB r = (decide (1 <= r.kind /\ r.kind <= 9) && tidB r.tid && ((((qidM r && qyesM r) && (risingB r.parts && (decide (loM r.kind <= (r.parts.length : Int)) && decide ((r.parts.length : Int) <= hiM r.kind)))) && decide ((r.puts.length : Int) <= npM r.kind)) && r.puts.all putB)) := by
 by_cases hk : 1 <= r.kind /\ r.kind <= 9
 ·have hc : r.kind = 1 ∨ r.kind = 2 ∨ r.kind = 3 ∨ r.kind = 4 ∨ r.kind = 5 ∨ r.kind = 6 ∨ r.kind = 7 ∨ r.kind = 8 ∨ r.kind = 9 := by omega
  unfold recB qidM qyesM loM hiM npM
  have hp0 : r.puts = [] -> r.puts.all putB = true := fun e => by rw [e]; rfl
  have hr0 : r.parts = [] -> risingB r.parts = true := fun e => by rw [e]; rfl
  have e1 : decide ((r.puts.length : Int) <= 10) = decide (r.puts.length <= 10) := by congr 1; simp; omega
  have e2 : decide ((r.parts.length : Int) <= 7) = decide (r.parts.length <= 7) := by congr 1; simp; omega
  have e3 : (decide ((1 : Int) <= (r.parts.length : Int)) && decide ((r.parts.length : Int) <= 1)) = decide (r.parts.length = 1) := by
   rw [<- Bool.decide_and]; congr 1; simp; omega
  have e4 : (decide ((1 : Int) <= (r.parts.length : Int)) && decide (r.parts.length <= 7)) = decide (1 <= r.parts.length /\ r.parts.length <= 7) := by
   rw [<- Bool.decide_and]; congr 1; simp; omega
  have e5 : decide ((0 : Int) <= (r.parts.length : Int)) = true := by simp
  have e6 : (risingB r.parts && decide (r.parts = [])) = decide (r.parts = []) := by
   by_cases h : r.parts = []
   ·rw [hr0 h]; simp
   ·simp [h]
  have e7 : (decide (r.puts = []) && r.puts.all putB) = decide (r.puts = []) := by
   by_cases h : r.puts = []
   ·rw [hp0 h]; simp
   ·simp [h]
  rcases hc with k | k | k | k | k | k | k | k | k <;> simp only [k] <;>
   simp only [show ((1 : Int) = 2) = False by simp, show ((3 : Int) = 2) = False by simp, show ((4 : Int) = 2) = False by simp, show ((5 : Int) = 2) = False by simp, show ((6 : Int) = 2) = False by simp, show ((7 : Int) = 2) = False by simp, show ((8 : Int) = 2) = False by simp, show ((9 : Int) = 2) = False by simp, if_true, if_false] <;>
   simp [len_zero, e1, e2, e5, Bool.and_assoc] <;> grind
 ·unfold recB
  rw [decide_eq_false hk]; rfl
theorem box_cell (w : World) (cs : Array Value) (t : TypeId) (i : Nat) (hi : i < cs.size) : (w.alloc (.cells cs t)).cell? ⟨w.heap.size, i, none⟩ = some cs[i] := by
 unfold World.cell? World.alloc; simp [hi]
theorem krecord_any (r : RecM) (hok : OkRec r) (v : Value) (w : World) (h : IsRec w v r) :
    Calls Tryz.prog 56 #[v] w fun e w' => e = .returned (.bool (recB r)) /\ Tch No w w' := by
  have RE := Lib.hid (rec_eq r)
  obtain ⟨kd, tid, id, yes, parts, puts⟩ := r
  obtain ⟨vp, vu, rfl, hp, hu⟩ := h
  have hkd := hok.kind
  have hti := hok.tid
  have hid := hok.id
  simp only at hkd hti hid hp hu
  have HT1 := Lib.hid (fun W => ktid_any tid hti W)
  have HT2 := Lib.hid (fun W => ktid_any id hid W)
  have HR := Lib.hid (fun lo hi W h => krising_any parts vp lo hi W h)
  have HC := Lib.hid (fun W h => containsputs_any puts hok.puts vu W h)
  obtain ⟨ap, cp, hvp, hcp, hmp⟩ := CellsAt.shape hp
  obtain ⟨au, cu, hvu, hcu, hmu⟩ := CellsAt.shape hu
  have HP : Hid (IsInts w vp parts) := hp
  have HU : Hid (IsPuts w vu puts) := hu
  clear hp hu hok hkd hti hid hcp hmp hcu hmu
  obtain ⟨np, hnp⟩ : ∃ n, parts.length = n := ⟨_, rfl⟩
  obtain ⟨nu, hnu⟩ : ∃ n, puts.length = n := ⟨_, rfl⟩
  simp only [qidM, qyesM, hnp, hnu] at RE
  rw [hnp] at hvp
  rw [hnu] at hvu
  simp only [hnp] at HR
  clear hnp hnu
  subst hvp hvu
  generalize recB _ = rb at RE ⊢
  generalize risingB parts = br at RE HR
  generalize puts.all putB = bp at RE HC
  generalize tidB tid = bt at RE HT1
  generalize tidB id = bi at RE HT2
  go_enter Tryz.func56, Tryz.ntmps56
  by_cases k1 : kd < 1
  · have HE : Hid (rb = false) := by rw [Hid, RE.out, decide_eq_false (by omega)]; rfl
    go_wp2_with fail
    go_ret
    exact ⟨ret_b HE.out.symm, Tch.alloc _ _⟩
  by_cases k9 : 9 < kd
  · have HE : Hid (rb = false) := by rw [Hid, RE.out, decide_eq_false (by omega)]; rfl
    go_wp2_with fail
    go_ret
    exact ⟨ret_b HE.out.symm, Tch.alloc _ _⟩
  have REk : Hid (decide (1 <= kd /\ kd <= 9) = true) := by simp [Hid]; omega
  cases bt with
  | false =>
    have HE : Hid (rb = false) := by rw [Hid, RE.out]; simp
    go_wp2_with (go_at_call 159; refine (HT1.out _).mono ?_; rintro e w' ⟨rfl, rfl⟩)
    go_ret
    exact ⟨ret_b HE.out.symm, Tch.alloc _ _⟩
  | true =>
    go_upto_block 0 with (go_at_call 159; refine (HT1.out _).mono ?_; rintro e w' ⟨rfl, rfl⟩)
    go_quiet (fail)
    go_upto_block 0 with fail
    go_cut [3, 4, 5, 6, 7] from 31 to 46 (fun s3 s4 s5 s6 s7 wx => s3 = .bool (if kd = 2 then bi else decide (id = 0)) /\ s4 = .bool (decide (kd = 5) || !yes) /\ s5 = .int .i64 (loM kd) /\ s6 = .int .i64 (hiM kd) /\ s7 = .int .i64 (npM kd) /\ Hid (Tch No w wx) /\ wx.cell? ⟨w.heap.size, 4, none⟩ = some (.slice ap np cp) /\ wx.cell? ⟨w.heap.size, 5, none⟩ = some (.slice au nu cu))
    case first =>
      clear RE REk HR HC HP HU
      have hc : kd = 1 ∨ kd = 2 ∨ kd = 3 ∨ kd = 4 ∨ kd = 5 ∨ kd = 6 ∨ kd = 7 ∨ kd = 8 ∨ kd = 9 := by omega
      clear k1 k9
      rcases hc with k | k | k | k | k | k | k | k | k <;> subst k <;>
        (go_wp2_with (go_at_call 159; refine (HT2.out _).mono ?_; rintro e w' ⟨rfl, rfl⟩)
         go_meet
         exact ⟨rfl, rfl, rfl, rfl, rfl, (Tch.alloc _ _).trans0 (tch_dn _ _), box_cell _ _ _ 4 (by simp), box_cell _ _ _ 5 (by simp)⟩)
    case rest =>
      obtain ⟨rfl, rfl, rfl, rfl, rfl, TT, c4, c5⟩ := hcut
      clear k1 k9
      generalize loM kd = lo at RE ⊢
      generalize hiM kd = hi at RE ⊢
      generalize npM kd = nn at RE ⊢
      generalize (if kd = 2 then bi else decide (id = 0)) = q1 at RE ⊢
      generalize (decide (kd = 5) || !yes) = q2 at RE ⊢
      rw [REk.out] at RE
      have HR1 : Hid (∀ W, Tch No wc W -> Calls Tryz.prog 163 #[.slice ap np cp, .int .i64 lo, .int .i64 hi] W fun e w' => e = .returned (.bool (br && (decide (lo <= (np : Int)) && decide ((np : Int) <= hi)))) /\ Tch No W w') := fun W T => HR.out lo hi W (HP.out.keep (TT.out.trans0 T))
      have HC2 := Lib.hid (HC.out wc (HU.out.keep TT.out))
      generalize (br && (decide (lo <= (np : Int)) && decide ((np : Int) <= hi))) = q3 at RE HR1
      have HR2 := HR1
      clear HR1 HR HC HP HU HT1 HT2 REk
      cases q1 with
      | false =>
        have HE : Hid (rb = false) := by rw [Hid, RE.out]; simp
        go_wp2_with (go_at_call 160; refine HC2.out.mono ?_; rintro e w' ⟨rfl, T2⟩; have d4 := T2.cell c4 (fun h => h); have d5 := T2.cell c5 (fun h => h))
        go_ret
        exact ⟨ret_b HE.out.symm, TT.out.trans0 T2⟩
      | true =>
        cases q2 with
        | false =>
          have HE : Hid (rb = false) := by rw [Hid, RE.out]; simp
          go_wp2_with (go_at_call 160; refine HC2.out.mono ?_; rintro e w' ⟨rfl, T2⟩; have d4 := T2.cell c4 (fun h => h); have d5 := T2.cell c5 (fun h => h))
          go_ret
          exact ⟨ret_b HE.out.symm, TT.out.trans0 T2⟩
        | true =>
          cases q3 with
          | false =>
            have HE : Hid (rb = false) := by rw [Hid, RE.out]; simp
            go_wp2_with (first
              | (go_at_call 160; refine HC2.out.mono ?_; rintro e w' ⟨rfl, T2⟩; have d4 := T2.cell c4 (fun h => h); have d5 := T2.cell c5 (fun h => h))
              | (go_at_call 163; refine (HR2.out _ T2).mono ?_; rintro e w' ⟨rfl, T3⟩; have f4 := T3.cell d4 (fun h => h); have f5 := T3.cell d5 (fun h => h)))
            go_ret
            exact ⟨ret_b HE.out.symm, (TT.out.trans0 T2).trans0 T3⟩
          | true =>
            cases hn : decide ((nu : Int) <= nn) with
            | false =>
              have HE : Hid (rb = false) := by rw [Hid, RE.out, hn]; simp
              go_wp2_with (first
                | (go_at_call 160; refine HC2.out.mono ?_; rintro e w' ⟨rfl, T2⟩; have d4 := T2.cell c4 (fun h => h); have d5 := T2.cell c5 (fun h => h))
                | (go_at_call 163; refine (HR2.out _ T2).mono ?_; rintro e w' ⟨rfl, T3⟩; have f4 := T3.cell d4 (fun h => h); have f5 := T3.cell d5 (fun h => h)))
              go_ret
              exact ⟨ret_b HE.out.symm, (TT.out.trans0 T2).trans0 T3⟩
            | true =>
              have HE : Hid (rb = bp) := by rw [Hid, RE.out, hn]; simp
              go_wp2_with (first
                | (go_at_call 160; refine HC2.out.mono ?_; rintro e w' ⟨rfl, T2⟩; have d4 := T2.cell c4 (fun h => h); have d5 := T2.cell c5 (fun h => h))
                | (go_at_call 163; refine (HR2.out _ T2).mono ?_; rintro e w' ⟨rfl, T3⟩; have f4 := T3.cell d4 (fun h => h); have f5 := T3.cell d5 (fun h => h)))
              go_ret
              exact ⟨ret_b (by first | (rw [HE.out]; done) | (rw [HE.out]; simp)), (TT.out.trans0 T2).trans0 T3⟩
end
end Go.Proofs.YtafndmnbnmlklaaGreat
