/- Part 6 of what the proof of OrderCounts rests on. No condition. -/
import Derived.BigQuiet
import Derived.Test.YtelaljoebdpicaaGreatPOrderCounts03
namespace Go.Proofs.YtelaljoebdpicaaGreat
set_option maxRecDepth 100000
set_option maxHeartbeats 60000000
set_option linter.unusedVariables false
set_option linter.unusedSimpArgs false
set_option linter.unusedSectionVars false
section
open Go.RowKit Go.Maps
theorem qt_l {P : Program} {f : FuncId} {args : Array Value} {w : World} {n : Nat} {v : Value}
  (h : Calls P f args (w.drewN n) fun e w' => e = .returned v /\ w.drewN n = w') : Calls P f args (w.drewN n) fun e w'' => e = .returned v /\ ∃ m, w'' = w.drewN m :=
 h.mono fun _ _ ⟨he, hm⟩ => ⟨he, n, hm.symm⟩
theorem tch_dn (w : World) (n : Nat) : Tch No w (w.drewN n) := ⟨rfl, rfl, rfl, Nat.le_refl _, fun _ _ _ => rfl⟩
theorem rrising_any (l : List Int) (v : Value) (w : World) (h : IsInts w v l) :
  Calls Tryz.prog 92 #[v] w fun e w' => e = .returned (.bool (risingB l && decide ((l.length : Int) <= 7))) /\ Tch No w w' := by
 have H := Lib.hid h
 obtain ⟨m, hm⟩ : ∃ m, l.length = m := ⟨_, rfl⟩
 have HM := Lib.hid hm
 obtain ⟨a, cap, hv, hcap, hmax⟩ := CellsAt.shape h
 rw [hm] at hcap hv ⊢
 have hml : m <= 9223372036854775807 := by unfold maxLen at hmax; omega
 subst hv
 clear h hm hcap hmax
 have HB := Lib.hid (fun n W => rbroker_any n W)
 go_enter Tryz.func92, Tryz.ntmps92
 go_wp2_with fail
 go_loopg [3] m (fun kx s3 wr => ∃ k : Nat, s3 = .int .i64 k /\ k <= m /\ m - k <= kx /\ Hid (Tch No w wr) /\ Hid (RiseTo l k))
 case atStart => exact ⟨0, rfl, Nat.zero_le _, by omega, Tch.refl _ _, fun i _ h => absurd h (Nat.not_lt_zero _)⟩
 case round =>
  obtain ⟨k, rfl, hk, hg, TT, I⟩ := hrel
  by_cases hlt : k < m
  ·have hkl : k < l.length := by have := HM.out; omega
   have HW : Hid (IsInts wr (.slice a m cap) l) := IsInts.keep H.out TT.out
   have hb : ∃ b o, a = some ⟨b, o, none⟩ /\ ∀ i (hi : i < l.length), wr.cell? ⟨b, o + i, none⟩ = some (.int .i64 l[i]) := by
    rcases ints_cells HW.out with ⟨_, h0⟩ | ⟨b, o, cap2, h1, _, _, _, h5⟩
    ·subst h0; simp at hkl
    ·rw [HM.out] at h1
     injection h1 with h1 _ _
     exact ⟨b, o, h1, h5⟩
   obtain ⟨b, o, rfl, hc⟩ := hb
   have hc1 := hc k hkl
   have HC := Lib.hid hc
   clear hc
   obtain ⟨x, hx⟩ : ∃ x, l[k] = x := ⟨_, rfl⟩
   rw [hx] at hc1
   have HX := Lib.hid hx
   clear hx
   cases hbx : brokerB x with
   | false =>
    have HB2 : Hid (∀ W, Calls Tryz.prog 53 #[.int .i64 x] W fun e w' => e = .returned (.bool false) /\ W = w') := fun W => by rw [<- hbx]; exact HB.out x W
    have HX2 := Lib.hid hbx
    clear hbx
    go_wp2_with fail
    go_quiet ((go_at_call 53; exact qt_l (HB2.out _)))
    go_wp2_with fail
    go_ret
    exact ⟨ret_b (by rw [rise_bad hkl (.inl (by rw [HX.out]; exact HX2.out))]; rfl), TT.out.trans0 (tch_dn _ _)⟩
   | true =>
    have HB2 : Hid (∀ W, Calls Tryz.prog 53 #[.int .i64 x] W fun e w' => e = .returned (.bool true) /\ W = w') := fun W => by rw [<- hbx]; exact HB.out x W
    have HX2 := Lib.hid hbx
    clear hbx
    by_cases h0 : k = 0
    ·have HI : Hid (RiseTo l (k + 1)) := rise_step I.out hkl (by rw [HX.out]; exact HX2.out) (fun h => by omega)
     subst h0
     simp only [Nat.add_zero] at hc1
     go_wp2_with fail
     go_quiet ((go_at_call 53; exact qt_l (HB2.out _)))
     go_wp2_with fail
     go_roundg (m - 1)
     case measure => omega
     case rel => exact ⟨1, by go_num, by omega, by omega, TT.out.trans0 (tch_dn _ _), HI⟩
    ·have hk0 : 0 < k := by omega
     have hc2 := HC.out (k - 1) (by omega)
     obtain ⟨y, hy⟩ : ∃ y, l[k - 1] = y := ⟨_, rfl⟩
     rw [hy] at hc2
     have HY := Lib.hid hy
     clear hy
     have hk1 : (k : Int) - 1 = ((k - 1 : Nat) : Int) := by omega
     have hk3 : k - 1 < m := by omega
     have hd0 : decide ((0 : Int) < (k : Int)) = true := decide_eq_true (by omega)
     have hd0' : decide (0 < k) = true := decide_eq_true (by omega)
     by_cases hyx : y < x
     ·have HI : Hid (RiseTo l (k + 1)) := rise_step I.out hkl (by rw [HX.out]; exact HX2.out) (fun h => by rw [HY.out, HX.out]; exact hyx)
      have hd : decide (x <= y) = false := decide_eq_false (by omega)
      go_wp2_with fail
      go_quiet ((go_at_call 53; exact qt_l (HB2.out _)))
      go_wp2_with fail
      go_roundg (m - (k + 1))
      case measure => omega
      case rel => exact ⟨k + 1, by go_num, by omega, by omega, TT.out.trans0 (tch_dn _ _), HI⟩
     ·have hd : decide (x <= y) = true := decide_eq_true (by omega)
      have HN : Hid (risingB l = false) := rise_bad hkl (.inr ⟨hk0, by rw [HY.out, HX.out]; exact hyx⟩)
      go_wp2_with fail
      go_quiet ((go_at_call 53; exact qt_l (HB2.out _)))
      go_wp2_with fail
      go_ret
      exact ⟨ret_b (by rw [HN.out]; rfl), TT.out.trans0 (tch_dn _ _)⟩
  ·obtain rfl : k = m := by omega
   have HN : Hid (risingB l = true) := rise_all.1 (by rw [HM.out]; exact I.out)
   clear hg hlt hk
   go_wp2_with fail
   go_ret
   exact ⟨ret_b (by first | rfl | (rw [HN.out]; rfl) | simp [HN.out]), TT.out⟩
theorem mem_at {l : List Int} {k : Nat} {x : Int} (hk : k < l.length) (e : l[k] = x) : l.contains x = true := by
 rw [<- e]; simp
theorem not_mem_all {l : List Int} {x : Int} (h : ∀ i (hi : i < l.length), ¬ l[i] = x) : l.contains x = false := by
 cases e : l.contains x with
 | false => rfl
 | true =>
  have : x ∈ l := by simpa using e
  obtain ⟨i, hi, e2⟩ := List.getElem_of_mem this
  exact absurd e2 (h i hi)
theorem rhas_any (l : List Int) (t : Int) (v : Value) (w : World) (h : IsInts w v l) :
  Calls Tryz.prog 79 #[v, .int .i64 t] w fun e w' => e = .returned (.bool (l.contains t)) /\ w = w' := by
 have H := Lib.hid h
 obtain ⟨m, hm⟩ : ∃ m, l.length = m := ⟨_, rfl⟩
 have HM := Lib.hid hm
 obtain ⟨a, cap, hv, hcap, hmax⟩ := CellsAt.shape h
 rw [hm] at hcap hv
 have hml : m <= 9223372036854775807 := by unfold maxLen at hmax; omega
 subst hv
 clear h hm hcap hmax
 go_enter Tryz.func79, Tryz.ntmps79
 go_wp2_with fail
 go_loopg [5] m (fun kx s5 wr => ∃ k : Nat, s5 = .int .i64 k /\ k <= m /\ m - k <= kx /\ wr = w /\ Hid (∀ i (hi : i < l.length), i < k -> ¬ l[i] = t))
 case atStart => exact ⟨0, rfl, Nat.zero_le _, by omega, rfl, fun i _ h => absurd h (Nat.not_lt_zero _)⟩
 case round =>
  obtain ⟨k, rfl, hk, hg, rfl, I⟩ := hrel
  by_cases hlt : k < m
  ·have hkl : k < l.length := by have := HM.out; omega
   have hb : ∃ b o, a = some ⟨b, o, none⟩ /\ ∀ i (hi : i < l.length), wr.cell? ⟨b, o + i, none⟩ = some (.int .i64 l[i]) := by
    rcases ints_cells H.out with ⟨_, h0⟩ | ⟨b, o, cap2, h1, _, _, _, h5⟩
    ·subst h0; simp at hkl
    ·rw [HM.out] at h1
     injection h1 with h1 _ _
     exact ⟨b, o, h1, h5⟩
   obtain ⟨b, o, rfl, hc⟩ := hb
   have hc1 := hc k hkl
   clear hc
   obtain ⟨x, hx⟩ : ∃ x, l[k] = x := ⟨_, rfl⟩
   rw [hx] at hc1
   have HX := Lib.hid hx
   clear hx
   by_cases hxt : x = t
   ·have HC : Hid (l.contains t = true) := mem_at hkl (by rw [HX.out]; exact hxt)
    have hd : (x == t) = true := by simpa using hxt
    have hd2 : (t == x) = true := by simpa using hxt.symm
    clear hxt
    go_wp2_with fail
    go_ret
    exact ⟨ret_b HC.out.symm, rfl⟩
   ·have hd : (x == t) = false := by simpa using hxt
    have hd2 : (t == x) = false := by simpa using fun e : t = x => hxt e.symm
    have HN : Hid (∀ i (hi : i < l.length), i < k + 1 -> ¬ l[i] = t) := fun i h1 h2 => by
     by_cases e : i = k
     ·subst e; rw [HX.out]; exact hxt
     ·exact I.out i h1 (by omega)
    clear hxt
    go_wp2_with fail
    go_roundg (m - (k + 1))
    case measure => omega
    case rel => exact ⟨k + 1, by go_num, by omega, by omega, rfl, HN⟩
  ·obtain rfl : k = m := by omega
   have HC : Hid (l.contains t = false) := not_mem_all (fun i hi => I.out i hi (by have := HM.out; omega))
   clear hg hlt hk
   go_wp2_with fail
   go_ret
   exact ⟨ret_b HC.out.symm, rfl⟩
theorem index_any (l : List Int) (t : Int) (v : Value) (w : World) (h : IsInts w v l) :
  Calls Tryz.prog 187 #[v, .int .i64 t] w fun e w' => (∃ n : Int, e = .returned (.int .i64 n) /\ decide (0 <= n) = l.contains t) /\ w = w' := by
 have H := Lib.hid h
 obtain ⟨m, hm⟩ : ∃ m, l.length = m := ⟨_, rfl⟩
 have HM := Lib.hid hm
 obtain ⟨a, cap, hv, hcap, hmax⟩ := CellsAt.shape h
 rw [hm] at hcap hv
 have hml : m <= 9223372036854775807 := by unfold maxLen at hmax; omega
 subst hv
 clear h hm hcap hmax
 go_enter Tryz.func187, Tryz.ntmps187
 go_wp2_with fail
 go_loopg [5, 8] m (fun kx s5 s8 wr => ∃ k : Nat, s8 = .int .i64 k /\ k <= m /\ m - k <= kx /\ wr = w /\ Hid (∀ i (hi : i < l.length), i < k -> ¬ l[i] = t))
 case atStart => exact ⟨0, rfl, Nat.zero_le _, by omega, rfl, fun i _ h => absurd h (Nat.not_lt_zero _)⟩
 case round =>
  obtain ⟨k, rfl, hk, hg, rfl, I⟩ := hrel
  by_cases hlt : k < m
  ·have hkl : k < l.length := by have := HM.out; omega
   have hb : ∃ b o, a = some ⟨b, o, none⟩ /\ ∀ i (hi : i < l.length), wr.cell? ⟨b, o + i, none⟩ = some (.int .i64 l[i]) := by
    rcases ints_cells H.out with ⟨_, h0⟩ | ⟨b, o, cap2, h1, _, _, _, h5⟩
    ·subst h0; simp at hkl
    ·rw [HM.out] at h1
     injection h1 with h1 _ _
     exact ⟨b, o, h1, h5⟩
   obtain ⟨b, o, rfl, hc⟩ := hb
   have hc1 := hc k hkl
   clear hc
   obtain ⟨x, hx⟩ : ∃ x, l[k] = x := ⟨_, rfl⟩
   rw [hx] at hc1
   have HX := Lib.hid hx
   clear hx
   by_cases hxt : x = t
   ·have HC : Hid (l.contains t = true) := mem_at hkl (by rw [HX.out]; exact hxt)
    have hd : (x == t) = true := by simpa using hxt
    have hd2 : (t == x) = true := by simpa using hxt.symm
    clear hxt
    go_wp2_with fail
    go_ret
    exact ⟨⟨(k : Int), rfl, by rw [HC.out]; simp⟩, rfl⟩
   ·have hd : (x == t) = false := by simpa using hxt
    have hd2 : (t == x) = false := by simpa using fun e : t = x => hxt e.symm
    have HN : Hid (∀ i (hi : i < l.length), i < k + 1 -> ¬ l[i] = t) := fun i h1 h2 => by
     by_cases e : i = k
     ·subst e; rw [HX.out]; exact hxt
     ·exact I.out i h1 (by omega)
    clear hxt
    go_wp2_with fail
    go_roundg (m - (k + 1))
    case measure => omega
    case rel => exact ⟨k + 1, by go_num, by omega, by omega, rfl, HN⟩
  ·obtain rfl : k = m := by omega
   have HC : Hid (l.contains t = false) := not_mem_all (fun i hi => I.out i hi (by have := HM.out; omega))
   clear hg hlt hk
   go_wp2_with fail
   go_ret
   exact ⟨⟨-1, rfl, by rw [HC.out]; rfl⟩, rfl⟩
theorem contains_any (l : List Int) (t : Int) (v : Value) (w : World) (h : IsInts w v l) :
  Calls Tryz.prog 147 #[v, .int .i64 t] w fun e w' => e = .returned (.bool (l.contains t)) /\ w = w' := by
 have hi := Lib.hid (index_any l t v w h)
 obtain ⟨a, cap, rfl, _⟩ := CellsAt.shape h
 clear h
 generalize l.contains t = q at hi ⊢
 go_enter Tryz.func147, Tryz.ntmps147
 go_wp2_with (go_at_call 187; refine hi.out.mono ?_; rintro e w' ⟨⟨n, rfl, hn⟩, rfl⟩)
 go_ret
 exact ⟨ret_b (by first | assumption | (rw [<- hn]; done) | (rw [<- hn]; simp)), rfl⟩
theorem all_bad {l : List PutM} {k : Nat} (hk : k < l.length) (e : putB l[k] = false) : l.all putB = false := by
 rw [List.all_eq_false]; exact ⟨l[k], List.getElem_mem hk, by rw [e]; simp⟩
theorem all_good {l : List PutM} (h : ∀ i (hi : i < l.length), putB l[i] = true) : l.all putB = true := by
 rw [List.all_eq_true]; intro x hx
 obtain ⟨i, hi, rfl⟩ := List.getElem_of_mem hx
 exact h i hi
theorem rputs_any (l : List PutM) (hok : ∀ p ∈ l, OkPut p) (v : Value) (w : World) (h : IsPuts w v l) :
  Calls Tryz.prog 59 #[v] w fun e w' => e = .returned (.bool (l.all putB && decide ((l.length : Int) <= 10))) /\ Tch No w w' := by
 have HP := Lib.hid (fun p hp W => rput_t p hp W)
 have HO := Lib.hid hok
 clear hok
 have H := Lib.hid h
 obtain ⟨m, hm⟩ : ∃ m, l.length = m := ⟨_, rfl⟩
 have HM := Lib.hid hm
 obtain ⟨a, cap, hv, hcap, hmax⟩ := CellsAt.shape h
 rw [hm] at hcap hv ⊢
 have hml : m <= 9223372036854775807 := by unfold maxLen at hmax; omega
 subst hv
 clear h hm hcap hmax
 go_enter Tryz.func59, Tryz.ntmps59
 go_wp2_with fail
 go_loopg [3] m (fun kx s3 wr => ∃ k : Nat, s3 = .int .i64 k /\ k <= m /\ m - k <= kx /\ Hid (Tch No w wr) /\ Hid (∀ i (hi : i < l.length), i < k -> putB l[i] = true))
 case atStart => exact ⟨0, rfl, Nat.zero_le _, by omega, Tch.refl _ _, fun i _ h => absurd h (Nat.not_lt_zero _)⟩
 case round =>
  obtain ⟨k, rfl, hk, hg, TT, I⟩ := hrel
  by_cases hlt : k < m
  ·have hkl : k < l.length := by have := HM.out; omega
   have HW : Hid (IsPuts wr (.slice a m cap) l) := IsPuts.keep H.out TT.out
   have hb : ∃ b o, a = some ⟨b, o, none⟩ /\ ∀ i (hi : i < l.length), wr.cell? ⟨b, o + i * 2, none⟩ = some (strV l[i].q) /\ wr.cell? ⟨b, o + i * 2 + 1, none⟩ = some (strV l[i].b) := by
    rcases puts_cells HW.out with ⟨_, h0⟩ | ⟨b, o, cap2, h1, _, _, _, h5⟩
    ·subst h0; simp at hkl
    ·rw [HM.out] at h1
     injection h1 with h1 _ _
     exact ⟨b, o, h1, h5⟩
   obtain ⟨b, o, rfl, hc⟩ := hb
   have hc1 := (hc k hkl).1
   have hc2 := (hc k hkl).2
   clear hc
   have HC := Lib.hid (fun W => HP.out l[k] (HO.out _ (List.getElem_mem hkl)) W)
   obtain ⟨x, hx⟩ : ∃ x, strV l[k].q = x := ⟨_, rfl⟩
   obtain ⟨y, hy⟩ : ∃ y, strV l[k].b = y := ⟨_, rfl⟩
   have hxc : x.cells = #[x] := by rw [<- hx]; rfl
   have hyc : y.cells = #[y] := by rw [<- hy]; rfl
   simp only [Value.cells] at hxc hyc
   rw [hx] at hc1
   rw [hy] at hc2
   rw [hx, hy] at HC
   clear hx hy
   cases hq : putB l[k] with
   | false =>
    rw [hq] at HC
    have HN : Hid (l.all putB = false) := all_bad hkl hq
    clear hq
    go_wp2_with (go_at_call 138; refine (HC.out _).mono ?_; rintro e w' ⟨rfl, T2⟩)
    go_ret
    exact ⟨ret_b (by rw [HN.out]; rfl), TT.out.trans0 T2⟩
   | true =>
    rw [hq] at HC
    have HN : Hid (∀ i (hi : i < l.length), i < k + 1 -> putB l[i] = true) := fun i h1 h2 => by
     by_cases e : i = k
     ·subst e; exact hq
     ·exact I.out i h1 (by omega)
    clear hq
    go_wp2_with (go_at_call 138; refine (HC.out _).mono ?_; rintro e w' ⟨rfl, T2⟩)
    go_roundg (m - (k + 1))
    case measure => omega
    case rel => exact ⟨k + 1, by go_num, by omega, by omega, TT.out.trans0 T2, HN⟩
  ·obtain rfl : k = m := by omega
   have HN : Hid (l.all putB = true) := all_good (fun i hi => I.out i hi (by have := HM.out; omega))
   clear hg hlt hk
   go_wp2_with fail
   go_ret
   exact ⟨ret_b (by first | rfl | (rw [HN.out]; rfl) | simp [HN.out]), TT.out⟩
theorem krec1_t (p : PutM) (hp : OkPut p) (w : World) : Calls Tryz.prog 141 #[.agg #[strV p.q, strV p.b]] w fun e w' => e = .returned (.bool (!putB p)) /\ Tch No w w' := by
 have hk := Lib.hid (fun W => kput_t p hp W)
 obtain ⟨x, hx⟩ : ∃ x, strV p.q = x := ⟨_, rfl⟩
 obtain ⟨y, hy⟩ : ∃ y, strV p.b = y := ⟨_, rfl⟩
 have hxc : x.cells = #[x] := by rw [<- hx]; rfl
 have hyc : y.cells = #[y] := by rw [<- hy]; rfl
 simp only [Value.cells] at hxc hyc
 rw [hx, hy] at hk ⊢
 generalize putB p = q at hk ⊢
 clear hx hy hp
 go_enter Tryz.func141, Tryz.ntmps141
 go_wp2_with (go_at_call 135; refine (hk.out _).mono ?_; rintro e w' ⟨rfl, T⟩)
 go_ret
 exact ⟨rfl, (Tch.alloc _ _).trans0 T⟩
theorem indexputs_any (l : List PutM) (hok : ∀ p ∈ l, OkPut p) (v : Value) (w : World) (h : IsPuts w v l) :
  Calls Tryz.prog 183 #[v, .func (.func 141) #[] #[]] w fun e w' => (∃ n : Int, e = .returned (.int .i64 n) /\ decide (0 <= n) = !l.all putB) /\ Tch No w w' := by
 have HP := Lib.hid (fun p hp W => krec1_t p hp W)
 have HO := Lib.hid hok
 clear hok
 have H := Lib.hid h
 obtain ⟨m, hm⟩ : ∃ m, l.length = m := ⟨_, rfl⟩
 have HM := Lib.hid hm
 obtain ⟨a, cap, hv, hcap, hmax⟩ := CellsAt.shape h
 rw [hm] at hcap hv
 have hml : m <= 9223372036854775807 := by unfold maxLen at hmax; omega
 subst hv
 clear h hm hcap hmax
 go_enter Tryz.func183, Tryz.ntmps183
 go_wp2_with fail
 go_loopg [5, 8] m (fun kx s5 s8 wr => ∃ k : Nat, s8 = .int .i64 k /\ k <= m /\ m - k <= kx /\ Hid (Tch No w wr) /\ Hid (∀ i (hi : i < l.length), i < k -> putB l[i] = true))
 case atStart => exact ⟨0, rfl, Nat.zero_le _, by omega, Tch.refl _ _, fun i _ h => absurd h (Nat.not_lt_zero _)⟩
 case round =>
  obtain ⟨k, rfl, hk, hg, TT, I⟩ := hrel
  by_cases hlt : k < m
  ·have hkl : k < l.length := by have := HM.out; omega
   have HW : Hid (IsPuts wr (.slice a m cap) l) := IsPuts.keep H.out TT.out
   have hb : ∃ b o, a = some ⟨b, o, none⟩ /\ ∀ i (hi : i < l.length), wr.cell? ⟨b, o + i * 2, none⟩ = some (strV l[i].q) /\ wr.cell? ⟨b, o + i * 2 + 1, none⟩ = some (strV l[i].b) := by
    rcases puts_cells HW.out with ⟨_, h0⟩ | ⟨b, o, cap2, h1, _, _, _, h5⟩
    ·subst h0; simp at hkl
    ·rw [HM.out] at h1
     injection h1 with h1 _ _
     exact ⟨b, o, h1, h5⟩
   obtain ⟨b, o, rfl, hc⟩ := hb
   have hc1 := (hc k hkl).1
   have hc2 := (hc k hkl).2
   clear hc
   have HC := Lib.hid (fun W => HP.out l[k] (HO.out _ (List.getElem_mem hkl)) W)
   obtain ⟨x, hx⟩ : ∃ x, strV l[k].q = x := ⟨_, rfl⟩
   obtain ⟨y, hy⟩ : ∃ y, strV l[k].b = y := ⟨_, rfl⟩
   have hxc : x.cells = #[x] := by rw [<- hx]; rfl
   have hyc : y.cells = #[y] := by rw [<- hy]; rfl
   simp only [Value.cells] at hxc hyc
   rw [hx] at hc1
   rw [hy] at hc2
   rw [hx, hy] at HC
   clear hx hy
   cases hq : putB l[k] with
   | false =>
    rw [hq] at HC
    have HN : Hid (l.all putB = false) := all_bad hkl hq
    clear hq
    go_wp2_with (go_at_call 141; refine (HC.out _).mono ?_; rintro e w' ⟨rfl, T2⟩)
    go_ret
    exact ⟨⟨(k : Int), rfl, by rw [HN.out]; simp⟩, TT.out.trans0 T2⟩
   | true =>
    rw [hq] at HC
    have HN : Hid (∀ i (hi : i < l.length), i < k + 1 -> putB l[i] = true) := fun i h1 h2 => by
     by_cases e : i = k
     ·subst e; exact hq
     ·exact I.out i h1 (by omega)
    clear hq
    go_wp2_with (go_at_call 141; refine (HC.out _).mono ?_; rintro e w' ⟨rfl, T2⟩)
    go_roundg (m - (k + 1))
    case measure => omega
    case rel => exact ⟨k + 1, by go_num, by omega, by omega, TT.out.trans0 T2, HN⟩
  ·obtain rfl : k = m := by omega
   have HN : Hid (l.all putB = true) := all_good (fun i hi => I.out i hi (by have := HM.out; omega))
   clear hg hlt hk
   go_wp2_with fail
   go_ret
   exact ⟨⟨-1, rfl, by rw [HN.out]; rfl⟩, TT.out⟩
theorem containsputs_any (l : List PutM) (hok : ∀ p ∈ l, OkPut p) (v : Value) (w : World) (h : IsPuts w v l) :
  Calls Tryz.prog 140 #[v, .func (.func 141) #[] #[]] w fun e w' => e = .returned (.bool (!l.all putB)) /\ Tch No w w' := by
 have hi := Lib.hid (indexputs_any l hok v w h)
 obtain ⟨a, cap, rfl, _⟩ := CellsAt.shape h
 clear h hok
 generalize (!l.all putB) = q at hi ⊢
 go_enter Tryz.func140, Tryz.ntmps140
 go_wp2_with (go_at_call 183; refine hi.out.mono ?_; rintro e w' ⟨⟨n, rfl, hn⟩, T⟩)
 go_ret
 exact ⟨ret_b (by first | assumption | (rw [<- hn]; done) | (rw [<- hn]; simp)), T⟩
end
end Go.Proofs.YtelaljoebdpicaaGreat
