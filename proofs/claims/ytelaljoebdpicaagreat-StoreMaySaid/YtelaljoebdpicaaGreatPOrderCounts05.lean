/- Part 5 of what the proof of OrderCounts rests on. No condition. -/
import Derived.Deep.LoopGhost
import Derived.Test.YtelaljoebdpicaaGreatPOrderCounts02
namespace Go.Proofs.YtelaljoebdpicaaGreat
set_option maxRecDepth 100000
set_option maxHeartbeats 60000000
set_option linter.unusedVariables false
set_option linter.unusedSimpArgs false
set_option linter.unusedSectionVars false
section
open Go.RowKit Go.Maps
def cmpI (x y : Int) : Int := if x < y then -1 else if y < x then 1 else 0
theorem isnan_any (x : Int) (w : World) : Calls Tryz.prog 161 #[.int .i64 x] w fun e w' => e = .returned (.bool false) /\ w = w' := by
 go_enter Tryz.func161, Tryz.ntmps161
 go_wp2_with fail
 go_ret
 exact ⟨by simp, rfl⟩
theorem compare_any (x y : Int) (w : World) : Calls Tryz.prog 91 #[.int .i64 x, .int .i64 y] w fun e w' => e = .returned (.int .i64 (cmpI x y)) /\ w = w' := by
 have hi := Lib.hid (fun x W => isnan_any x W)
 go_enter Tryz.func91, Tryz.ntmps91
 go_wp2_with (go_at_call 161; refine (hi.out _ _).mono ?_; rintro e w' ⟨rfl, rfl⟩)
 all_goals (go_ret; refine ⟨?_, rfl⟩; unfold cmpI; (repeat' split) <;> first | rfl | (exfalso; omega))
theorem one_cells {v : Value} (h : v.oneCell' = true) : v.cells = #[v] := by cases v <;> first | rfl | cases h
theorem pair_cells {α : Type} {w : World} {v : Value} {f : α -> Int} {g : α -> Value} {l : List α} (h : CellsAt w v l.length 2 (l.flatMap (fun x => [.int .i64 (f x), g x]))) :
  (v = .slice none 0 0 /\ l = []) ∨ ∃ b o cap, v = .slice (some ⟨b, o, none⟩) l.length cap /\ l.length <= cap /\ cap <= maxLen /\ b < w.heap.size /\ ∀ i (hi : i < l.length), w.cell? ⟨b, o + i * 2, none⟩ = some (.int .i64 (f l[i])) /\ w.cell? ⟨b, o + i * 2 + 1, none⟩ = some (g l[i]) := by
 rcases h.2 with ⟨h1, h2⟩ | ⟨b, o, cap, h1, h2, h3, h4, h5⟩
 ·exact .inl ⟨h1, List.eq_nil_of_length_eq_zero h2⟩
 ·refine .inr ⟨b, o, cap, h1, h2, h3, h4, fun i hi => ⟨?_, ?_⟩⟩
  ·have := h5 (i * 2 + 0) (.int .i64 (f l[i])) (by rw [flat_get _ 2 (fun _ => rfl) l i 0 hi (by omega)]; rfl)
   simpa using this
  ·have := h5 (i * 2 + 1) (g l[i]) (by rw [flat_get _ 2 (fun _ => rfl) l i 1 hi (by omega)]; rfl)
   simpa [Nat.add_assoc] using this
theorem key_mono {α : Type} {f : α -> Int} {l : List α} (h : strictB (l.map f) = true) {i j : Nat} (hij : i <= j) (hj : j < l.length) : f (l[i]'(by omega)) <= f l[j] := by
 rcases Nat.lt_or_ge i j with h1 | h1
 ·have := strictB_get h h1 (by simpa using hj)
  simp only [List.getElem_map] at this
  omega
 ·obtain rfl : i = j := by omega
  exact Int.le_refl _
theorem ends_cmp (a t : Int) (y : Value) (w : World) (hy : y.oneCell' = true) : Calls Tryz.prog 144 #[.agg #[.int .i64 a, y], .int .i64 t] w fun e w' => e = .returned (.int .i64 (cmpI a t)) /\ Tch No w w' := by
 have hc := Lib.hid (fun x y W => compare_any x y W)
 go_enter Tryz.func144, Tryz.ntmps144
 go_wp2_with (go_at_call 91; refine (hc.out _ _ _).mono ?_; rintro e w' ⟨rfl, rfl⟩)
 go_ret
 exact ⟨rfl, Tch.alloc _ _⟩
theorem ends_bs {α : Type} (f : α -> Int) (g : α -> Value) (l : List α) (hs : strictB (l.map f) = true) (t : Int) (v : Value) (w : World) (h : CellsAt w v l.length 2 (l.flatMap (fun x => [.int .i64 (f x), g x])))
  (hg : ∀ x ∈ l, (g x).oneCell' = true) (hl : l.length <= 1000000000) :
  Calls Tryz.prog 143 #[v, .int .i64 t, .func (.func 144) #[] #[]] w fun e w' => e = .returned (.tuple #[.int .i64 (posP f l t : Nat), .bool (hasP f l t)]) /\ Tch No w w' := by
 have hcmp := Lib.hid (fun a t y W hy => ends_cmp a t y W hy)
 have H := Lib.hid h
 have HS := Lib.hid hs
 have HG := Lib.hid hg
 obtain ⟨m, hm⟩ : ∃ m, l.length = m := ⟨_, rfl⟩
 have HM := Lib.hid hm
 have hshape : ∃ a cap, v = .slice a m cap /\ m <= cap /\ cap <= maxLen := by rw [<- hm]; exact h.shape
 obtain ⟨a, cap, hv, hcap, hmax⟩ := hshape
 rw [hm] at hl
 subst hv
 clear h hs hm hg hmax hcap
 go_enter Tryz.func143, Tryz.ntmps143
 go_wp2_with fail
 go_loopg [9, 10] m (fun kx s9 s10 wr => ∃ lo hi : Nat, s9 = .int .i64 lo /\ s10 = .int .i64 hi /\ lo <= hi /\ hi <= m /\ hi - lo <= kx /\ Hid (Tch No w wr) /\ Hid ((∀ i (hi : i < l.length), i < lo -> f l[i] < t) /\ (∀ i (hh : i < l.length), hi <= i -> ¬ f l[i] < t)))
 case atStart => exact ⟨0, m, rfl, rfl, Nat.zero_le _, Nat.le_refl _, by omega, Tch.refl _ _, ⟨fun i _ h => absurd h (Nat.not_lt_zero _), fun i hh h => by have := HM.out; omega⟩⟩
 case round =>
  obtain ⟨lo, hi, rfl, rfl, hlh, him, hg, T1, I⟩ := hrel
  by_cases hlt : lo < hi
  ·obtain ⟨k, hk⟩ : ∃ k, (lo + hi) / 2 = k := ⟨_, rfl⟩
   have hkl : k < l.length := by have := HM.out; omega
   have hb : ∃ b o, a = some ⟨b, o, none⟩ /\ wr.cell? ⟨b, o + k * 2, none⟩ = some (.int .i64 (f l[k])) /\ wr.cell? ⟨b, o + k * 2 + 1, none⟩ = some (g l[k]) := by
    rcases pair_cells H.out with ⟨_, h0⟩ | ⟨b, o, cap2, h1, _, _, _, h5⟩
    ·subst h0; simp at hkl
    ·rw [HM.out] at h1
     injection h1 with h1 _ _
     exact ⟨b, o, h1, T1.out.cell (h5 k hkl).1 (fun h => h), T1.out.cell (h5 k hkl).2 (fun h => h)⟩
   obtain ⟨b, o, rfl, hc1, hc2⟩ := hb
   have hy : (g l[k]).oneCell' = true := HG.out _ (List.getElem_mem hkl)
   obtain ⟨x, hx⟩ : ∃ x, f l[k] = x := ⟨_, rfl⟩
   obtain ⟨y, hyy⟩ : ∃ y, g l[k] = y := ⟨_, rfl⟩
   rw [hx] at hc1
   rw [hyy] at hc2 hy
   have HX := Lib.hid hx
   have HC := Lib.hid (fun W => ends_cmp x t y W hy)
   have hyc := one_cells hy
   simp only [Value.cells] at hyc
   clear hx hyy hy
   have hk2 : ((lo : Int) + (hi : Int)) / 2 = (k : Int) := by omega
   have HK := Lib.hid hk
   clear hk
   by_cases hyx : x < t
   ·have hci : cmpI x t = -1 := if_pos hyx
    rw [hci] at HC
    clear hci
    go_wp2_with (go_at_call 144; refine (HC.out _).mono ?_; rintro e w' ⟨rfl, T2⟩)
    go_roundg (hi - (k + 1))
    case measure => omega
    case rel =>
     refine ⟨k + 1, hi, by go_num, rfl, by omega, him, Nat.le_refl _, T1.out.trans0 T2, ⟨fun i h1 h2 => ?_, I.out.2⟩⟩
     have := key_mono HS.out (i := i) (j := k) (by omega) hkl
     rw [HX.out] at this
     omega
   ·have hci : (cmpI x t < 0) = False := by unfold cmpI; rw [if_neg hyx]; split <;> simp
    go_wp2_with (go_at_call 144; refine (HC.out _).mono ?_; rintro e w' ⟨rfl, T2⟩)
    go_roundg (k - lo)
    case measure => omega
    case rel =>
     refine ⟨lo, k, rfl, by go_num, by omega, by omega, Nat.le_refl _, T1.out.trans0 T2, ⟨I.out.1, fun i h1 h2 => ?_⟩⟩
     have := key_mono HS.out (i := k) (j := i) h2 h1
     rw [HX.out] at this
     omega
  ·obtain rfl : hi = lo := by omega
   have hpos : posP f l t = hi := posP_of (by have := HM.out; omega) (fun i h1 h2 => I.out.1 i h1 h2) (fun h1 => I.out.2 hi h1 (Nat.le_refl _))
   have HP := Lib.hid hpos
   clear hpos
   by_cases hn : hi < m
   ·have hkl : hi < l.length := by have := HM.out; omega
    have hb : ∃ b o, a = some ⟨b, o, none⟩ /\ wr.cell? ⟨b, o + hi * 2, none⟩ = some (.int .i64 (f l[hi])) /\ wr.cell? ⟨b, o + hi * 2 + 1, none⟩ = some (g l[hi]) := by
     rcases pair_cells H.out with ⟨_, h0⟩ | ⟨b, o, cap2, h1, _, _, _, h5⟩
     ·subst h0; simp at hkl
     ·rw [HM.out] at h1
      injection h1 with h1 _ _
      exact ⟨b, o, h1, T1.out.cell (h5 hi hkl).1 (fun h => h), T1.out.cell (h5 hi hkl).2 (fun h => h)⟩
    obtain ⟨b, o, rfl, hc1, hc2⟩ := hb
    have hy : (g l[hi]).oneCell' = true := HG.out _ (List.getElem_mem hkl)
    obtain ⟨x, hx⟩ : ∃ x, f l[hi] = x := ⟨_, rfl⟩
    obtain ⟨y, hyy⟩ : ∃ y, g l[hi] = y := ⟨_, rfl⟩
    rw [hx] at hc1
    rw [hyy] at hc2 hy
    have HF : Hid (hasP f l t = decide (x = t)) := by
     rw [Hid, Bool.eq_iff_iff, hasP_pos HS.out, decide_eq_true_eq]
     simp only [HP.out, hx]
     exact ⟨fun ⟨_, h⟩ => h, fun h => ⟨hkl, h⟩⟩
    have HC := Lib.hid (fun W => ends_cmp x t y W hy)
    have hyc := one_cells hy
    simp only [Value.cells] at hyc
    clear hx hyy hy
    by_cases hyx : x = t
    ·have hci : cmpI x t = 0 := by unfold cmpI; rw [if_neg (by omega), if_neg (by omega)]
     have hd : Hid (hasP f l t = true) := by rw [Hid, HF.out]; simp [hyx]
     rw [hci] at HC
     clear hci hyx
     go_wp2_with (go_at_call 144; refine (HC.out _).mono ?_; rintro e w' ⟨rfl, T2⟩)
     go_ret2
     refine ⟨?_, T1.out.trans0 T2⟩
     rw [HP.out, hd.out]; rfl
    ·have hci : (cmpI x t == 0) = false := by unfold cmpI; (repeat' split) <;> first | rfl | (exfalso; omega)
     have hci2 : ¬ cmpI x t = 0 := by simpa using hci
     have hd : Hid (hasP f l t = false) := by rw [Hid, HF.out]; simp [hyx]
     go_wp2_with (go_at_call 144; refine (HC.out _).mono ?_; rintro e w' ⟨rfl, T2⟩)
     go_ret2
     refine ⟨?_, T1.out.trans0 T2⟩
     rw [HP.out, hd.out]; rfl
   ·have hd : Hid (hasP f l t = false) := by
     rw [Hid]
     cases e : hasP f l t with
     | false => rfl
     | true => obtain ⟨h, _⟩ := (hasP_pos HS.out t).1 e; rw [HP.out, HM.out] at h; omega
    go_wp2_with fail
    go_ret2
    refine ⟨?_, T1.out⟩
    rw [HP.out, hd.out]; rfl
theorem waits_cmp (a t : Int) (y : Value) (w : World) (hy : y.oneCell' = true) : Calls Tryz.prog 182 #[.agg #[.int .i64 a, y], .int .i64 t] w fun e w' => e = .returned (.int .i64 (cmpI a t)) /\ Tch No w w' := by
 have hc := Lib.hid (fun x y W => compare_any x y W)
 go_enter Tryz.func182, Tryz.ntmps182
 go_wp2_with (go_at_call 91; refine (hc.out _ _ _).mono ?_; rintro e w' ⟨rfl, rfl⟩)
 go_ret
 exact ⟨rfl, Tch.alloc _ _⟩
theorem waits_bs {α : Type} (f : α -> Int) (g : α -> Value) (l : List α) (hs : strictB (l.map f) = true) (t : Int) (v : Value) (w : World) (h : CellsAt w v l.length 2 (l.flatMap (fun x => [.int .i64 (f x), g x])))
  (hg : ∀ x ∈ l, (g x).oneCell' = true) (hl : l.length <= 1000000000) :
  Calls Tryz.prog 181 #[v, .int .i64 t, .func (.func 182) #[] #[]] w fun e w' => e = .returned (.tuple #[.int .i64 (posP f l t : Nat), .bool (hasP f l t)]) /\ Tch No w w' := by
 have hcmp := Lib.hid (fun a t y W hy => waits_cmp a t y W hy)
 have H := Lib.hid h
 have HS := Lib.hid hs
 have HG := Lib.hid hg
 obtain ⟨m, hm⟩ : ∃ m, l.length = m := ⟨_, rfl⟩
 have HM := Lib.hid hm
 have hshape : ∃ a cap, v = .slice a m cap /\ m <= cap /\ cap <= maxLen := by rw [<- hm]; exact h.shape
 obtain ⟨a, cap, hv, hcap, hmax⟩ := hshape
 rw [hm] at hl
 subst hv
 clear h hs hm hg hmax hcap
 go_enter Tryz.func181, Tryz.ntmps181
 go_wp2_with fail
 go_loopg [9, 10] m (fun kx s9 s10 wr => ∃ lo hi : Nat, s9 = .int .i64 lo /\ s10 = .int .i64 hi /\ lo <= hi /\ hi <= m /\ hi - lo <= kx /\ Hid (Tch No w wr) /\ Hid ((∀ i (hi : i < l.length), i < lo -> f l[i] < t) /\ (∀ i (hh : i < l.length), hi <= i -> ¬ f l[i] < t)))
 case atStart => exact ⟨0, m, rfl, rfl, Nat.zero_le _, Nat.le_refl _, by omega, Tch.refl _ _, ⟨fun i _ h => absurd h (Nat.not_lt_zero _), fun i hh h => by have := HM.out; omega⟩⟩
 case round =>
  obtain ⟨lo, hi, rfl, rfl, hlh, him, hg, T1, I⟩ := hrel
  by_cases hlt : lo < hi
  ·obtain ⟨k, hk⟩ : ∃ k, (lo + hi) / 2 = k := ⟨_, rfl⟩
   have hkl : k < l.length := by have := HM.out; omega
   have hb : ∃ b o, a = some ⟨b, o, none⟩ /\ wr.cell? ⟨b, o + k * 2, none⟩ = some (.int .i64 (f l[k])) /\ wr.cell? ⟨b, o + k * 2 + 1, none⟩ = some (g l[k]) := by
    rcases pair_cells H.out with ⟨_, h0⟩ | ⟨b, o, cap2, h1, _, _, _, h5⟩
    ·subst h0; simp at hkl
    ·rw [HM.out] at h1
     injection h1 with h1 _ _
     exact ⟨b, o, h1, T1.out.cell (h5 k hkl).1 (fun h => h), T1.out.cell (h5 k hkl).2 (fun h => h)⟩
   obtain ⟨b, o, rfl, hc1, hc2⟩ := hb
   have hy : (g l[k]).oneCell' = true := HG.out _ (List.getElem_mem hkl)
   obtain ⟨x, hx⟩ : ∃ x, f l[k] = x := ⟨_, rfl⟩
   obtain ⟨y, hyy⟩ : ∃ y, g l[k] = y := ⟨_, rfl⟩
   rw [hx] at hc1
   rw [hyy] at hc2 hy
   have HX := Lib.hid hx
   have HC := Lib.hid (fun W => waits_cmp x t y W hy)
   have hyc := one_cells hy
   simp only [Value.cells] at hyc
   clear hx hyy hy
   have hk2 : ((lo : Int) + (hi : Int)) / 2 = (k : Int) := by omega
   have HK := Lib.hid hk
   clear hk
   by_cases hyx : x < t
   ·have hci : cmpI x t = -1 := if_pos hyx
    rw [hci] at HC
    clear hci
    go_wp2_with (go_at_call 182; refine (HC.out _).mono ?_; rintro e w' ⟨rfl, T2⟩)
    go_roundg (hi - (k + 1))
    case measure => omega
    case rel =>
     refine ⟨k + 1, hi, by go_num, rfl, by omega, him, Nat.le_refl _, T1.out.trans0 T2, ⟨fun i h1 h2 => ?_, I.out.2⟩⟩
     have := key_mono HS.out (i := i) (j := k) (by omega) hkl
     rw [HX.out] at this
     omega
   ·have hci : (cmpI x t < 0) = False := by unfold cmpI; rw [if_neg hyx]; split <;> simp
    go_wp2_with (go_at_call 182; refine (HC.out _).mono ?_; rintro e w' ⟨rfl, T2⟩)
    go_roundg (k - lo)
    case measure => omega
    case rel =>
     refine ⟨lo, k, rfl, by go_num, by omega, by omega, Nat.le_refl _, T1.out.trans0 T2, ⟨I.out.1, fun i h1 h2 => ?_⟩⟩
     have := key_mono HS.out (i := k) (j := i) h2 h1
     rw [HX.out] at this
     omega
  ·obtain rfl : hi = lo := by omega
   have hpos : posP f l t = hi := posP_of (by have := HM.out; omega) (fun i h1 h2 => I.out.1 i h1 h2) (fun h1 => I.out.2 hi h1 (Nat.le_refl _))
   have HP := Lib.hid hpos
   clear hpos
   by_cases hn : hi < m
   ·have hkl : hi < l.length := by have := HM.out; omega
    have hb : ∃ b o, a = some ⟨b, o, none⟩ /\ wr.cell? ⟨b, o + hi * 2, none⟩ = some (.int .i64 (f l[hi])) /\ wr.cell? ⟨b, o + hi * 2 + 1, none⟩ = some (g l[hi]) := by
     rcases pair_cells H.out with ⟨_, h0⟩ | ⟨b, o, cap2, h1, _, _, _, h5⟩
     ·subst h0; simp at hkl
     ·rw [HM.out] at h1
      injection h1 with h1 _ _
      exact ⟨b, o, h1, T1.out.cell (h5 hi hkl).1 (fun h => h), T1.out.cell (h5 hi hkl).2 (fun h => h)⟩
    obtain ⟨b, o, rfl, hc1, hc2⟩ := hb
    have hy : (g l[hi]).oneCell' = true := HG.out _ (List.getElem_mem hkl)
    obtain ⟨x, hx⟩ : ∃ x, f l[hi] = x := ⟨_, rfl⟩
    obtain ⟨y, hyy⟩ : ∃ y, g l[hi] = y := ⟨_, rfl⟩
    rw [hx] at hc1
    rw [hyy] at hc2 hy
    have HF : Hid (hasP f l t = decide (x = t)) := by
     rw [Hid, Bool.eq_iff_iff, hasP_pos HS.out, decide_eq_true_eq]
     simp only [HP.out, hx]
     exact ⟨fun ⟨_, h⟩ => h, fun h => ⟨hkl, h⟩⟩
    have HC := Lib.hid (fun W => waits_cmp x t y W hy)
    have hyc := one_cells hy
    simp only [Value.cells] at hyc
    clear hx hyy hy
    by_cases hyx : x = t
    ·have hci : cmpI x t = 0 := by unfold cmpI; rw [if_neg (by omega), if_neg (by omega)]
     have hd : Hid (hasP f l t = true) := by rw [Hid, HF.out]; simp [hyx]
     rw [hci] at HC
     clear hci hyx
     go_wp2_with (go_at_call 182; refine (HC.out _).mono ?_; rintro e w' ⟨rfl, T2⟩)
     go_ret2
     refine ⟨?_, T1.out.trans0 T2⟩
     rw [HP.out, hd.out]; rfl
    ·have hci : (cmpI x t == 0) = false := by unfold cmpI; (repeat' split) <;> first | rfl | (exfalso; omega)
     have hci2 : ¬ cmpI x t = 0 := by simpa using hci
     have hd : Hid (hasP f l t = false) := by rw [Hid, HF.out]; simp [hyx]
     go_wp2_with (go_at_call 182; refine (HC.out _).mono ?_; rintro e w' ⟨rfl, T2⟩)
     go_ret2
     refine ⟨?_, T1.out.trans0 T2⟩
     rw [HP.out, hd.out]; rfl
   ·have hd : Hid (hasP f l t = false) := by
     rw [Hid]
     cases e : hasP f l t with
     | false => rfl
     | true => obtain ⟨h, _⟩ := (hasP_pos HS.out t).1 e; rw [HP.out, HM.out] at h; omega
    go_wp2_with fail
    go_ret2
    refine ⟨?_, T1.out⟩
    rw [HP.out, hd.out]; rfl
theorem takeWhile_map_len {α β : Type} (f : α -> β) (p : β -> Bool) (l : List α) : ((l.map f).takeWhile p).length = (l.takeWhile (fun x => p (f x))).length := by
 induction l with
 | nil => rfl
 | cons a r ih =>
  rw [List.map_cons, List.takeWhile_cons, List.takeWhile_cons]
  cases p (f a) <;> simp [ih]
theorem posP_map {α : Type} (f : α -> Int) (l : List α) (t : Int) : posP f l t = posP id (l.map f) t := by
 unfold posP; rw [takeWhile_map_len]; rfl
theorem hasP_map {α : Type} (f : α -> Int) (l : List α) (t : Int) : hasP f l t = hasP id (l.map f) t := by
 unfold hasP; rw [List.any_map]; rfl
theorem CellsAt.one {w : World} {v : Value} {n size : Nat} {cs : List Value} (h : CellsAt w v n size cs) : v.oneCell' = true := by
 obtain ⟨a, cap, rfl, _⟩ := h.shape; rfl
theorem zip_fst {l : List Int} {vs : List Value} (h : vs.length = l.length) : (l.zip vs).map Prod.fst = l := List.map_fst_zip (by omega)
theorem ends_any (l : List EndM) (hs : strictB (l.map (·.tid)) = true) (hl : l.length <= 1000000000) (t : Int) (v : Value) (w : World) (h : IsEnds w v l) :
  Calls Tryz.prog 74 #[v, .int .i64 t] w fun e w' => e = .returned (.tuple #[.int .i64 (posP (·.tid) l t : Nat), .bool (hasP (·.tid) l t)]) /\ Tch No w w' := by
 have hb := Lib.hid (ends_bs (fun e : EndM => e.tid) (fun e => .bool e.yes) l hs t v w (show CellsAt w v l.length 2 (l.flatMap (fun x : EndM => [.int .i64 x.tid, .bool x.yes])) from h) (fun _ _ => rfl) hl)
 obtain ⟨a, cap, rfl, _⟩ := CellsAt.shape h
 clear h hs hl
 obtain ⟨p, hp⟩ : ∃ p, posP (·.tid) l t = p := ⟨_, rfl⟩
 obtain ⟨q, hq⟩ : ∃ q, hasP (·.tid) l t = q := ⟨_, rfl⟩
 rw [hp, hq] at hb ⊢
 clear hp hq
 go_enter Tryz.func74, Tryz.ntmps74
 go_wp2_with (go_at_call 143; refine hb.out.mono ?_; rintro e w' ⟨rfl, T⟩)
 go_ret2
 exact ⟨rfl, T⟩
theorem waits_any (l : List BrM) (hs : strictB (l.map (·.tid)) = true) (hl : l.length <= 1000000000) (t : Int) (v : Value) (w : World) (h : IsBrs w v l) :
  Calls Tryz.prog 136 #[v, .int .i64 t] w fun e w' => e = .returned (.tuple #[.int .i64 (posP (·.tid) l t : Nat), .bool (hasP (·.tid) l t)]) /\ Tch No w w' := by
 obtain ⟨vs, h1, h2, h3⟩ := h
 have hz : ((l.map (·.tid)).zip vs).length = l.length := by rw [List.length_zip, List.length_map, h1, Nat.min_self]
 have hz2 := zip_fst (l := l.map (·.tid)) (vs := vs) (by simpa using h1)
 have hone : ∀ x ∈ (l.map (·.tid)).zip vs, x.2.oneCell' = true := fun x hx => by
  obtain ⟨i, hi, e⟩ := List.getElem_of_mem (List.of_mem_zip (a := x.1) (b := x.2) hx).2
  rw [<- e]; exact CellsAt.one (h3 i (by omega) hi)
 have hb := Lib.hid (waits_bs Prod.fst Prod.snd ((l.map (·.tid)).zip vs) (by rw [hz2]; exact hs) t v w (by rw [hz]; exact h2) hone (by omega))
 obtain ⟨a, cap, rfl, _⟩ := CellsAt.shape h2
 rw [posP_map, hasP_map, hz2, <- posP_map, <- hasP_map] at hb
 clear h1 h2 h3 hs hl hz hz2 hone
 obtain ⟨p, hp⟩ : ∃ p, posP (·.tid) l t = p := ⟨_, rfl⟩
 obtain ⟨q, hq⟩ : ∃ q, hasP (·.tid) l t = q := ⟨_, rfl⟩
 rw [hp, hq] at hb ⊢
 clear hp hq
 go_enter Tryz.func136, Tryz.ntmps136
 go_wp2_with (go_at_call 181; refine hb.out.mono ?_; rintro e w' ⟨rfl, T⟩)
 go_ret2
 exact ⟨rfl, T⟩
end
end Go.Proofs.YtelaljoebdpicaaGreat
