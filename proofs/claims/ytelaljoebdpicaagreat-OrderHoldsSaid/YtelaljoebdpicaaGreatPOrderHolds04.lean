/- Part 4 of what the proof of OrderHolds rests on. No condition. -/
import Derived.BigQuiet
import Derived.Deep.CutBlock
import Derived.StringKeys
import Derived.Test.YtelaljoebdpicaaGreatPOrderHolds02
import Derived.Test.YtelaljoebdpicaaGreatPOrderHolds03
namespace Go.Proofs.YtelaljoebdpicaaGreat
set_option maxRecDepth 100000
set_option maxHeartbeats 60000000
set_option linter.unusedVariables false
set_option linter.unusedSimpArgs false
set_option linter.unusedSectionVars false
section
open Go.RowKit Go.Maps
theorem qt_l {P : Program} {f : FuncId} {args : Array Value} {w : World} {n : Nat} {v : Value}
  (h : Calls P f args (w.drewN n) fun e w' => e = .returned v /\ w.drewN n = w') : Calls P f args (w.drewN n) fun e w'' => e = .returned v /\ ∃ m, w'' = w.drewN m :=
 h.mono fun _ _ ⟨he, hm⟩ => ⟨he, n, hm.symm⟩
theorem tch_dn (w : World) (n : Nat) : Tch No w (w.drewN n) := ⟨rfl, rfl, rfl, Nat.le_refl _, fun _ _ _ => rfl⟩
theorem rrising_any (l : List Int) (v : Value) (w : World) (h : IsInts w v l) :
  Calls Tryz.prog 92 #[v] w fun e w' => e = .returned (.bool (risingB l && decide ((l.length : Int) <= 7))) /\ Tch No w w' := by
 have H := Lib.hid h
 obtain ⟨m, hm⟩ : ∃ m, l.length = m := ⟨_, rfl⟩
 have HM := Lib.hid hm
 obtain ⟨a, cap, hv, hcap, hmax⟩ := CellsAt.shape h
 rw [hm] at hcap hv ⊢
 have hml : m <= 9223372036854775807 := by unfold maxLen at hmax; omega
 subst hv
 clear h hm hcap hmax
 have HB := Lib.hid (fun n W => rbroker_any n W)
 go_enter Tryz.func92, Tryz.ntmps92
 go_wp2_with fail
 go_loopg [3] m (fun kx s3 wr => ∃ k : Nat, s3 = .int .i64 k /\ k <= m /\ m - k <= kx /\ Hid (Tch No w wr) /\ Hid (RiseTo l k))
 case atStart => exact ⟨0, rfl, Nat.zero_le _, by omega, Tch.refl _ _, fun i _ h => absurd h (Nat.not_lt_zero _)⟩
 case round =>
  obtain ⟨k, rfl, hk, hg, TT, I⟩ := hrel
  by_cases hlt : k < m
  ·have hkl : k < l.length := by have := HM.out; omega
   have HW : Hid (IsInts wr (.slice a m cap) l) := IsInts.keep H.out TT.out
   have hb : ∃ b o, a = some ⟨b, o, none⟩ /\ ∀ i (hi : i < l.length), wr.cell? ⟨b, o + i, none⟩ = some (.int .i64 l[i]) := by
    rcases ints_cells HW.out with ⟨_, h0⟩ | ⟨b, o, cap2, h1, _, _, _, h5⟩
    ·subst h0; simp at hkl
    ·rw [HM.out] at h1
     injection h1 with h1 _ _
     exact ⟨b, o, h1, h5⟩
   obtain ⟨b, o, rfl, hc⟩ := hb
   have hc1 := hc k hkl
   have HC := Lib.hid hc
   clear hc
   obtain ⟨x, hx⟩ : ∃ x, l[k] = x := ⟨_, rfl⟩
   rw [hx] at hc1
   have HX := Lib.hid hx
   clear hx
   cases hbx : brokerB x with
   | false =>
    have HB2 : Hid (∀ W, Calls Tryz.prog 53 #[.int .i64 x] W fun e w' => e = .returned (.bool false) /\ W = w') := fun W => by rw [<- hbx]; exact HB.out x W
    have HX2 := Lib.hid hbx
    clear hbx
    go_wp2_with fail
    go_quiet ((go_at_call 53; exact qt_l (HB2.out _)))
    go_wp2_with fail
    go_ret
    exact ⟨ret_b (by rw [rise_bad hkl (.inl (by rw [HX.out]; exact HX2.out))]; rfl), TT.out.trans0 (tch_dn _ _)⟩
   | true =>
    have HB2 : Hid (∀ W, Calls Tryz.prog 53 #[.int .i64 x] W fun e w' => e = .returned (.bool true) /\ W = w') := fun W => by rw [<- hbx]; exact HB.out x W
    have HX2 := Lib.hid hbx
    clear hbx
    by_cases h0 : k = 0
    ·have HI : Hid (RiseTo l (k + 1)) := rise_step I.out hkl (by rw [HX.out]; exact HX2.out) (fun h => by omega)
     subst h0
     simp only [Nat.add_zero] at hc1
     go_wp2_with fail
     go_quiet ((go_at_call 53; exact qt_l (HB2.out _)))
     go_wp2_with fail
     go_roundg (m - 1)
     case measure => omega
     case rel => exact ⟨1, by go_num, by omega, by omega, TT.out.trans0 (tch_dn _ _), HI⟩
    ·have hk0 : 0 < k := by omega
     have hc2 := HC.out (k - 1) (by omega)
     obtain ⟨y, hy⟩ : ∃ y, l[k - 1] = y := ⟨_, rfl⟩
     rw [hy] at hc2
     have HY := Lib.hid hy
     clear hy
     have hk1 : (k : Int) - 1 = ((k - 1 : Nat) : Int) := by omega
     have hk3 : k - 1 < m := by omega
     have hd0 : decide ((0 : Int) < (k : Int)) = true := decide_eq_true (by omega)
     have hd0' : decide (0 < k) = true := decide_eq_true (by omega)
     by_cases hyx : y < x
     ·have HI : Hid (RiseTo l (k + 1)) := rise_step I.out hkl (by rw [HX.out]; exact HX2.out) (fun h => by rw [HY.out, HX.out]; exact hyx)
      have hd : decide (x <= y) = false := decide_eq_false (by omega)
      go_wp2_with fail
      go_quiet ((go_at_call 53; exact qt_l (HB2.out _)))
      go_wp2_with fail
      go_roundg (m - (k + 1))
      case measure => omega
      case rel => exact ⟨k + 1, by go_num, by omega, by omega, TT.out.trans0 (tch_dn _ _), HI⟩
     ·have hd : decide (x <= y) = true := decide_eq_true (by omega)
      have HN : Hid (risingB l = false) := rise_bad hkl (.inr ⟨hk0, by rw [HY.out, HX.out]; exact hyx⟩)
      go_wp2_with fail
      go_quiet ((go_at_call 53; exact qt_l (HB2.out _)))
      go_wp2_with fail
      go_ret
      exact ⟨ret_b (by rw [HN.out]; rfl), TT.out.trans0 (tch_dn _ _)⟩
  ·obtain rfl : k = m := by omega
   have HN : Hid (risingB l = true) := rise_all.1 (by rw [HM.out]; exact I.out)
   clear hg hlt hk
   go_wp2_with fail
   go_ret
   exact ⟨ret_b (by first | rfl | (rw [HN.out]; rfl) | simp [HN.out]), TT.out⟩
theorem mem_at {l : List Int} {k : Nat} {x : Int} (hk : k < l.length) (e : l[k] = x) : l.contains x = true := by
 rw [<- e]; simp
theorem not_mem_all {l : List Int} {x : Int} (h : ∀ i (hi : i < l.length), ¬ l[i] = x) : l.contains x = false := by
 cases e : l.contains x with
 | false => rfl
 | true =>
  have : x ∈ l := by simpa using e
  obtain ⟨i, hi, e2⟩ := List.getElem_of_mem this
  exact absurd e2 (h i hi)
theorem rhas_any (l : List Int) (t : Int) (v : Value) (w : World) (h : IsInts w v l) :
  Calls Tryz.prog 79 #[v, .int .i64 t] w fun e w' => e = .returned (.bool (l.contains t)) /\ w = w' := by
 have H := Lib.hid h
 obtain ⟨m, hm⟩ : ∃ m, l.length = m := ⟨_, rfl⟩
 have HM := Lib.hid hm
 obtain ⟨a, cap, hv, hcap, hmax⟩ := CellsAt.shape h
 rw [hm] at hcap hv
 have hml : m <= 9223372036854775807 := by unfold maxLen at hmax; omega
 subst hv
 clear h hm hcap hmax
 go_enter Tryz.func79, Tryz.ntmps79
 go_wp2_with fail
 go_loopg [5] m (fun kx s5 wr => ∃ k : Nat, s5 = .int .i64 k /\ k <= m /\ m - k <= kx /\ wr = w /\ Hid (∀ i (hi : i < l.length), i < k -> ¬ l[i] = t))
 case atStart => exact ⟨0, rfl, Nat.zero_le _, by omega, rfl, fun i _ h => absurd h (Nat.not_lt_zero _)⟩
 case round =>
  obtain ⟨k, rfl, hk, hg, rfl, I⟩ := hrel
  by_cases hlt : k < m
  ·have hkl : k < l.length := by have := HM.out; omega
   have hb : ∃ b o, a = some ⟨b, o, none⟩ /\ ∀ i (hi : i < l.length), wr.cell? ⟨b, o + i, none⟩ = some (.int .i64 l[i]) := by
    rcases ints_cells H.out with ⟨_, h0⟩ | ⟨b, o, cap2, h1, _, _, _, h5⟩
    ·subst h0; simp at hkl
    ·rw [HM.out] at h1
     injection h1 with h1 _ _
     exact ⟨b, o, h1, h5⟩
   obtain ⟨b, o, rfl, hc⟩ := hb
   have hc1 := hc k hkl
   clear hc
   obtain ⟨x, hx⟩ : ∃ x, l[k] = x := ⟨_, rfl⟩
   rw [hx] at hc1
   have HX := Lib.hid hx
   clear hx
   by_cases hxt : x = t
   ·have HC : Hid (l.contains t = true) := mem_at hkl (by rw [HX.out]; exact hxt)
    have hd : (x == t) = true := by simpa using hxt
    have hd2 : (t == x) = true := by simpa using hxt.symm
    clear hxt
    go_wp2_with fail
    go_ret
    exact ⟨ret_b HC.out.symm, rfl⟩
   ·have hd : (x == t) = false := by simpa using hxt
    have hd2 : (t == x) = false := by simpa using fun e : t = x => hxt e.symm
    have HN : Hid (∀ i (hi : i < l.length), i < k + 1 -> ¬ l[i] = t) := fun i h1 h2 => by
     by_cases e : i = k
     ·subst e; rw [HX.out]; exact hxt
     ·exact I.out i h1 (by omega)
    clear hxt
    go_wp2_with fail
    go_roundg (m - (k + 1))
    case measure => omega
    case rel => exact ⟨k + 1, by go_num, by omega, by omega, rfl, HN⟩
  ·obtain rfl : k = m := by omega
   have HC : Hid (l.contains t = false) := not_mem_all (fun i hi => I.out i hi (by have := HM.out; omega))
   clear hg hlt hk
   go_wp2_with fail
   go_ret
   exact ⟨ret_b HC.out.symm, rfl⟩
theorem all_bad {l : List PutM} {k : Nat} (hk : k < l.length) (e : putB l[k] = false) : l.all putB = false := by
 rw [List.all_eq_false]; exact ⟨l[k], List.getElem_mem hk, by rw [e]; simp⟩
theorem all_good {l : List PutM} (h : ∀ i (hi : i < l.length), putB l[i] = true) : l.all putB = true := by
 rw [List.all_eq_true]; intro x hx
 obtain ⟨i, hi, rfl⟩ := List.getElem_of_mem hx
 exact h i hi
theorem rputs_any (l : List PutM) (hok : ∀ p ∈ l, OkPut p) (v : Value) (w : World) (h : IsPuts w v l) :
  Calls Tryz.prog 59 #[v] w fun e w' => e = .returned (.bool (l.all putB && decide ((l.length : Int) <= 10))) /\ Tch No w w' := by
 have HP := Lib.hid (fun p hp W => rput_t p hp W)
 have HO := Lib.hid hok
 clear hok
 have H := Lib.hid h
 obtain ⟨m, hm⟩ : ∃ m, l.length = m := ⟨_, rfl⟩
 have HM := Lib.hid hm
 obtain ⟨a, cap, hv, hcap, hmax⟩ := CellsAt.shape h
 rw [hm] at hcap hv ⊢
 have hml : m <= 9223372036854775807 := by unfold maxLen at hmax; omega
 subst hv
 clear h hm hcap hmax
 go_enter Tryz.func59, Tryz.ntmps59
 go_wp2_with fail
 go_loopg [3] m (fun kx s3 wr => ∃ k : Nat, s3 = .int .i64 k /\ k <= m /\ m - k <= kx /\ Hid (Tch No w wr) /\ Hid (∀ i (hi : i < l.length), i < k -> putB l[i] = true))
 case atStart => exact ⟨0, rfl, Nat.zero_le _, by omega, Tch.refl _ _, fun i _ h => absurd h (Nat.not_lt_zero _)⟩
 case round =>
  obtain ⟨k, rfl, hk, hg, TT, I⟩ := hrel
  by_cases hlt : k < m
  ·have hkl : k < l.length := by have := HM.out; omega
   have HW : Hid (IsPuts wr (.slice a m cap) l) := IsPuts.keep H.out TT.out
   have hb : ∃ b o, a = some ⟨b, o, none⟩ /\ ∀ i (hi : i < l.length), wr.cell? ⟨b, o + i * 2, none⟩ = some (strV l[i].q) /\ wr.cell? ⟨b, o + i * 2 + 1, none⟩ = some (strV l[i].b) := by
    rcases puts_cells HW.out with ⟨_, h0⟩ | ⟨b, o, cap2, h1, _, _, _, h5⟩
    ·subst h0; simp at hkl
    ·rw [HM.out] at h1
     injection h1 with h1 _ _
     exact ⟨b, o, h1, h5⟩
   obtain ⟨b, o, rfl, hc⟩ := hb
   have hc1 := (hc k hkl).1
   have hc2 := (hc k hkl).2
   clear hc
   have HC := Lib.hid (fun W => HP.out l[k] (HO.out _ (List.getElem_mem hkl)) W)
   obtain ⟨x, hx⟩ : ∃ x, strV l[k].q = x := ⟨_, rfl⟩
   obtain ⟨y, hy⟩ : ∃ y, strV l[k].b = y := ⟨_, rfl⟩
   have hxc : x.cells = #[x] := by rw [<- hx]; rfl
   have hyc : y.cells = #[y] := by rw [<- hy]; rfl
   simp only [Value.cells] at hxc hyc
   rw [hx] at hc1
   rw [hy] at hc2
   rw [hx, hy] at HC
   clear hx hy
   cases hq : putB l[k] with
   | false =>
    rw [hq] at HC
    have HN : Hid (l.all putB = false) := all_bad hkl hq
    clear hq
    go_wp2_with (go_at_call 138; refine (HC.out _).mono ?_; rintro e w' ⟨rfl, T2⟩)
    go_ret
    exact ⟨ret_b (by rw [HN.out]; rfl), TT.out.trans0 T2⟩
   | true =>
    rw [hq] at HC
    have HN : Hid (∀ i (hi : i < l.length), i < k + 1 -> putB l[i] = true) := fun i h1 h2 => by
     by_cases e : i = k
     ·subst e; exact hq
     ·exact I.out i h1 (by omega)
    clear hq
    go_wp2_with (go_at_call 138; refine (HC.out _).mono ?_; rintro e w' ⟨rfl, T2⟩)
    go_roundg (m - (k + 1))
    case measure => omega
    case rel => exact ⟨k + 1, by go_num, by omega, by omega, TT.out.trans0 T2, HN⟩
  ·obtain rfl : k = m := by omega
   have HN : Hid (l.all putB = true) := all_good (fun i hi => I.out i hi (by have := HM.out; omega))
   clear hg hlt hk
   go_wp2_with fail
   go_ret
   exact ⟨ret_b (by first | rfl | (rw [HN.out]; rfl) | simp [HN.out]), TT.out⟩
end
section
open Go.RowKit Go.Maps
theorem box_cell (w : World) (cs : Array Value) (t : TypeId) (i : Nat) (hi : i < cs.size) : (w.alloc (.cells cs t)).cell? ⟨w.heap.size, i, none⟩ = some cs[i] := by
 unfold World.cell? World.alloc; simp [hi]
end
section
open Go.RowKit Go.Maps
theorem size_alloc (w : World) (o : Obj) : (w.alloc o).heap.size = w.heap.size + 1 := by simp
def stV (br nid nseq tx : Int) (am : Option Addr) (nm cm : Nat) (aw : Option Addr) (nw cw : Nat) (ae : Option Addr) (ne ce : Nat) (ao : Option Addr) (no co : Nat) (an : Option Addr) (nn cn : Nat) : Value :=
 .agg #[.int .i64 br, .int .i64 nid, .int .i64 nseq, .int .i64 tx, .slice am nm cm, .slice aw nw cw, .slice ae ne ce, .slice ao no co, .slice an nn cn]
end
section
open Go.RowKit Go.Maps
abbrev DtB := DataW Unit
def truR : Value -> Option (DtB × List MemPlace)
 | .bool b => some (.lit (.bool b), [])
 | _ => none
theorem truR_b (b : Bool) : truR (.bool b) = some (.lit (.bool b), []) := rfl
theorem lawI : Keyed Tryz.prog 2 := int_keyed Tryz.underlying2
theorem isKeyI {x : Int} : WideAt.IsKeyLit (.int .i64 x) := by simp [WideAt.IsKeyLit]
theorem tch_turn {w w' : World} {mb : Nat} (hg : w.grownBy w' (some mb)) : Tch (fun k => k = mb) w w' := Tch.grown hg (fun k hk _ => by injection hk with hk; exact hk.symm)
structure IdMap (w : World) (mb : Nat) (n : Nat) (ids : List Int) : Prop where
 map : ∃ D, w.ownsMap Tryz.prog 2 truR mb n D /\ (∀ x : Int, x ∈ ids -> ∀ z, D.atKey (.int .i64 x) z = .lit (.bool true)) /\ (∀ x : Int, x ∉ ids -> Maps.has D (.int .i64 x) = false)
theorem IdMap.tch {F : Nat -> Prop} {w w' : World} {mb n : Nat} {ids : List Int} (h : IdMap w mb n ids) (t : Tch F w w') (hF : ¬ F mb) : IdMap w' mb n ids := by
 obtain ⟨D, ⟨es, clock, hb, F', hs, hD⟩, h2⟩ := h.map
 exact ⟨D, ⟨es, clock, blk_tch t hb hF, F', hs, hD⟩, h2⟩
theorem i64_wf {x : Int} (h : I64 x) : (Lit.int .i64 x).wf = true := by
 unfold I64 at h
 have e1 : IntKind.i64.min = -9223372036854775808 := by decide
 have e2 : IntKind.i64.max = 9223372036854775807 := by decide
 rw [Lit.wf, e1, e2, Bool.and_eq_true, decide_eq_true_eq, decide_eq_true_eq]
 exact h
theorem IdMap.put {w : World} {mb n : Nat} {ids : List Int} (h : IdMap w mb n ids) {x : Int} (hx : I64 x) (hn : n < maxLen) :
  ∃ w', (Instr.mapUpdate 154 (.map (some mb)) (.int .i64 x) (.bool true)).run Tryz.prog w = .ok () w' /\ IdMap w' mb (n + 1) (ids ++ [x]) /\ Tch (fun k => k = mb) w w' := by
 obtain ⟨D, hm, h1, h2⟩ := h.map
 obtain ⟨w', hrun, hown, hg⟩ := hm.update lawI Tryz.underlying154 hn (keyOf_int_mk Tryz.underlying2 (i64_wf hx)) (val := .bool true) (truR_b true)
 have ht : Tch (fun k => k = mb) w w' := tch_turn hg
 refine ⟨w', hrun, ⟨_, hown, ?_, ?_⟩, ht⟩
 ·intro y hy z
  by_cases e : y = x
  ·subst e; exact atKey_put_same hm.isMap isKeyI _ _
  ·rw [atKey_put_other (fun e2 => e (by injection e2))]
   exact h1 y (by simpa [e] using hy) z
 ·intro y hy
  have hy2 : y ∉ ids /\ y ≠ x := by simpa using hy
  rw [has_put_other (fun e2 => hy2.2 (by injection e2))]
  exact h2 y hy2.1
theorem msgs_cells {w : World} {v : Value} {l : List MsgM} (h : IsMsgs w v l) :
  (v = .slice none 0 0 /\ l = []) ∨ ∃ b o cap, v = .slice (some ⟨b, o, none⟩) l.length cap /\ l.length <= cap /\ cap <= maxLen /\ b < w.heap.size /\ ∀ i (hi : i < l.length),
   w.cell? ⟨b, o + i * 6, none⟩ = some (.int .i64 l[i].id) /\ w.cell? ⟨b, o + i * 6 + 1, none⟩ = some (strV l[i].q) /\ w.cell? ⟨b, o + i * 6 + 2, none⟩ = some (strV l[i].b) /\
   w.cell? ⟨b, o + i * 6 + 3, none⟩ = some (.int .i64 l[i].seq) /\ w.cell? ⟨b, o + i * 6 + 4, none⟩ = some (.int .i64 l[i].cnt) /\ w.cell? ⟨b, o + i * 6 + 5, none⟩ = some (.int .i64 l[i].who) := by
 rcases h.2 with ⟨h1, h2⟩ | ⟨b, o, cap, h1, h2, h3, h4, h5⟩
 ·exact .inl ⟨h1, List.eq_nil_of_length_eq_zero h2⟩
 ·refine .inr ⟨b, o, cap, h1, h2, h3, h4, fun i hi => ?_⟩
  have g : ∀ k x, k < 6 -> (encMsg l[i])[k]? = some x -> w.cell? ⟨b, o + i * 6 + k, none⟩ = some x := fun k x hk hx => by
   have := h5 (i * 6 + k) x (by rw [flat_get encMsg 6 (fun _ => rfl) l i k hi hk]; exact hx)
   rwa [<- Nat.add_assoc] at this
  exact ⟨g 0 _ (by omega) rfl, g 1 _ (by omega) rfl, g 2 _ (by omega) rfl, g 3 _ (by omega) rfl, g 4 _ (by omega) rfl, g 5 _ (by omega) rfl⟩
end
section
open Go.RowKit Go.Maps
theorem IsBrs.shape {w : World} {v : Value} {l : List BrM} (h : IsBrs w v l) : ∃ a cap, v = .slice a l.length cap /\ l.length <= cap /\ cap <= maxLen := by
 obtain ⟨vs, h1, h2, _⟩ := h; exact CellsAt.shape h2
theorem IsPends.shape {w : World} {v : Value} {l : List PendM} (h : IsPends w v l) : ∃ a cap, v = .slice a l.length cap /\ l.length <= cap /\ cap <= maxLen := by
 obtain ⟨vs, h1, h2, _⟩ := h; exact CellsAt.shape h2
theorem IsSt.shape {w : World} {v : Value} {s : StM} (h : IsSt w v s) : ∃ am cm aw cw ae ce ao co an cn, v = stV s.broker s.nid s.nseq s.tx am s.ms.length cm aw s.waits.length cw ae s.ends.length ce ao s.opens.length co an s.noes.length cn /\
  IsMsgs w (.slice am s.ms.length cm) s.ms /\ IsBrs w (.slice aw s.waits.length cw) s.waits /\ IsEnds w (.slice ae s.ends.length ce) s.ends /\ IsPends w (.slice ao s.opens.length co) s.opens /\ IsPends w (.slice an s.noes.length cn) s.noes := by
 obtain ⟨vm, vw, ve, vo, vn, rfl, h1, h2, h3, h4, h5⟩ := h
 obtain ⟨am, cm, rfl, _⟩ := CellsAt.shape h1
 obtain ⟨aw, cw, rfl, _⟩ := h2.shape
 obtain ⟨ae, ce, rfl, _⟩ := CellsAt.shape h3
 obtain ⟨ao, co, rfl, _⟩ := h4.shape
 obtain ⟨an, cn, rfl, _⟩ := h5.shape
 exact ⟨am, cm, aw, cw, ae, ce, ao, co, an, cn, rfl, h1, h2, h3, h4, h5⟩
theorem st_pre {w : World} {v : Value} {s : StM} (h : IsSt w v s) : ∃ am cm aw cw ae ce ao co an cn nm nw ne no nn, v = .agg #[.int .i64 s.broker, .int .i64 s.nid, .int .i64 s.nseq, .int .i64 s.tx, .slice am nm cm, .slice aw nw cw, .slice ae ne ce, .slice ao no co, .slice an nn cn] /\ Hid (IsMsgs w (.slice am nm cm) s.ms) /\ Hid (s.ms.length = nm) /\ nm <= 9223372036854775807 /\ Hid (IsBrs w (.slice aw nw cw) s.waits) /\ Hid (s.waits.length = nw) /\ nw <= 9223372036854775807 /\ Hid (IsEnds w (.slice ae ne ce) s.ends) /\ Hid (s.ends.length = ne) /\ ne <= 9223372036854775807 /\ Hid (IsPends w (.slice ao no co) s.opens) /\ Hid (s.opens.length = no) /\ no <= 9223372036854775807 /\ Hid (IsPends w (.slice an nn cn) s.noes) /\ Hid (s.noes.length = nn) /\ nn <= 9223372036854775807 := by
  obtain ⟨am, cm, aw, cw, ae, ce, ao, co, an, cn, hv, h1, h2, h3, h4, h5⟩ := h.shape
  have f : ∀ n : Nat, (∃ c, n <= c /\ c <= maxLen) -> n <= 9223372036854775807 := fun n ⟨c, h1, h2⟩ => by unfold maxLen at h2; omega
  refine ⟨am, cm, aw, cw, ae, ce, ao, co, an, cn, _, _, _, _, _, hv, h1, rfl, f _ ?_, h2, rfl, f _ ?_, h3, rfl, f _ ?_, h4, rfl, f _ ?_, h5, rfl, f _ ?_⟩
  · obtain ⟨_, c, _, a, b⟩ := CellsAt.shape h1; exact ⟨c, a, b⟩
  · obtain ⟨_, c, _, a, b⟩ := IsBrs.shape h2; exact ⟨c, a, b⟩
  · obtain ⟨_, c, _, a, b⟩ := CellsAt.shape h3; exact ⟨c, a, b⟩
  · obtain ⟨_, c, _, a, b⟩ := IsPends.shape h4; exact ⟨c, a, b⟩
  · obtain ⟨_, c, _, a, b⟩ := IsPends.shape h5; exact ⟨c, a, b⟩
end
section
open Go.RowKit Go.Maps
def BoxAt (w : World) (b : Nat) (vals : List Value) : Prop := ∀ i x, vals[i]? = some x -> w.cell? ⟨b, i, none⟩ = some x
theorem BoxAt.keep {w w' : World} {b : Nat} {vals : List Value} (h : BoxAt w b vals) (t : Tch No w w') : BoxAt w' b vals := fun i x hx => t.cell (h i x hx) (fun h => h)
theorem BoxAt.made (w : World) (cs : Array Value) (t : TypeId) : BoxAt (w.alloc (.cells cs t)) w.heap.size cs.toList := fun i x hx => by
 have hi : i < cs.size := by
  rcases Nat.lt_or_ge i cs.size with h | h
  ·exact h
  ·rw [List.getElem?_eq_none (by simpa using h)] at hx; cases hx
 rw [box_cell w cs t i hi]
 simpa [hi] using hx
theorem brs_cells {w : World} {v : Value} {l : List BrM} (h : IsBrs w v l) :
  (v = .slice none 0 0 /\ l = []) ∨ ∃ b o cap, v = .slice (some ⟨b, o, none⟩) l.length cap /\ l.length <= cap /\ cap <= maxLen /\ b < w.heap.size /\ ∀ i (hi : i < l.length), w.cell? ⟨b, o + i * 2, none⟩ = some (.int .i64 l[i].tid) /\
   ∃ a c, w.cell? ⟨b, o + i * 2 + 1, none⟩ = some (.slice a l[i].puts.length c) /\ IsPuts w (.slice a l[i].puts.length c) l[i].puts := by
 obtain ⟨vs, h1, h2, h3⟩ := h
 have hz : ((l.map (·.tid)).zip vs).length = l.length := by rw [List.length_zip, List.length_map, h1, Nat.min_self]
 rcases pair_cells (f := Prod.fst) (g := Prod.snd) (l := (l.map (·.tid)).zip vs) (by rw [hz]; exact h2) with ⟨e1, e2⟩ | ⟨b, o, cap, e1, e2, e3, e4, e5⟩
 ·exact .inl ⟨e1, List.eq_nil_of_length_eq_zero (by rw [<- hz, e2]; rfl)⟩
 ·rw [hz] at e1 e2
  refine .inr ⟨b, o, cap, e1, e2, e3, e4, fun i hi => ?_⟩
  have hiv : i < vs.length := by omega
  have hk := e5 i (by rw [hz]; exact hi)
  have hp := h3 i hi hiv
  obtain ⟨a, c, ea, _⟩ := CellsAt.shape hp
  rw [ea] at hp
  refine ⟨by simpa using hk.1, a, c, ?_, hp⟩
  have := hk.2
  simp only [List.getElem_zip] at this
  rw [ea] at this
  exact this
theorem pends_cells {w : World} {v : Value} {l : List PendM} (h : IsPends w v l) :
  (v = .slice none 0 0 /\ l = []) ∨ ∃ b o cap, v = .slice (some ⟨b, o, none⟩) l.length cap /\ l.length <= cap /\ cap <= maxLen /\ b < w.heap.size /\ ∀ i (hi : i < l.length), w.cell? ⟨b, o + i * 2, none⟩ = some (.int .i64 l[i].tid) /\
   ∃ a c, w.cell? ⟨b, o + i * 2 + 1, none⟩ = some (.slice a l[i].parts.length c) /\ IsInts w (.slice a l[i].parts.length c) l[i].parts := by
 obtain ⟨vs, h1, h2, h3⟩ := h
 have hz : ((l.map (·.tid)).zip vs).length = l.length := by rw [List.length_zip, List.length_map, h1, Nat.min_self]
 rcases pair_cells (f := Prod.fst) (g := Prod.snd) (l := (l.map (·.tid)).zip vs) (by rw [hz]; exact h2) with ⟨e1, e2⟩ | ⟨b, o, cap, e1, e2, e3, e4, e5⟩
 ·exact .inl ⟨e1, List.eq_nil_of_length_eq_zero (by rw [<- hz, e2]; rfl)⟩
 ·rw [hz] at e1 e2
  refine .inr ⟨b, o, cap, e1, e2, e3, e4, fun i hi => ?_⟩
  have hiv : i < vs.length := by omega
  have hk := e5 i (by rw [hz]; exact hi)
  have hp := h3 i hi hiv
  obtain ⟨a, c, ea, _⟩ := CellsAt.shape hp
  rw [ea] at hp
  refine ⟨by simpa using hk.1, a, c, ?_, hp⟩
  have := hk.2
  simp only [List.getElem_zip] at this
  rw [ea] at this
  exact this
theorem ends_cells {w : World} {v : Value} {l : List EndM} (h : IsEnds w v l) :
  (v = .slice none 0 0 /\ l = []) ∨ ∃ b o cap, v = .slice (some ⟨b, o, none⟩) l.length cap /\ l.length <= cap /\ cap <= maxLen /\ b < w.heap.size /\ ∀ i (hi : i < l.length), w.cell? ⟨b, o + i * 2, none⟩ = some (.int .i64 l[i].tid) /\ w.cell? ⟨b, o + i * 2 + 1, none⟩ = some (.bool l[i].yes) :=
 pair_cells (f := fun e : EndM => e.tid) (g := fun e : EndM => .bool e.yes) h
def yesAt (l : List EndM) (t : Int) : Bool := ((l[posP (·.tid) l t]?).map (·.yes)).getD false
theorem all_at {α : Type} {q : α -> Bool} {l : List α} {k : Nat} (hk : k < l.length) (e : q l[k] = false) : l.all q = false := by
 rw [List.all_eq_false]; exact ⟨l[k], List.getElem_mem hk, by rw [e]; simp⟩
theorem all_idx {α : Type} {q : α -> Bool} {l : List α} (h : ∀ i (hi : i < l.length), q l[i] = true) : l.all q = true := by
 rw [List.all_eq_true]; intro x hx
 obtain ⟨i, hi, rfl⟩ := List.getElem_of_mem hx
 exact h i hi
theorem all_more {α : Type} {q : α -> Bool} {l : List α} {k : Nat} (hk : k < l.length) (e : q l[k] = true) (h : ∀ i (hi : i < l.length), i < k -> q l[i] = true) : ∀ i (hi : i < l.length), i < k + 1 -> q l[i] = true := fun i h1 h2 => by
 by_cases e2 : i = k
 ·subst e2; exact e
 ·exact h i h1 (by omega)
end
end Go.Proofs.YtelaljoebdpicaaGreat
