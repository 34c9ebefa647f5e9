/- Part 33 of what the proof of OrderHolds rests on. No condition. -/
import Derived.Test.YtelaljoebdpicaaGreatPOrderHolds32
namespace Go.Proofs.YtelaljoebdpicaaGreat
set_option maxRecDepth 100000
set_option maxHeartbeats 60000000
set_option linter.unusedVariables false
set_option linter.unusedSimpArgs false
set_option linter.unusedSectionVars false
section
open Go.RowKit Go.Maps Go.Shelf
abbrev encL (x : Int) : Value := .int .i64 x
theorem holds_ownL {l : List Int} {w : World} {g : Nat} {cur : Array Value} {e : TypeId} (h : w.heap[g]? = some (.cells cur e (0, 0))) (hc : ∀ t, t < l.length -> cur[t]? = (l.map encL)[t]?) : Go.Sort.Holds encL w g 0 l.toArray := fun j hj => by
 have hj' : j < l.length := by simpa using hj
 refine ⟨?_, blk_free h _⟩
 rw [Nat.zero_add, blk_cell h, hc j hj', List.getElem?_map, List.getElem?_eq_getElem hj']
 simp [hj']
theorem own_putL {w0 w w' : World} {g c : Nat} {cur : Array Value} {l l' : List Int} {n : Nat} (hw0 : w0.heap.size <= g) (hg : w.heap[g]? = some (.cells cur 2 (0, 0))) (hcap : l.length <= c) (hc2 : c <= maxLen) (hcur : cur.size = c * 1) (hl : l'.length = l.length) (hn : n <= l'.length)
  (q : Nat) (os : Array Obj) (hw : w' = Go.Sort.grow (Go.Sort.putRow encL (Go.Sort.ahead w q) g 0 l'.toArray) os) (t0 : Tch No w0 w) :
  OwnN w0 2 1 n ((l'.take n).map encL) (.slice (some ⟨g, 0, none⟩) n c) w' /\ Tch No w0 w' := by
 subst hw
 obtain ⟨cur', p1, p2, p3⟩ := blk_putRow encL (w := Go.Sort.ahead w q) (blk := g) (cur := cur) hg l'.toArray (by rw [List.size_toArray]; omega)
 have hlt := blk_lt p1
 refine ⟨⟨own_mk (by simp; omega) (blk_tch (tch_grow _ os) p1 (fun h => h)) (by omega) hc2 (by rw [p2, hcur]) (fun t ht => ?_), fun b hb => ?_⟩, ((t0.trans0 (tch_ahead w q)).fresh (F := fun k => k = g) (tch_putRow _ _ _ _ _) (fun k h => by rw [h]; exact hw0)).trans0 (tch_grow _ os)⟩
 ·have ht' : t < l'.length := by omega
  rw [p3 t (by simpa using ht'), List.getElem?_map, List.getElem?_take, if_pos (by omega), List.getElem?_eq_getElem ht']
  simp [ht']
 ·have hb' : g = b := by simpa [Value.ownBlock] using hb
  omega
def sortL (l : List Int) : List Int := l.mergeSort fun x y => decide (x <= y)
theorem sortL_len (l : List Int) : (sortL l).length = l.length := List.length_mergeSort _
theorem ssortL_any (l : List Int) (hn : l.length <= 1000000) (v : Value) (w0 w : World) (t0 : Tch No w0 w) (h : OwnN w0 2 1 l.length (l.map encL) v w) :
  Calls Tryz.prog 100 #[v] w fun e w' => e = .returned (.tuple #[]) /\ OwnN w0 2 1 l.length ((sortL l).map encL) v w' /\ Tch No w0 w' := by
 obtain ⟨a, c, rfl, _, _⟩ := own_shape h.1
 cases a with
 | none =>
  have hl : l.length = 0 := by
   rcases h.1.2 with ⟨_, h0⟩ | ⟨_, _, _, h0, _⟩
   ·exact h0
   ·cases h0
  have hl2 : l = [] := List.eq_nil_of_length_eq_zero hl
  subst hl2
  refine (AnyM.slices_Sort_int_none ShL.sort none c w).mono ?_
  rintro e w' ⟨rfl, rfl⟩
  exact ⟨rfl, by simpa [sortL] using h, t0⟩
 | some a =>
  obtain ⟨g, cur, rfl, q1, q2, q3, q4, q5, q6⟩ := own_get h.1
  refine (AnyM.slices_Sort_int ShL.sort g 0 c l w (holds_ownL q1 (fun t ht => q6 t (by omega))) (blk_lt q1) (by omega)).mono ?_
  rintro e w' ⟨rfl, q, os, hw⟩
  obtain ⟨o1, o2⟩ := own_putL (l' := sortL l) (n := l.length) (h.2 g rfl) q1 q2 q3 q4 (sortL_len l) (by rw [sortL_len]; exact Nat.le_refl _) q os hw t0
  rw [<- sortL_len l, List.take_length] at o1
  exact ⟨rfl, by rw [<- sortL_len l]; exact o1, o2⟩
theorem scompactL_any (l : List Int) (hn : l.length <= 1000000) (v : Value) (w0 w : World) (t0 : Tch No w0 w) (h : OwnN w0 2 1 l.length (l.map encL) v w) :
  Calls Tryz.prog 101 #[v] w fun e w' => ∃ v', e = .returned v' /\ OwnN w0 2 1 (Go.Lib.compact l).length ((Go.Lib.compact l).map encL) v' w' /\ Tch No w0 w' := by
 obtain ⟨a, c, rfl, _, _⟩ := own_shape h.1
 cases a with
 | none =>
  have hl : l.length = 0 := by
   rcases h.1.2 with ⟨_, h0⟩ | ⟨_, _, _, h0, _⟩
   ·exact h0
   ·cases h0
  have hl2 : l = [] := List.eq_nil_of_length_eq_zero hl
  subst hl2
  refine (AnyG.slices_Compact_int_empty ShL.compact none c w).mono ?_
  rintro e w' ⟨rfl, rfl⟩
  exact ⟨_, rfl, by simpa [Go.Lib.compact, Go.Lib.compactUpTo] using h, t0⟩
 | some a =>
  obtain ⟨g, cur, rfl, q1, q2, q3, q4, q5, q6⟩ := own_get h.1
  refine (AnyG.slices_Compact_int ShL.compact g 0 c l w (holds_ownL q1 (fun t ht => q6 t (by omega))) (by omega) q2).mono ?_
  rintro e w' ⟨rfl, q, hw⟩
  have hle : (Go.Lib.compact l).length <= l.length := by
   unfold Go.Lib.compact Go.Lib.compactUpTo
   rw [List.length_map]
   exact Nat.le_trans (List.length_filter_le _ _) (by simp)
  obtain ⟨o1, o2⟩ := own_putL (w' := w') (l := l) (l' := Go.Lib.compact l ++ List.replicate (l.length - (Go.Lib.compact l).length) 0) (n := (Go.Lib.compact l).length) (h.2 g rfl) q1 q2 q3 q4 (by rw [List.length_append, List.length_replicate]; omega) (by rw [List.length_append]; omega) q #[] (by rw [hw, Go.Sort.grow_empty]) t0
  rw [List.take_left'] at o1
  ·exact ⟨_, rfl, o1, o2⟩
  ·rfl
theorem sortL_perm (l : List Int) : (sortL l).Perm l := List.mergeSort_perm _ _
theorem sortL_sorted (l : List Int) : (sortL l).Pairwise (· <= ·) := by
 have := List.pairwise_mergeSort (le := fun x y : Int => decide (x <= y)) (fun a b c h1 h2 => by simp only [decide_eq_true_eq] at *; omega) (fun a b => by simp only [Bool.or_eq_true, decide_eq_true_eq]; omega) l
 exact this.imp (fun h => by simpa using h)
end
section
open Go.RowKit Go.Maps
def holds0 (l : List MsgM) (t : Int) : List Int := (l.filter fun m => decide (m.who = t)).map (·.id)
def holdsM (s : StM) (t : Int) : List Int := Go.Lib.compact (sortL (holds0 s.ms t))
theorem holds0_snoc (l : List MsgM) (m : MsgM) (t : Int) : holds0 (l ++ [m]) t = holds0 l t ++ (if m.who = t then [m.id] else []) := by
 unfold holds0
 rw [List.filter_append, List.map_append]
 congr 1
 by_cases h : m.who = t <;> simp [h]
theorem holds0_le (l : List MsgM) (t : Int) : (holds0 l t).length <= l.length := by
 unfold holds0; rw [List.length_map]; exact List.length_filter_le _ _
theorem ones_i64 (x : Int) : Ones [Value.int .i64 x] := fun u hu => by
 simp only [List.mem_cons, List.not_mem_nil, or_false] at hu
 rw [hu]; rfl
theorem oholds_any (s : StM) (hn : s.ms.length <= 100000) (t : Int) (v : Value) (w : World) (h : IsSt w v s) :
  Calls Tryz.prog 36 #[v, .int .i64 t] w fun e w' => ∃ v', e = .returned v' /\ OwnN w 2 1 (holdsM s t).length ((holdsM s t).map encL) v' w' /\ Tch No w w' := by
 have HSO := Lib.hid (fun (l : List Int) (hl : l.length <= 1000000) v W (t : Tch No w W) (h : OwnN w 2 1 l.length (l.map encL) v W) => ssortL_any l hl v w W t h)
 have HCO := Lib.hid (fun (l : List Int) (hl : l.length <= 1000000) v W (t : Tch No w W) (h : OwnN w 2 1 l.length (l.map encL) v W) => scompactL_any l hl v w W t h)
 unfold holdsM
 obtain ⟨vm, vw, ve, vo, vn, rfl, hm, hw, he, ho, hno⟩ := h
 obtain ⟨ma, mc, rfl, _, _⟩ := CellsAt.shape hm
 obtain ⟨wa, wk, rfl, _, _⟩ := hw.shape
 obtain ⟨ea, ec, rfl, _, _⟩ := CellsAt.shape he
 obtain ⟨oa, oc, rfl, _, _⟩ := ho.shape
 obtain ⟨na, nc, rfl, _, _⟩ := hno.shape
 have HM := Lib.hid hm
 have HW := Lib.hid hw
 have HO := Lib.hid ho
 obtain ⟨brk, nid, nseq, tx, ms, waits, ends, opens, noes⟩ := s
 simp only at hn HM HW HO ⊢
 clear hm hw he ho hno
 obtain ⟨nm, hnm⟩ : ∃ n, ms.length = n := ⟨_, rfl⟩
 obtain ⟨nw, hnw⟩ : ∃ n, waits.length = n := ⟨_, rfl⟩
 obtain ⟨no, hno⟩ : ∃ n, opens.length = n := ⟨_, rfl⟩
 have HNM := Lib.hid hnm
 have HNW := Lib.hid hnw
 have HNO := Lib.hid hno
 rw [hnm] at hn HM ⊢
 rw [hnw] at HW ⊢
 rw [hno] at HO ⊢
 clear hnm hnw hno
 obtain ⟨bs, hbs⟩ : ∃ x, w.heap.size = x := ⟨_, rfl⟩
 obtain ⟨w1, hw1⟩ : ∃ x, w.alloc (.cells #[.int .i64 brk, .int .i64 nid, .int .i64 nseq, .int .i64 tx, .slice ma nm mc, .slice wa nw wk, .slice ea ends.length ec, .slice oa no oc, .slice na noes.length nc] 27) = x := ⟨_, rfl⟩
 have HB1 : Hid (w1.heap[bs]? = some (.cells #[.int .i64 brk, .int .i64 nid, .int .i64 nseq, .int .i64 tx, .slice ma nm mc, .slice wa nw wk, .slice ea ends.length ec, .slice oa no oc, .slice na noes.length nc] 27 (0, 0))) := by rw [Hid, <- hw1, <- hbs]; exact blk_new w _
 have TW1 : Hid (Tch No w w1) := by rw [Hid, <- hw1]; exact Tch.alloc _ _
 have b4 : w1.cell? ⟨bs, 4, none⟩ = some (.slice ma nm mc) := (blk_cell HB1.out 4).trans rfl
 go_enter Tryz.func36, Tryz.ntmps36
 go_wp2_with fail
 clear hbs hw1 b4
 go_loopg [5, 11] nm (fun kx s5 s11 wr => ∃ k : Nat, s11 = .int .i64 k /\ k <= nm /\ nm - k <= kx /\ Hid (OwnN w1 2 1 (holds0 (ms.take k) t).length ((holds0 (ms.take k) t).map encL) s5 wr) /\ Hid (Tch No w1 wr))
 case atStart => exact ⟨0, rfl, Nat.zero_le _, by omega, ⟨own_nil _ _ _, fun b hb => by simp [Value.ownBlock] at hb⟩, Tch.refl _ _⟩
 case round =>
  obtain ⟨k, rfl, hk, hgk, HOW, TT⟩ := hrel
  have TWr : Hid (Tch No w wr) := TW1.out.trans0 TT.out
  by_cases hlt : k < nm
  ·have HLE : Hid ((holds0 (ms.take k) t).length <= 100000) := by
    have := holds0_le (ms.take k) t
    rw [List.length_take] at this
    rw [Hid]; omega
   have hkl : k < ms.length := by rw [HNM.out]; exact hlt
   have hb : ∃ b o, ma = some ⟨b, o, none⟩ /\ wr.cell? ⟨b, o + k * 6, none⟩ = some (.int .i64 ms[k].id) /\ wr.cell? ⟨b, o + k * 6 + 1, none⟩ = some (strV ms[k].q) /\ wr.cell? ⟨b, o + k * 6 + 2, none⟩ = some (strV ms[k].b) /\ wr.cell? ⟨b, o + k * 6 + 3, none⟩ = some (.int .i64 ms[k].seq) /\ wr.cell? ⟨b, o + k * 6 + 4, none⟩ = some (.int .i64 ms[k].cnt) /\ wr.cell? ⟨b, o + k * 6 + 5, none⟩ = some (.int .i64 ms[k].who) := by
    have hm := HM.out
    rw [<- HNM.out] at hm
    obtain ⟨b, o, cap2, h1, h2⟩ := CellsAt.elem (enc := encMsg) (m := 6) (fun _ => rfl) hm hkl
    injection h1 with h1 _ _
    exact ⟨b, o, h1, TWr.out.cell (h2 0 _ (by decide) rfl) (fun h => h), TWr.out.cell (h2 1 _ (by decide) rfl) (fun h => h), TWr.out.cell (h2 2 _ (by decide) rfl) (fun h => h), TWr.out.cell (h2 3 _ (by decide) rfl) (fun h => h), TWr.out.cell (h2 4 _ (by decide) rfl) (fun h => h), TWr.out.cell (h2 5 _ (by decide) rfl) (fun h => h)⟩
   obtain ⟨b, o, rfl, e0, e1, e2, e3, e4, e5⟩ := hb
   have HSN : Hid (ms.take (k + 1) = ms.take k ++ [ms[k]]) := take_snoc hkl
   obtain ⟨m, hmk⟩ : ∃ m, ms[k] = m := ⟨_, rfl⟩
   rw [hmk] at HSN e0 e1 e2 e3 e4 e5
   clear hmk
   obtain ⟨x0, x1, x2, x3, x4, x5⟩ := m
   simp only [strV] at e1 e2
   simp only at HSN e0 e3 e4 e5
   obtain ⟨q1, hq1⟩ : ∃ q : ByteArray, (⟨x1.toArray⟩ : ByteArray) = q := ⟨_, rfl⟩
   obtain ⟨q2, hq2⟩ : ∃ q : ByteArray, (⟨x2.toArray⟩ : ByteArray) = q := ⟨_, rfl⟩
   rw [hq1] at e1
   rw [hq2] at e2
   clear hq1 hq2
   have HHS : Hid (holds0 (ms.take (k + 1)) t = holds0 (ms.take k) t ++ (if x5 = t then [x0] else [])) := by rw [Hid, HSN.out, holds0_snoc]
   obtain ⟨L, hL⟩ : ∃ l, holds0 (ms.take k) t = l := ⟨_, rfl⟩
   rw [hL] at HOW HHS HLE
   clear hL
   have HAP : Hid (∀ W, Tch No wr W -> OwnN w1 2 1 L.length (L.map encL) u5 W) := fun W t => stb_own _ _ _ t HOW.out
   by_cases c : x5 = t
   ·have hb : (x5 == t) = true := by simp [c]
    have HX : Hid (holds0 (ms.take (k + 1)) t = L ++ [x0]) := by rw [Hid, HHS.out, if_pos c]
    clear HHS c HSN
    go_wp2_with (at_builtin; refine wpList_appE eltI64 _ rfl _ _ rfl _ _ _ rfl (HAP.out _ ((Tch.alloc _ _).trans0 (Tch.alloc _ _))).1 _ 1 [.int .i64 x0] rfl (cells_lit2 (by simp) _ _ 1 _ rfl rfl) (ones_i64 _) (by have := HLE.out; omega) ?_; rintro a' n' cap' w' HA hn')
    go_roundg (nm - (k + 1))
    case measure => omega
    case rel =>
     have hO := HA.on (TT.out.trans0 ((Tch.alloc _ _).trans0 (Tch.alloc _ _))) HOW.out.2
     have h := HA.own
     have hnn : n' = L.length + 1 := hn'
     subst hnn
     refine ⟨k + 1, by go_num, by omega, by omega, ?_, hO.1⟩
     rw [HX.out, List.length_append, List.map_append]
     exact ⟨h, hO.2⟩
   ·have hb : (x5 == t) = false := beq_eq_false_iff_ne.2 c
    have HX : Hid (holds0 (ms.take (k + 1)) t = L) := by rw [Hid, HHS.out, if_neg c, List.append_nil]
    clear HHS c HSN
    go_wp2_with fail
    go_roundg (nm - (k + 1))
    case measure => omega
    case rel => exact ⟨k + 1, by go_num, by omega, by omega, by rw [HX.out]; exact HAP.out _ (Tch.alloc _ _), TT.out.trans0 (Tch.alloc _ _)⟩
  ·obtain rfl : k = nm := by omega
   have HLE : Hid ((holds0 ms t).length <= 1000000) := by
    have := holds0_le ms t
    have := HNM.out
    rw [Hid]; omega
   have HQS : Hid (ms.take k = ms) := by rw [Hid, <- HNM.out, List.take_length]
   rw [HQS.out] at HOW
   obtain ⟨L, hL⟩ : ∃ l, holds0 ms t = l := ⟨_, rfl⟩
   rw [hL] at HOW HLE
   have HLQ := Lib.hid hL
   have OO2 : Hid (OwnN w 2 1 L.length (L.map encL) u5 wr) := ⟨HOW.out.1, fun b hb => Nat.le_trans TW1.out.size (HOW.out.2 b hb)⟩
   clear hL HOW
   go_wp2_with fail
   refine (HSO.out L HLE.out u5 wr TWr.out OO2.out).mono ?_
   rintro e w3 ⟨rfl, O3, T3⟩
   have TT3 := Lib.hid T3
   rw [<- sortL_len L] at O3
   have OO3 := Lib.hid O3
   have HL3 : Hid ((sortL L).length <= 1000000) := by rw [Hid, sortL_len]; exact HLE.out
   clear O3 T3
   go_wp2_with fail
   refine (HCO.out (sortL L) HL3.out u5 w3 TT3.out OO3.out).mono ?_
   rintro e w4 ⟨v4, rfl, O4, T4⟩
   have TT4 := Lib.hid T4
   have OO4 := Lib.hid O4
   clear O4 T4
   go_wp2_with fail
   go_ret
   rw [HLQ.out]
   exact ⟨v4, rfl, OO4.out, TT4.out⟩
end
end Go.Proofs.YtelaljoebdpicaaGreat
