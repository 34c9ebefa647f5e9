/- Part 32 of what the proof of OrderRoom rests on. No condition. -/
import Derived.Shelf.Slices.In.SortNone
import Derived.Test.YtfedhcnmdmhppaaGreatPOrderRoom13
import Derived.Test.YtfedhcnmdmhppaaGreatPOrderRoom14
import Derived.Test.YtfedhcnmdmhppaaGreatPOrderRoom17
import Derived.Test.YtfedhcnmdmhppaaGreatPOrderRoom27
import Derived.Test.YtfedhcnmdmhppaaGreatPOrderRoom31
namespace Go.Proofs.YtfedhcnmdmhppaaGreat
set_option maxRecDepth 100000
set_option maxHeartbeats 60000000
set_option linter.unusedVariables false
set_option linter.unusedSimpArgs false
section
open Go.RowKit Go.Maps Go.Shelf
theorem tch_ahead (w : World) (n : Nat) : Tch No w (Go.Sort.ahead w n) := ⟨rfl, rfl, rfl, Nat.le_refl _, fun _ _ _ => rfl⟩
theorem tch_putRow {α : Type} [Inhabited α] (enc : α -> Value) (w : World) (blk off : Nat) (d : Array α) : Tch (fun k => k = blk) w (Go.Sort.putRow enc w blk off d) := by
 refine ⟨rfl, rfl, rfl, by simp [Go.Sort.putRow, Go.Sort.mapBlock], fun k hk hne => ?_⟩
 simp only [Go.Sort.putRow, Go.Sort.mapBlock, Array.getElem?_modify]
 rw [if_neg (fun e => hne e.symm)]
theorem tch_grow (w : World) (os : Array Obj) : Tch No w (Go.Sort.grow w os) := by
 refine ⟨rfl, rfl, rfl, by simp [Go.Sort.grow], fun k hk _ => ?_⟩
 simp only [Go.Sort.grow]
 exact Array.getElem?_append_left hk
theorem blk_putRow {α : Type} [Inhabited α] (enc : α -> Value) {w : World} {blk : Nat} {cur : Array Value} {e : TypeId} (h : w.heap[blk]? = some (.cells cur e (0, 0))) (d : Array α) (hd : d.size <= cur.size) :
  ∃ cur' : Array Value, (Go.Sort.putRow enc w blk 0 d).heap[blk]? = some (.cells cur' e (0, 0)) /\ cur'.size = cur.size /\ ∀ t, t < d.size -> cur'[t]? = some (enc d[t]!) := by
 refine ⟨Go.Sort.putCells enc 0 d cur, ?_, by simp [Go.Sort.putCells], fun t ht => ?_⟩
 ·simp only [Go.Sort.putRow, Go.Sort.mapBlock, Array.getElem?_modify, if_true, h, Option.map_some]
  rfl
 ·simp only [Go.Sort.putCells, Array.getElem?_mapIdx]
  rw [Array.getElem?_eq_getElem (by omega)]
  simp [ht]
theorem holds_own {l : List Txt} {w : World} {g : Nat} {cur : Array Value} {e : TypeId} (h : w.heap[g]? = some (.cells cur e (0, 0))) (hc : ∀ t, t < l.length -> cur[t]? = (l.map strV)[t]?) : Go.Sort.Holds Go.Proofs.encStr w g 0 l.toArray := fun j hj => by
 have hj' : j < l.length := by simpa using hj
 refine ⟨?_, blk_free h _⟩
 rw [Nat.zero_add, blk_cell h, hc j hj', List.getElem?_map, List.getElem?_eq_getElem hj']
 simp [strV, hj']
theorem own_put {w0 w w' : World} {g c : Nat} {cur : Array Value} {l l' : List Txt} {n : Nat} (hw0 : w0.heap.size <= g) (hg : w.heap[g]? = some (.cells cur 9 (0, 0))) (hcap : l.length <= c) (hc2 : c <= maxLen) (hcur : cur.size = c * 1) (hl : l'.length = l.length) (hn : n <= l'.length)
  (q : Nat) (os : Array Obj) (hw : w' = Go.Sort.grow (Go.Sort.putRow Go.Proofs.encStr (Go.Sort.ahead w q) g 0 l'.toArray) os) (t0 : Tch No w0 w) :
  OwnN w0 9 1 n ((l'.take n).map strV) (.slice (some ⟨g, 0, none⟩) n c) w' /\ Tch No w0 w' := by
 subst hw
 obtain ⟨cur', p1, p2, p3⟩ := blk_putRow Go.Proofs.encStr (w := Go.Sort.ahead w q) (blk := g) (cur := cur) hg l'.toArray (by rw [List.size_toArray]; omega)
 have hlt := blk_lt p1
 refine ⟨⟨own_mk (by simp; omega) (blk_tch (tch_grow _ os) p1 (fun h => h)) (by omega) hc2 (by rw [p2, hcur]) (fun t ht => ?_), fun b hb => ?_⟩, ((t0.trans0 (tch_ahead w q)).fresh (F := fun k => k = g) (tch_putRow _ _ _ _ _) (fun k h => by rw [h]; exact hw0)).trans0 (tch_grow _ os)⟩
 ·have ht' : t < l'.length := by omega
  rw [p3 t (by simpa using ht'), List.getElem?_map, List.getElem?_take, if_pos (by omega), List.getElem?_eq_getElem ht']
  simp [strV, ht']
 ·have hb' : g = b := by simpa [Value.ownBlock] using hb
  omega
def sortM (l : List Txt) : List Txt := l.mergeSort fun x y => decide (x <= y)
theorem sortM_len (l : List Txt) : (sortM l).length = l.length := List.length_mergeSort _
theorem ssort_any (l : List Txt) (hn : l.length <= 1000000) (v : Value) (w0 w : World) (t0 : Tch No w0 w) (h : OwnN w0 9 1 l.length (l.map strV) v w) :
  Calls Tryz.prog 101 #[v] w fun e w' => e = .returned (.tuple #[]) /\ OwnN w0 9 1 l.length ((sortM l).map strV) v w' /\ Tch No w0 w' := by
 obtain ⟨a, c, rfl, _, _⟩ := own_shape h.1
 cases a with
 | none =>
  have hl : l.length = 0 := by
   rcases h.1.2 with ⟨_, h0⟩ | ⟨_, _, _, h0, _⟩
   ·exact h0
   ·cases h0
  have hl2 : l = [] := List.eq_nil_of_length_eq_zero hl
  subst hl2
  refine (Any.slices_Sort_string_none ShS.sort none c w).mono ?_
  rintro e w' ⟨rfl, rfl⟩
  exact ⟨rfl, by simpa [sortM] using h, t0⟩
 | some a =>
  obtain ⟨g, cur, rfl, q1, q2, q3, q4, q5, q6⟩ := own_get h.1
  refine (Any.slices_Sort_string ShS.sort g 0 c l w (holds_own q1 (fun t ht => q6 t (by omega))) (blk_lt q1) (by omega)).mono ?_
  rintro e w' ⟨rfl, q, os, hw⟩
  obtain ⟨o1, o2⟩ := own_put (l' := sortM l) (n := l.length) (h.2 g rfl) q1 q2 q3 q4 (sortM_len l) (by rw [sortM_len]; exact Nat.le_refl _) q os hw t0
  rw [<- sortM_len l, List.take_length] at o1
  exact ⟨rfl, by rw [<- sortM_len l]; exact o1, o2⟩
theorem scompact_any (l : List Txt) (hn : l.length <= 1000000) (v : Value) (w0 w : World) (t0 : Tch No w0 w) (h : OwnN w0 9 1 l.length (l.map strV) v w) :
  Calls Tryz.prog 102 #[v] w fun e w' => ∃ v', e = .returned v' /\ OwnN w0 9 1 (Go.Lib.compact l).length ((Go.Lib.compact l).map strV) v' w' /\ Tch No w0 w' := by
 obtain ⟨a, c, rfl, _, _⟩ := own_shape h.1
 cases a with
 | none =>
  have hl : l.length = 0 := by
   rcases h.1.2 with ⟨_, h0⟩ | ⟨_, _, _, h0, _⟩
   ·exact h0
   ·cases h0
  have hl2 : l = [] := List.eq_nil_of_length_eq_zero hl
  subst hl2
  refine (AnyG.slices_Compact_string_empty ShS.compact none c w).mono ?_
  rintro e w' ⟨rfl, rfl⟩
  exact ⟨_, rfl, by simpa [Go.Lib.compact, Go.Lib.compactUpTo] using h, t0⟩
 | some a =>
  obtain ⟨g, cur, rfl, q1, q2, q3, q4, q5, q6⟩ := own_get h.1
  refine (AnyG.slices_Compact_string ShS.compact g 0 c l w (holds_own q1 (fun t ht => q6 t (by omega))) (by omega) q2).mono ?_
  rintro e w' ⟨rfl, q, hw⟩
  have hle : (Go.Lib.compact l).length <= l.length := by
   unfold Go.Lib.compact Go.Lib.compactUpTo
   rw [List.length_map]
   exact Nat.le_trans (List.length_filter_le _ _) (by simp)
  obtain ⟨o1, o2⟩ := own_put (w' := w') (l := l) (l' := Go.Lib.compact l ++ List.replicate (l.length - (Go.Lib.compact l).length) []) (n := (Go.Lib.compact l).length) (h.2 g rfl) q1 q2 q3 q4 (by rw [List.length_append, List.length_replicate]; omega) (by rw [List.length_append]; omega) q #[] (by rw [hw, Go.Sort.grow_empty]) t0
  rw [List.take_left'] at o1
  ·exact ⟨_, rfl, o1, o2⟩
  ·rfl
def queuesM (s : StM) (more : List PutM) : List Txt := Go.Lib.compact (sortM (namesM s more))
theorem oqueues_any (s : StM) (more : List PutM) (hn : s.ms.length <= 100000) (hnw : s.waits.length <= 100000) (hmo : (moreM more s.waits).length <= 100000) (v vp : Value) (w : World) (h : IsSt w v s) (hp : IsPuts w vp more) :
  Calls Tryz.prog 36 #[v, vp] w fun e w' => ∃ v', e = .returned v' /\ OwnN w 9 1 (queuesM s more).length ((queuesM s more).map strV) v' w' /\ Tch No w w' := by
 have HNA := Lib.hid (fun W (t : Tch No w W) => onames_any s more hn hnw hmo v vp W (h.keep t) (hp.keep t))
 have HLN : Hid ((namesM s more).length <= 1000000) := by
  unfold namesM
  rw [Hid, List.length_append, List.length_map, List.length_map]; omega
 obtain ⟨am, cm, aw, cw, ae, ce, ao, co, an, cn, hv⟩ := h.vals
 subst hv
 obtain ⟨pa, pc, rfl, _, _⟩ := CellsAt.shape hp
 unfold queuesM
 obtain ⟨l, hl⟩ : ∃ l, namesM s more = l := ⟨_, rfl⟩
 rw [hl] at HNA HLN
 rw [hl]
 have HSO := Lib.hid (fun v W (t : Tch No w W) (h : OwnN w 9 1 l.length (l.map strV) v W) => ssort_any l HLN.out v w W t h)
 have HCO := Lib.hid (fun v W (t : Tch No w W) (h : OwnN w 9 1 (sortM l).length ((sortM l).map strV) v W) => scompact_any (sortM l) (by rw [sortM_len]; exact HLN.out) v w W t h)
 have HSL := Lib.hid (sortM_len l)
 clear h hp hl hn hnw hmo
 go_enter Tryz.func36, Tryz.ntmps36
 go_wp2_with fail
 refine (HNA.out _ (Tch.alloc _ _)).mono ?_
 rintro e w2 ⟨v2, rfl, O2, T2⟩
 have TT2 : Hid (Tch No w w2) := (Tch.alloc _ _).trans0 T2
 have OO2 : Hid (OwnN w 9 1 l.length (l.map strV) v2 w2) := ⟨O2.1, fun b hb => Nat.le_trans (Tch.alloc _ _).size (O2.2 b hb)⟩
 clear O2 T2
 go_wp2_with fail
 refine (HSO.out v2 w2 TT2.out OO2.out).mono ?_
 rintro e w3 ⟨rfl, O3, T3⟩
 have TT3 := Lib.hid T3
 rw [<- HSL.out] at O3
 have OO3 := Lib.hid O3
 clear O3 T3
 go_wp2_with fail
 refine (HCO.out v2 w3 TT3.out OO3.out).mono ?_
 rintro e w4 ⟨v4, rfl, O4, T4⟩
 have TT4 := Lib.hid T4
 have OO4 := Lib.hid O4
 clear O4 T4
 go_wp2_with fail
 go_ret
 exact ⟨v4, rfl, OO4.out, TT4.out⟩
end
section
open Go.RowKit Go.Maps
theorem del_int (w0 : World) (g : Nat) (lb : Array Value) (eg : ∀ args w, (callFunc g args).run Tryz.prog w = .ok (.enter g args) w) (p : Int -> Bool) (l : List Int)
  (hp : ∀ x ∈ l, ∀ W, Tch No w0 W -> Calls Tryz.prog g (#[(.int .i64 (x))] ++ lb) W fun e w' => e = .returned (.bool (p x)) /\ Tch No W w')
  (v : Value) (w : World) (t0 : Tch No w0 w) (h : OwnN w0 3 1 l.length (l.flatMap (fun q : Int => [Value.int .i64 q])) v w) (hn : l.length <= 100000000) :
  Calls Tryz.prog 160 #[v, .func (.func g) #[] lb] w fun e w' => ∃ v', e = .returned v' /\ OwnN w0 3 1 (keptM p l).length ((keptM p l).flatMap (fun q : Int => [Value.int .i64 q])) v' w' /\ Tch No w0 w' := by
 have he : ∀ x, ((fun q : Int => [Value.int .i64 q]) x).length = 1 := fun _ => rfl
 have hc := CellsAt.ofRow h.1
 have hcs : ∀ i (hi : i < l.length), (l.flatMap (fun q : Int => [Value.int .i64 q]))[i * 1 + 0]? = some (.int .i64 (l[i])) := fun i hi =>
  flat_get (fun q : Int => [Value.int .i64 q]) 1 he l i 0 hi (by decide)
 have hI := idx_int g lb eg (fun i => if h : i < l.length then p l[i] else false) (fun i => if h : i < l.length then l[i] else 0) _ l.length v w hc (fun i hi => by
   simp only [dif_pos hi]
   exact hcs i hi) (fun k hk W t => by
   simp only [dif_pos hk]
   exact hp _ (List.getElem_mem _) W (t0.trans0 t))
 have HI := Lib.hid hI
 have HP := Lib.hid hp
 have HS := Lib.hid hcs
 have T0 := Lib.hid t0
 have HO := Lib.hid h
 obtain ⟨a, c, rfl, hc1, hc2⟩ := own_shape h.1
 have hml : c <= 9223372036854775807 := by unfold maxLen at hc2; omega
 clear hp hcs t0 h hI hc
 go_enter Tryz.func160, Tryz.ntmps160
 go_wp2_with fail
 refine HI.out.mono ?_
 rintro e w1 ⟨⟨r, rfl, hr⟩, T1⟩
 have TT1 := Lib.hid T1
 rcases hr with ⟨rfl, hall⟩ | ⟨k0, hk0, rfl, hhit, hno⟩
 ·have HA := Lib.hid hall
  clear hall
  go_wp2_with fail
  go_ret
  have e1 : keptM p l = l := DInv.none_ (fun i hi => by have := HA.out i hi; simpa only [dif_pos hi] using this)
  rw [e1]
  exact ⟨_, rfl, stb_own _ _ _ TT1.out HO.out, T0.out.trans0 TT1.out⟩
 ·have hex : ∃ g0 cur0, a = some ⟨g0, 0, none⟩ /\ Hid (w0.heap.size <= g0 /\ w1.heap[g0]? = some (.cells cur0 3 (0, 0)) /\ cur0.size = c * 1 /\ ∀ t, t < l.length * 1 -> cur0[t]? = (l.flatMap (fun q : Int => [Value.int .i64 q]))[t]?) := by
   have h1 := stb_own _ _ _ TT1.out HO.out
   cases a with
   | none =>
    rcases h1.1.2 with ⟨_, h0⟩ | ⟨_, _, _, h0, _⟩
    ·omega
    ·cases h0
   | some a =>
    obtain ⟨g0, cur, rfl, q1, q2, q3, q4, q5, q6⟩ := own_get h1.1
    exact ⟨g0, cur, rfl, h1.2 g0 rfl, q1, q4, q6⟩
  obtain ⟨g0, cur0, rfl, Q⟩ := hex
  have D0 : Hid (DInv (fun q : Int => [Value.int .i64 q]) 1 p l c (k0 + 1) k0 cur0) := DInv.start he hk0 (by simpa only [dif_pos hk0] using hhit) (fun i hi h => by have := hno i h; simpa only [dif_pos hi] using this) Q.out.2.2.1 Q.out.2.2.2
  have hne1 : ((k0 : Int) == -1) = false := beq_eq_false_iff_ne.2 (by omega)
  clear hhit hno
  go_wp2_with fail
  go_loopg [5, 6, 7] l.length (fun kx s5 s6 _ wr => ∃ (i j : Nat) (cur : Array Value), s5 = .int .i64 i /\ s6 = .int .i64 j /\ i + 1 <= j /\ j <= l.length /\ l.length - j <= kx /\ Hid (DInv (fun q : Int => [Value.int .i64 q]) 1 p l c j i cur) /\ Hid (wr.heap[g0]? = some (.cells cur 3 (0, 0))) /\ Hid (Tch No w0 wr))
  case atStart => exact ⟨k0, k0 + 1, cur0, rfl, by go_num, Nat.le_refl _, by omega, by omega, D0.out, Q.out.2.1, T0.out.trans0 TT1.out⟩
  case round =>
   obtain ⟨i, j, cur, rfl, rfl, hij, hjl, hgk, D, HG, TW⟩ := hrel
   have hsz : cur.size = c * 1 := D.out.sz
   by_cases hlt : j < l.length
   ·have hltz : (j : Int) < (l.length : Int) := by omega
    have hjm : j * 1 + 1 <= l.length * 1 := by omega
    have hcm : l.length * 1 <= c * 1 := Nat.mul_le_mul_right _ hc1
    have e0 : wr.cell? ⟨g0, j, none⟩ = some (.int .i64 (l[j])) := by rw [blk_cell HG.out, D.out.high j (by omega) (by omega)]; simpa using flat_get (fun q : Int => [Value.int .i64 q]) 1 he l j 0 hlt (by decide)
    have HF := HP.out _ (List.getElem_mem hlt)
    obtain ⟨x, hx⟩ : ∃ x, l[j] = x := ⟨_, rfl⟩
    have HX := Lib.hid hx
    rw [hx] at e0 HF
    clear hx
    have HVS : Hid ((fun q : Int => [Value.int .i64 q]) x = [.int .i64 x]) := rfl
    have HG2 := Lib.hid HF
    clear HF
    by_cases hit : p x = true
    ·rw [hit] at HG2
     have D2 : Hid (DInv (fun q : Int => [Value.int .i64 q]) 1 p l c (j + 1) i cur) := D.out.skip hlt (by rw [HX.out]; exact hit)
     clear hit
     go_wp2_with fail
     refine (HG2.out _ TW.out).mono ?_
     rintro e w3 ⟨rfl, T3⟩
     go_wp2_with fail
     go_roundg (l.length - (j + 1))
     case measure => omega
     case rel => exact ⟨i, j + 1, cur, rfl, by go_num, by omega, by omega, Nat.le_refl _, D2.out, blk_tch T3 HG.out (fun h => h), TW.out.trans0 T3⟩
    ·have hd : p x = false := by simpa using hit
     rw [hd] at HG2
     have PX : Hid (p l[j] = false) := by rw [Hid, HX.out]; exact hd
     clear hit hd
     have him : i * 1 + 1 <= j * 1 := by omega
     go_wp2_with fail
     refine (HG2.out _ TW.out).mono ?_
     rintro e w3 ⟨rfl, T3⟩
     have TT3 : Hid (Tch No wr w3) := T3
     have H3 := Lib.hid (blk_tch TT3.out HG.out (fun h => h))
     obtain ⟨o0, ho0⟩ : ∃ o, w3.cell? ⟨g0, i, none⟩ = some o := ⟨cur[i]'(by omega), by rw [blk_cell H3.out]; exact Array.getElem?_eq_getElem _⟩
     have hf0 : w3.frozen? ⟨g0, i, none⟩ = false := blk_free H3.out _
     clear T3
     go_wp2_with fail
     go_roundg (l.length - (j + 1))
     case measure => omega
     case rel =>
      obtain ⟨cur', q1, q2, q3⟩ := blk_sets [.int .i64 x] i w3 cur H3.out (by simp only [List.length_cons, List.length_nil]; omega)
      refine ⟨i + 1, j + 1, cur', by go_num, by go_num, by omega, by omega, Nat.le_refl _, D.out.keep he hlt PX.out q2 (fun t => ?_), q1, ((TW.out.trans0 TT3.out).fresh (F := fun k => k = g0) (Tch.setCells (F := fun k => k = g0) (b := g0) rfl [.int .i64 x] i w3) (fun k h => by rw [h]; exact Q.out.1))⟩
      rw [q3 t, HX.out, Nat.mul_one]
      rfl
   ·obtain rfl : j = l.length := by omega
    have hii : i < l.length := by omega
    have hic : i < c := by omega
    have hltz : ¬ ((l.length : Int) < (l.length : Int)) := by omega
    obtain ⟨zs, hzs⟩ : ∃ zs, (Builtin.zeroCells (Value.int .i64 0).cells (l.length - i)).toList = zs := ⟨_, rfl⟩
    have hzl : zs.length = (l.length - i) * 1 := by rw [<- hzs, zc_len]; rfl
    have hz1 : Ones zs := by
     rw [<- hzs]
     exact zc_one _ _ (fun q hq => by
      have hq' : q < 1 := hq
      have : q = 0 := by omega
      rcases this with rfl <;> rfl) (by decide)
    have hfit : i * 1 + zs.length <= cur.size := by
     have : i * 1 + (l.length - i) * 1 <= c * 1 := by rw [<- Nat.add_mul]; exact Nat.mul_le_mul_right _ (by omega)
     omega
    have hcl : ∀ ty, (Builtin.clear_ #[34] ty #[.slice (some ⟨g0, i, none⟩) (l.length - i) (c - i)]).run Tryz.prog wr = .ok (.tuple #[]) (wr.setCells g0 i zs) := fun ty =>
     run_clear_many wr _ 3 ty (Value.int .i64 0) eltInt.und (fun w => by kernel_rfl) g0 i _ _ (by omega) zs hzs hz1 (fun q hq => by rw [blk_cell HG.out, Array.getElem?_eq_getElem (by omega)]; rfl) (fun q _ => blk_free HG.out _)
    have ZZ : Hid (i * 1 + zs.length <= cur.size) := hfit
    clear hzs hzl hz1 hfit hsz
    go_wp2
    go_ret
    obtain ⟨cur', q1, q2, q3⟩ := blk_sets zs i wr cur HG.out (by have := ZZ.out; omega)
    exact ⟨_, rfl, ⟨D.out.done he hc1 hc2 q1 q2 (fun t ht => by rw [q3 t, if_neg (by omega)]), fun b hb => by
     have hb' : g0 = b := by simpa [Value.ownBlock] using hb
     have hq := Q.out.1
     omega⟩, TW.out.fresh (F := fun k => k = g0) (Tch.setCells (F := fun k => k = g0) (b := g0) rfl zs i wr) (fun k h => by rw [h]; exact Q.out.1)⟩
theorem del_str (w0 : World) (g : Nat) (lb : Array Value) (eg : ∀ args w, (callFunc g args).run Tryz.prog w = .ok (.enter g args) w) (p : Txt -> Bool) (l : List Txt)
  (hp : ∀ x ∈ l, ∀ W, Tch No w0 W -> Calls Tryz.prog g (#[(.string ⟨(x).toArray⟩)] ++ lb) W fun e w' => e = .returned (.bool (p x)) /\ Tch No W w')
  (v : Value) (w : World) (t0 : Tch No w0 w) (h : OwnN w0 9 1 l.length (l.flatMap (fun q : Txt => [strV q])) v w) (hn : l.length <= 100000000) :
  Calls Tryz.prog 97 #[v, .func (.func g) #[] lb] w fun e w' => ∃ v', e = .returned v' /\ OwnN w0 9 1 (keptM p l).length ((keptM p l).flatMap (fun q : Txt => [strV q])) v' w' /\ Tch No w0 w' := by
 have he : ∀ x, ((fun q : Txt => [strV q]) x).length = 1 := fun _ => rfl
 have hc := CellsAt.ofRow h.1
 have hcs : ∀ i (hi : i < l.length), (l.flatMap (fun q : Txt => [strV q]))[i * 1 + 0]? = some (.string ⟨(l[i]).toArray⟩) := fun i hi =>
  flat_get (fun q : Txt => [strV q]) 1 he l i 0 hi (by decide)
 have hI := idx_str g lb eg (fun i => if h : i < l.length then p l[i] else false) (fun i => if h : i < l.length then ⟨(l[i]).toArray⟩ else ⟨#[]⟩) _ l.length v w hc (fun i hi => by
   simp only [dif_pos hi]
   exact hcs i hi) (fun k hk W t => by
   simp only [dif_pos hk]
   exact hp _ (List.getElem_mem _) W (t0.trans0 t))
 have HI := Lib.hid hI
 have HP := Lib.hid hp
 have HS := Lib.hid hcs
 have T0 := Lib.hid t0
 have HO := Lib.hid h
 obtain ⟨a, c, rfl, hc1, hc2⟩ := own_shape h.1
 have hml : c <= 9223372036854775807 := by unfold maxLen at hc2; omega
 clear hp hcs t0 h hI hc
 go_enter Tryz.func97, Tryz.ntmps97
 go_wp2_with fail
 refine HI.out.mono ?_
 rintro e w1 ⟨⟨r, rfl, hr⟩, T1⟩
 have TT1 := Lib.hid T1
 rcases hr with ⟨rfl, hall⟩ | ⟨k0, hk0, rfl, hhit, hno⟩
 ·have HA := Lib.hid hall
  clear hall
  go_wp2_with fail
  go_ret
  have e1 : keptM p l = l := DInv.none_ (fun i hi => by have := HA.out i hi; simpa only [dif_pos hi] using this)
  rw [e1]
  exact ⟨_, rfl, stb_own _ _ _ TT1.out HO.out, T0.out.trans0 TT1.out⟩
 ·have hex : ∃ g0 cur0, a = some ⟨g0, 0, none⟩ /\ Hid (w0.heap.size <= g0 /\ w1.heap[g0]? = some (.cells cur0 9 (0, 0)) /\ cur0.size = c * 1 /\ ∀ t, t < l.length * 1 -> cur0[t]? = (l.flatMap (fun q : Txt => [strV q]))[t]?) := by
   have h1 := stb_own _ _ _ TT1.out HO.out
   cases a with
   | none =>
    rcases h1.1.2 with ⟨_, h0⟩ | ⟨_, _, _, h0, _⟩
    ·omega
    ·cases h0
   | some a =>
    obtain ⟨g0, cur, rfl, q1, q2, q3, q4, q5, q6⟩ := own_get h1.1
    exact ⟨g0, cur, rfl, h1.2 g0 rfl, q1, q4, q6⟩
  obtain ⟨g0, cur0, rfl, Q⟩ := hex
  have D0 : Hid (DInv (fun q : Txt => [strV q]) 1 p l c (k0 + 1) k0 cur0) := DInv.start he hk0 (by simpa only [dif_pos hk0] using hhit) (fun i hi h => by have := hno i h; simpa only [dif_pos hi] using this) Q.out.2.2.1 Q.out.2.2.2
  have hne1 : ((k0 : Int) == -1) = false := beq_eq_false_iff_ne.2 (by omega)
  clear hhit hno
  go_wp2_with fail
  go_loopg [5, 6, 7] l.length (fun kx s5 s6 _ wr => ∃ (i j : Nat) (cur : Array Value), s5 = .int .i64 i /\ s6 = .int .i64 j /\ i + 1 <= j /\ j <= l.length /\ l.length - j <= kx /\ Hid (DInv (fun q : Txt => [strV q]) 1 p l c j i cur) /\ Hid (wr.heap[g0]? = some (.cells cur 9 (0, 0))) /\ Hid (Tch No w0 wr))
  case atStart => exact ⟨k0, k0 + 1, cur0, rfl, by go_num, Nat.le_refl _, by omega, by omega, D0.out, Q.out.2.1, T0.out.trans0 TT1.out⟩
  case round =>
   obtain ⟨i, j, cur, rfl, rfl, hij, hjl, hgk, D, HG, TW⟩ := hrel
   have hsz : cur.size = c * 1 := D.out.sz
   by_cases hlt : j < l.length
   ·have hltz : (j : Int) < (l.length : Int) := by omega
    have hjm : j * 1 + 1 <= l.length * 1 := by omega
    have hcm : l.length * 1 <= c * 1 := Nat.mul_le_mul_right _ hc1
    have e0 : wr.cell? ⟨g0, j, none⟩ = some (.string ⟨(l[j]).toArray⟩) := by rw [blk_cell HG.out, D.out.high j (by omega) (by omega)]; simpa [strV] using flat_get (fun q : Txt => [strV q]) 1 he l j 0 hlt (by decide)
    have HF := HP.out _ (List.getElem_mem hlt)
    obtain ⟨x, hx⟩ : ∃ x, l[j] = x := ⟨_, rfl⟩
    have HX := Lib.hid hx
    rw [hx] at e0 HF
    clear hx
    obtain ⟨x0, hx0⟩ : ∃ z : ByteArray, (⟨(x).toArray⟩ : ByteArray) = z := ⟨_, rfl⟩
    rw [hx0] at HF
    rw [hx0] at e0
    have HVS : Hid ((fun q : Txt => [strV q]) x = [.string x0]) := by rw [Hid, <- hx0]; rfl
    clear hx0
    have HG2 := Lib.hid HF
    clear HF
    by_cases hit : p x = true
    ·rw [hit] at HG2
     have D2 : Hid (DInv (fun q : Txt => [strV q]) 1 p l c (j + 1) i cur) := D.out.skip hlt (by rw [HX.out]; exact hit)
     clear hit
     go_wp2_with fail
     refine (HG2.out _ TW.out).mono ?_
     rintro e w3 ⟨rfl, T3⟩
     go_wp2_with fail
     go_roundg (l.length - (j + 1))
     case measure => omega
     case rel => exact ⟨i, j + 1, cur, rfl, by go_num, by omega, by omega, Nat.le_refl _, D2.out, blk_tch T3 HG.out (fun h => h), TW.out.trans0 T3⟩
    ·have hd : p x = false := by simpa using hit
     rw [hd] at HG2
     have PX : Hid (p l[j] = false) := by rw [Hid, HX.out]; exact hd
     clear hit hd
     have him : i * 1 + 1 <= j * 1 := by omega
     go_wp2_with fail
     refine (HG2.out _ TW.out).mono ?_
     rintro e w3 ⟨rfl, T3⟩
     have TT3 : Hid (Tch No wr w3) := T3
     have H3 := Lib.hid (blk_tch TT3.out HG.out (fun h => h))
     obtain ⟨o0, ho0⟩ : ∃ o, w3.cell? ⟨g0, i, none⟩ = some o := ⟨cur[i]'(by omega), by rw [blk_cell H3.out]; exact Array.getElem?_eq_getElem _⟩
     have hf0 : w3.frozen? ⟨g0, i, none⟩ = false := blk_free H3.out _
     clear T3
     go_wp2_with fail
     go_roundg (l.length - (j + 1))
     case measure => omega
     case rel =>
      obtain ⟨cur', q1, q2, q3⟩ := blk_sets [.string x0] i w3 cur H3.out (by simp only [List.length_cons, List.length_nil]; omega)
      refine ⟨i + 1, j + 1, cur', by go_num, by go_num, by omega, by omega, Nat.le_refl _, D.out.keep he hlt PX.out q2 (fun t => ?_), q1, ((TW.out.trans0 TT3.out).fresh (F := fun k => k = g0) (Tch.setCells (F := fun k => k = g0) (b := g0) rfl [.string x0] i w3) (fun k h => by rw [h]; exact Q.out.1))⟩
      rw [q3 t, HX.out, HVS.out, Nat.mul_one]
      rfl
   ·obtain rfl : j = l.length := by omega
    have hii : i < l.length := by omega
    have hic : i < c := by omega
    have hltz : ¬ ((l.length : Int) < (l.length : Int)) := by omega
    obtain ⟨zs, hzs⟩ : ∃ zs, (Builtin.zeroCells (Value.string ⟨#[]⟩).cells (l.length - i)).toList = zs := ⟨_, rfl⟩
    have hzl : zs.length = (l.length - i) * 1 := by rw [<- hzs, zc_len]; rfl
    have hz1 : Ones zs := by
     rw [<- hzs]
     exact zc_one _ _ (fun q hq => by
      have hq' : q < 1 := hq
      have : q = 0 := by omega
      rcases this with rfl <;> rfl) (by decide)
    have hfit : i * 1 + zs.length <= cur.size := by
     have : i * 1 + (l.length - i) * 1 <= c * 1 := by rw [<- Nat.add_mul]; exact Nat.mul_le_mul_right _ (by omega)
     omega
    have hcl : ∀ ty, (Builtin.clear_ #[68] ty #[.slice (some ⟨g0, i, none⟩) (l.length - i) (c - i)]).run Tryz.prog wr = .ok (.tuple #[]) (wr.setCells g0 i zs) := fun ty =>
     run_clear_many wr _ 9 ty (Value.string ⟨#[]⟩) eltStr.und (fun w => by kernel_rfl) g0 i _ _ (by omega) zs hzs hz1 (fun q hq => by rw [blk_cell HG.out, Array.getElem?_eq_getElem (by omega)]; rfl) (fun q _ => blk_free HG.out _)
    have ZZ : Hid (i * 1 + zs.length <= cur.size) := hfit
    clear hzs hzl hz1 hfit hsz
    go_wp2
    go_ret
    obtain ⟨cur', q1, q2, q3⟩ := blk_sets zs i wr cur HG.out (by have := ZZ.out; omega)
    exact ⟨_, rfl, ⟨D.out.done he hc1 hc2 q1 q2 (fun t ht => by rw [q3 t, if_neg (by omega)]), fun b hb => by
     have hb' : g0 = b := by simpa [Value.ownBlock] using hb
     have hq := Q.out.1
     omega⟩, TW.out.fresh (F := fun k => k = g0) (Tch.setCells (F := fun k => k = g0) (b := g0) rfl zs i wr) (fun k h => by rw [h]; exact Q.out.1)⟩
end
section
open Go.RowKit Go.Maps
def othersM (s : StM) (qt : Txt) (more : List PutM) : List Txt := keptM (fun x => decide (x = qt)) (namesM s more)
def roomM (s : StM) (qt : Txt) (more : List PutM) : Bool :=
 if (othersM s qt more).length < (namesM s more).length then decide ((namesM s more).length - (othersM s qt more).length < 12) else decide ((queuesM s more).length < 6)
theorem flat_str (l : List Txt) : l.flatMap (fun q : Txt => [strV q]) = l.map strV := by
 induction l with
 | nil => rfl
 | cons a r ih => rw [List.flatMap_cons, ih]; rfl
theorem room1_any (x qt : Txt) (qb : Nat) (w : World) (hc : w.cell? ⟨qb, 0, none⟩ = some (strV qt)) :
  Calls Tryz.prog 99 #[.string ⟨x.toArray⟩, .pointer (some ⟨qb, 0, none⟩)] w fun e w' => e = .returned (.bool (decide (x = qt))) /\ Tch No w w' := by
 have hse := str_eq x qt
 simp only [strV] at hc
 obtain ⟨q1, hq1⟩ : ∃ x' : ByteArray, (⟨x.toArray⟩ : ByteArray) = x' := ⟨_, rfl⟩
 obtain ⟨qs, hqs⟩ : ∃ x : ByteArray, (⟨qt.toArray⟩ : ByteArray) = x := ⟨_, rfl⟩
 rw [hqs] at hc
 rw [hq1, hqs] at hse
 rw [hq1]
 obtain ⟨dd, hdd⟩ : ∃ b, decide (x = qt) = b := ⟨_, rfl⟩
 rw [hdd] at hse ⊢
 clear hq1 hqs hdd
 go_enter Tryz.func99, Tryz.ntmps99
 go_wp2_with fail
 go_ret
 exact ⟨rfl, Tch.refl _ _⟩
theorem oroom_any (s : StM) (qt : Txt) (more : List PutM) (hn : s.ms.length <= 100000) (hnw : s.waits.length <= 100000) (hmo : (moreM more s.waits).length <= 100000) (v vp : Value) (w : World) (h : IsSt w v s) (hp : IsPuts w vp more) :
  Calls Tryz.prog 31 #[v, strV qt, vp] w fun e w' => e = .returned (.bool (roomM s qt more)) /\ Tch No w w' := by
 have HLN : Hid ((namesM s more).length <= 1000000) := by
  unfold namesM
  rw [Hid, List.length_append, List.length_map, List.length_map]; omega
 have HNA := Lib.hid (fun W (t : Tch No w W) => onames_any s more hn hnw hmo v vp W (h.keep t) (hp.keep t))
 have HQU := Lib.hid (fun W (t : Tch No w W) => oqueues_any s more hn hnw hmo v vp W (h.keep t) (hp.keep t))
 obtain ⟨am, cm, aw, cw, ae, ce, ao, co, an, cn, hv⟩ := h.vals
 subst hv
 obtain ⟨pa, pc, rfl, _, _⟩ := CellsAt.shape hp
 unfold roomM othersM
 obtain ⟨l, hl⟩ : ∃ l, namesM s more = l := ⟨_, rfl⟩
 obtain ⟨lq, hlq⟩ : ∃ l, queuesM s more = l := ⟨_, rfl⟩
 rw [hl] at HNA HLN
 rw [hlq] at HQU
 rw [hl, hlq]
 obtain ⟨qs, hqs⟩ : ∃ x : ByteArray, (⟨qt.toArray⟩ : ByteArray) = x := ⟨_, rfl⟩
 have HQS : Hid (strV qt = .string qs) := by rw [Hid, strV, hqs]
 rw [HQS.out]
 have HCL := Lib.hid (fun v W (h : OwnN w 9 1 l.length (l.map strV) v W) => clone_str v l.length _ W (CellsAt.ofRow h.1) (ones_str l) (by have := HLN.out; omega))
 obtain ⟨qb, hqb⟩ : ∃ x, w.heap.size + 1 = x := ⟨_, rfl⟩
 have HDEL : Hid (∀ w0 : World, w0.cell? ⟨qb, 0, none⟩ = some (.string qs) -> ∀ v W, Tch No w0 W -> OwnN w0 9 1 l.length (l.map strV) v W -> Calls Tryz.prog 97 #[v, .func (.func 99) #[] #[.pointer (some ⟨qb, 0, none⟩)]] W fun e w' => ∃ v', e = .returned v' /\ OwnN w0 9 1 (keptM (fun x => decide (x = qt)) l).length ((keptM (fun x => decide (x = qt)) l).map strV) v' w' /\ Tch No w0 w') := fun w0 hc v W tW hW => by
  have := del_str w0 _ #[.pointer (some ⟨qb, 0, none⟩)] (enters_of Tryz.func99 rfl rfl) (fun x => decide (x = qt)) l (fun x hx W' t' => room1_any x qt qb W' (by rw [HQS.out]; exact t'.cell hc (fun h => h))) v W tW (by rw [flat_str]; exact hW) (by have := HLN.out; omega)
  rwa [flat_str] at this
 obtain ⟨lk, hlk⟩ : ∃ x, keptM (fun x => decide (x = qt)) l = x := ⟨_, rfl⟩
 have HLK : Hid (lk.length <= l.length) := by rw [<- hlk]; exact keptM_le _ _
 rw [hlk] at HDEL
 rw [hlk]
 obtain ⟨rr, hrr⟩ : ∃ b, (if lk.length < l.length then decide (l.length - lk.length < 12) else decide (lq.length < 6)) = b := ⟨_, rfl⟩
 have HRR := Lib.hid hrr
 rw [hrr]
 obtain ⟨brk, hb0⟩ : ∃ x, s.broker = x := ⟨_, rfl⟩
 obtain ⟨nid, hb1⟩ : ∃ x, s.nid = x := ⟨_, rfl⟩
 obtain ⟨nseq, hb2⟩ : ∃ x, s.nseq = x := ⟨_, rfl⟩
 obtain ⟨tx, hb3⟩ : ∃ x, s.tx = x := ⟨_, rfl⟩
 obtain ⟨n1, hb4⟩ : ∃ x, s.ms.length = x := ⟨_, rfl⟩
 obtain ⟨n2, hb5⟩ : ∃ x, s.waits.length = x := ⟨_, rfl⟩
 obtain ⟨n3, hb6⟩ : ∃ x, s.ends.length = x := ⟨_, rfl⟩
 obtain ⟨n4, hb7⟩ : ∃ x, s.opens.length = x := ⟨_, rfl⟩
 obtain ⟨n5, hb8⟩ : ∃ x, s.noes.length = x := ⟨_, rfl⟩
 rw [hb0, hb1, hb2, hb3, hb4, hb5, hb6, hb7, hb8] at HNA HQU
 rw [hb0, hb1, hb2, hb3, hb4, hb5, hb6, hb7, hb8]
 obtain ⟨bs, hbs⟩ : ∃ x, w.heap.size = x := ⟨_, rfl⟩
 obtain ⟨w1, hw1⟩ : ∃ x, (w.alloc (.cells #[.int .i64 brk, .int .i64 nid, .int .i64 nseq, .int .i64 tx, .slice am n1 cm, .slice aw n2 cw, .slice ae n3 ce, .slice ao n4 co, .slice an n5 cn] 27)).alloc (.cells #[.string qs] 9) = x := ⟨_, rfl⟩
 rw [hbs] at hqb
 have HB1 : Hid (w1.heap[bs]? = some (.cells #[.int .i64 brk, .int .i64 nid, .int .i64 nseq, .int .i64 tx, .slice am n1 cm, .slice aw n2 cw, .slice ae n3 ce, .slice ao n4 co, .slice an n5 cn] 27 (0, 0))) := by rw [Hid, <- hw1, <- hbs]; exact blk_tch (Tch.alloc _ _) (blk_new w _) (fun h => h)
 have HQ1 : Hid (w1.heap[qb]? = some (.cells #[.string qs] 9 (0, 0))) := by
  have e : (w.alloc (.cells #[.int .i64 brk, .int .i64 nid, .int .i64 nseq, .int .i64 tx, .slice am n1 cm, .slice aw n2 cw, .slice ae n3 ce, .slice ao n4 co, .slice an n5 cn] 27)).heap.size = qb := by rw [<- hqb, <- hbs]; simp
  rw [Hid, <- hw1, <- e]; exact blk_new _ _
 have TW1 : Hid (Tch No w w1) := by rw [Hid, <- hw1]; exact (Tch.alloc _ _).trans0 (Tch.alloc _ _)
 obtain ⟨b0, b1, b2, b3, b4, b5, b6, b7, b8⟩ := kc9 HB1.out
 clear h hp hl hlq hqs hlk hrr hn hnw hmo hb0 hb1 hb2 hb3 hb4 hb5 hb6 hb7 hb8
 go_enter Tryz.func31, Tryz.ntmps31
 go_wp2_with fail
 clear hbs hw1 hqb
 refine (HNA.out w1 TW1.out).mono ?_
 rintro e w2 ⟨v2, rfl, O2, T2⟩
 have TT2 := Lib.hid T2
 have OO2 : Hid (OwnN w 9 1 l.length (l.map strV) v2 w2) := ⟨O2.1, fun b hb => Nat.le_trans TW1.out.size (O2.2 b hb)⟩
 obtain ⟨a2, n2', c2, rfl, hn2⟩ := own_shape' O2.1
 have hn2' : n2' = l.length := hn2
 subst hn2'
 clear O2 T2 hn2
 go_wp2_with fail
 refine (HCL.out _ w2 OO2.out).mono ?_
 rintro e w3 ⟨a3, c3, rfl, O3, T3, _⟩
 have OO3 := Lib.hid O3
 have TT3 := Lib.hid T3
 clear O3 T3
 go_wp2_with fail
 refine (HDEL.out w2 ((blk_cell (blk_tch TT2.out HQ1.out (fun h => h)) 0).trans rfl) _ w3 TT3.out OO3.out).mono ?_
 rintro e w4 ⟨v4, rfl, O4, T4⟩
 obtain ⟨a4, n4', c4, rfl, hn4⟩ := own_shape' O4.1
 have hn4' : n4' = lk.length := hn4
 subst hn4'
 have TT4 : Hid (Tch No w1 w4) := TT2.out.trans0 T4
 clear O4 T4 hn4
 obtain ⟨nl, hnl⟩ : ∃ x, l.length = x := ⟨_, rfl⟩
 obtain ⟨nk, hnk⟩ : ∃ x, lk.length = x := ⟨_, rfl⟩
 have HNL : Hid (l.length = nl /\ lk.length = nk) := ⟨hnl, hnk⟩
 have hle : nk <= nl := by rw [<- hnl, <- hnk]; exact HLK.out
 have hb9 : nl <= 1000000 := by rw [<- hnl]; exact HLN.out
 rw [hnl, hnk]
 clear hnl hnk b0 b1 b2 b3 b4 b5 b6 b7 b8
 have HB4 := Lib.hid (blk_tch TT4.out HB1.out (fun h => h))
 obtain ⟨d0, d1, d2, d3, d4, d5, d6, d7, d8⟩ := kc9 HB4.out
 by_cases hlt : nk < nl
 ·have hz : (0 : Int) < (nl : Int) - (nk : Int) := by omega
  have HR : Hid (rr = decide ((nl : Int) - (nk : Int) < 12)) := by
   rw [Hid, <- HRR.out, HNL.out.1, HNL.out.2, if_pos hlt]
   by_cases h12 : nl - nk < 12
   ·rw [decide_eq_true h12, decide_eq_true (by omega)]
   ·rw [decide_eq_false h12, decide_eq_false (by omega)]
  go_wp2_with fail
  go_ret
  exact ⟨ret_b HR.out.symm, TW1.out.trans0 TT4.out⟩
 ·have hz : ¬ (0 : Int) < (nl : Int) - (nk : Int) := by omega
  have HR : Hid (rr = decide ((lq.length : Int) < 6)) := by
   rw [Hid, <- HRR.out, HNL.out.1, HNL.out.2, if_neg hlt]
   by_cases h12 : lq.length < 6
   ·rw [decide_eq_true h12, decide_eq_true (by omega)]
   ·rw [decide_eq_false h12, decide_eq_false (by omega)]
  go_wp2_with fail
  refine (HQU.out w4 (TW1.out.trans0 TT4.out)).mono ?_
  rintro e w5 ⟨v5, rfl, O5, T5⟩
  obtain ⟨a5, n5', c5, rfl, hn5⟩ := own_shape' O5.1
  have hn5' : n5' = lq.length := hn5
  subst hn5'
  have TT5 := Lib.hid T5
  clear O5 T5 hn5
  go_wp2_with fail
  go_ret
  exact ⟨ret_b HR.out.symm, (TW1.out.trans0 TT4.out).trans0 TT5.out⟩
end
end Go.Proofs.YtfedhcnmdmhppaaGreat
