/- Part 14 of what the proof of StoreIds rests on. No condition. -/
import Derived.Test.YtafndmnbnmlklaaGreatPStoreIds10
import Derived.Test.YtafndmnbnmlklaaGreatPStoreIds13
namespace Go.Proofs.YtafndmnbnmlklaaGreat
set_option maxRecDepth 100000
set_option maxHeartbeats 60000000
set_option linter.unusedVariables false
set_option linter.unusedSimpArgs false
set_option linter.unusedSectionVars false
section
open Go.RowKit Go.Maps
theorem leftM_snoc (l : List MsgM) (m : MsgM) (tid : Int) (yes : Bool) : leftM (l ++ [m]) tid yes = leftM l tid yes ++ leftM [m] tid yes := by
 simp [leftM, List.filterMap_append]
theorem putsM_snoc (b : Int) : ∀ (l : List PutM) (i j : Int) (p : PutM), putsM b i j (l ++ [p]) = putsM b i j l ++ [⟨makeM b (i + l.length), p.q, p.b, j + l.length, 0, 0⟩]
 | [], i, j, p => by simp [putsM]
 | a :: r, i, j, p => by
  have e1 : i + 1 + (r.length : Int) = i + ((r.length : Int) + 1) := by omega
  have e2 : j + 1 + (r.length : Int) = j + ((r.length : Int) + 1) := by omega
  simp [putsM, putsM_snoc b r, e1, e2]
theorem leftM_le (l : List MsgM) (tid : Int) (yes : Bool) : (leftM l tid yes).length <= l.length := List.length_filterMap_le ..
theorem take_snoc {α : Type} {l : List α} {k : Nat} (h : k < l.length) : l.take (k + 1) = l.take k ++ [l[k]] := by simp
theorem cells_lit2 {w : World} {n : Nat} (hn : w.heap.size = n) (cs : Array Value) (e : TypeId) (size : Nat) (l : List Value) (hl : l = cs.toList) (hs : cs.size = size) : CellsAt (w.alloc (.cells cs e)) (.slice (some ⟨n, 0, none⟩) 1 1) 1 size l := by
 subst hn; exact cells_lit w cs e size l hl hs _
theorem ones_msg6 (a : Int) (b c : ByteArray) (d e f : Int) : Ones [.int .i64 a, .string b, .string c, .int .i64 d, .int .i64 e, .int .i64 f] := fun u hu => by
 simp only [List.mem_cons, List.not_mem_nil, or_false] at hu
 rcases hu with rfl | rfl | rfl | rfl | rfl | rfl <;> rfl
section
variable {ρ : Operand -> Value} {o : Oper}
theorem y_bdMsg4 (x0 x1 x2 x3 : Operand) {v0 v1 v2 v3 : Value} (ho : o.op = .build 50 #[(0, x0), (1, x1), (2, x2), (3, x3)]) (h0 : ρ x0 = v0) (h1 : ρ x1 = v1) (h2 : ρ x2 = v2) (h3 : ρ x3 = v3) (k0 : v0.oneCell' = true) (k1 : v1.oneCell' = true) (k2 : v2.oneCell' = true) (k3 : v3.oneCell' = true) (W : World) : Runs Tryz.prog ρ o W (.agg #[v0, v1, v2, v3, .int .i64 0, .int .i64 0]) W := by
 constructor
 have c0 := one_cells k0; have c1 := one_cells k1; have c2 := one_cells k2; have c3 := one_cells k3
 simp only [Value.cells] at c0 c1 c2 c3
 unfold execOp
 simp only [ho, h0, h1, h2, h3]
 go_simp
end
theorem set9e {W : World} {b : Nat} {T : TypeId} {c0 c1 c2 c3 c4 c5 c6 c7 c8 : Value} (v0 v1 v2 v3 v4 v5 v6 v7 v8 : Value) (h : W.heap[b]? = some (.cells #[c0, c1, c2, c3, c4, c5, c6, c7, c8] T (0, 0))) :
  (((((((((W.setCell ⟨b, 0, none⟩ v0).setCell ⟨b, 1, none⟩ v1).setCell ⟨b, 2, none⟩ v2).setCell ⟨b, 3, none⟩ v3).setCell ⟨b, 4, none⟩ v4).setCell ⟨b, 5, none⟩ v5).setCell ⟨b, 6, none⟩ v6).setCell ⟨b, 7, none⟩ v7).setCell ⟨b, 8, none⟩ v8).heap[b]? = some (.cells #[v0, v1, v2, v3, v4, v5, v6, v7, v8] T (0, 0)) /\ Tch (fun k => k = b) W (((((((((W.setCell ⟨b, 0, none⟩ v0).setCell ⟨b, 1, none⟩ v1).setCell ⟨b, 2, none⟩ v2).setCell ⟨b, 3, none⟩ v3).setCell ⟨b, 4, none⟩ v4).setCell ⟨b, 5, none⟩ v5).setCell ⟨b, 6, none⟩ v6).setCell ⟨b, 7, none⟩ v7).setCell ⟨b, 8, none⟩ v8) := by
 have h0 := blk_set h 0 v0
 have h1 := blk_set h0 1 v1
 have h2 := blk_set h1 2 v2
 have h3 := blk_set h2 3 v3
 have h4 := blk_set h3 4 v4
 have h5 := blk_set h4 5 v5
 have h6 := blk_set h5 6 v6
 have h7 := blk_set h6 7 v7
 have h8 := blk_set h7 8 v8
 have t0 : Tch (fun k => k = b) W (W.setCell ⟨b, 0, none⟩ v0) := Tch.setCell W ⟨b, 0, none⟩ v0 (fun _ => rfl)
 have t1 : Tch (fun k => k = b) W ((W.setCell ⟨b, 0, none⟩ v0).setCell ⟨b, 1, none⟩ v1) := t0.trans (Tch.setCell (F := fun k => k = b) _ ⟨b, 1, none⟩ v1 (fun _ => rfl)) (fun _ _ h => h)
 have t2 : Tch (fun k => k = b) W (((W.setCell ⟨b, 0, none⟩ v0).setCell ⟨b, 1, none⟩ v1).setCell ⟨b, 2, none⟩ v2) := t1.trans (Tch.setCell (F := fun k => k = b) _ ⟨b, 2, none⟩ v2 (fun _ => rfl)) (fun _ _ h => h)
 have t3 : Tch (fun k => k = b) W ((((W.setCell ⟨b, 0, none⟩ v0).setCell ⟨b, 1, none⟩ v1).setCell ⟨b, 2, none⟩ v2).setCell ⟨b, 3, none⟩ v3) := t2.trans (Tch.setCell (F := fun k => k = b) _ ⟨b, 3, none⟩ v3 (fun _ => rfl)) (fun _ _ h => h)
 have t4 : Tch (fun k => k = b) W (((((W.setCell ⟨b, 0, none⟩ v0).setCell ⟨b, 1, none⟩ v1).setCell ⟨b, 2, none⟩ v2).setCell ⟨b, 3, none⟩ v3).setCell ⟨b, 4, none⟩ v4) := t3.trans (Tch.setCell (F := fun k => k = b) _ ⟨b, 4, none⟩ v4 (fun _ => rfl)) (fun _ _ h => h)
 have t5 : Tch (fun k => k = b) W ((((((W.setCell ⟨b, 0, none⟩ v0).setCell ⟨b, 1, none⟩ v1).setCell ⟨b, 2, none⟩ v2).setCell ⟨b, 3, none⟩ v3).setCell ⟨b, 4, none⟩ v4).setCell ⟨b, 5, none⟩ v5) := t4.trans (Tch.setCell (F := fun k => k = b) _ ⟨b, 5, none⟩ v5 (fun _ => rfl)) (fun _ _ h => h)
 have t6 : Tch (fun k => k = b) W (((((((W.setCell ⟨b, 0, none⟩ v0).setCell ⟨b, 1, none⟩ v1).setCell ⟨b, 2, none⟩ v2).setCell ⟨b, 3, none⟩ v3).setCell ⟨b, 4, none⟩ v4).setCell ⟨b, 5, none⟩ v5).setCell ⟨b, 6, none⟩ v6) := t5.trans (Tch.setCell (F := fun k => k = b) _ ⟨b, 6, none⟩ v6 (fun _ => rfl)) (fun _ _ h => h)
 have t7 : Tch (fun k => k = b) W ((((((((W.setCell ⟨b, 0, none⟩ v0).setCell ⟨b, 1, none⟩ v1).setCell ⟨b, 2, none⟩ v2).setCell ⟨b, 3, none⟩ v3).setCell ⟨b, 4, none⟩ v4).setCell ⟨b, 5, none⟩ v5).setCell ⟨b, 6, none⟩ v6).setCell ⟨b, 7, none⟩ v7) := t6.trans (Tch.setCell (F := fun k => k = b) _ ⟨b, 7, none⟩ v7 (fun _ => rfl)) (fun _ _ h => h)
 have t8 : Tch (fun k => k = b) W (((((((((W.setCell ⟨b, 0, none⟩ v0).setCell ⟨b, 1, none⟩ v1).setCell ⟨b, 2, none⟩ v2).setCell ⟨b, 3, none⟩ v3).setCell ⟨b, 4, none⟩ v4).setCell ⟨b, 5, none⟩ v5).setCell ⟨b, 6, none⟩ v6).setCell ⟨b, 7, none⟩ v7).setCell ⟨b, 8, none⟩ v8) := t7.trans (Tch.setCell (F := fun k => k = b) _ ⟨b, 8, none⟩ v8 (fun _ => rfl)) (fun _ _ h => h)
 exact ⟨by simpa using h8, t8⟩
theorem kx9 {W : World} {b : Nat} {T : TypeId} {c0 c1 c2 c3 c4 c5 c6 c7 c8 : Value} (v0 v1 v2 v3 v4 v5 v6 v7 v8 : Value) (h : W.heap[b]? = some (.cells #[c0, c1, c2, c3, c4, c5, c6, c7, c8] T (0, 0))) : ∃ X, ((((((((W.setCell ⟨b, 0, none⟩ v0).setCell ⟨b, 1, none⟩ v1).setCell ⟨b, 2, none⟩ v2).setCell ⟨b, 3, none⟩ v3).setCell ⟨b, 4, none⟩ v4).setCell ⟨b, 5, none⟩ v5).setCell ⟨b, 6, none⟩ v6).setCell ⟨b, 7, none⟩ v7).setCell ⟨b, 8, none⟩ v8 = X /\ Hid (X.heap[b]? = some (.cells #[v0, v1, v2, v3, v4, v5, v6, v7, v8] T (0, 0))) /\ Hid (Tch (fun k => k = b) W X) := ⟨_, rfl, set9e v0 v1 v2 v3 v4 v5 v6 v7 v8 h⟩
theorem arr9 {cur : Array Value} {c0 c1 c2 c3 c4 c5 c6 c7 c8 : Value} (hs : cur.size = 9) (h : ∀ i, i < 9 -> cur[i]? = (#[c0, c1, c2, c3, c4, c5, c6, c7, c8] : Array Value)[i]?) : cur = #[c0, c1, c2, c3, c4, c5, c6, c7, c8] := by
 apply Array.ext_getElem?
 intro i
 rcases Nat.lt_or_ge i 9 with h1 | h1
 ·exact h i h1
 ·rw [Array.getElem?_eq_none (by omega), Array.getElem?_eq_none (by simpa using h1)]
theorem putsM_len (b : Int) : ∀ (l : List PutM) (i j : Int), (putsM b i j l).length = l.length
 | [], _, _ => rfl
 | p :: r, i, j => by simp [putsM, putsM_len b r]
structure EndOk (s : StM) (tid : Int) (puts : List PutM) : Prop where
 rise : strictB (s.ends.map (·.tid)) = true
 nms : s.ms.length <= 100000
 nw : s.waits.length <= 100000
 ne : s.ends.length <= 100000
 no : s.opens.length <= 100000
 np : puts.length <= 100000
 brk : I64 s.broker
 nid : 0 <= s.nid /\ s.nid <= 4611686018427387904
 nseq : 0 <= s.nseq /\ s.nseq <= 4611686018427387904
 fresh : ∀ t, t = tid -> hasP (·.tid) s.ends t = false
 cnt : ∀ m ∈ s.ms, 0 <= m.cnt /\ m.cnt <= 4611686018427387904
theorem send_any (G : Nat -> Prop) (s : StM) (tid : Int) (yes : Bool) (puts : List PutM) (ok : EndOk s tid puts) (v vp : Value) (WE : World) (h0 : StW (Tch G WE) v s) (hp0 : ∀ W, Tch G WE W -> IsPuts W vp puts) :
  Calls Tryz.prog 174 #[v, .int .i64 tid, .bool yes, vp] WE fun e w' => ∃ v', e = .returned v' /\ StW (Tch (fun k => G k /\ k < WE.heap.size) w') v' (endM s tid yes puts) /\ (∃ x0 x1 x2 x3 x4 x5 x6 x7 y0 y1 y2 y3 y4 y5 y6 y7 z, v = .agg #[y0, y1, y2, y3, y4, y5, y6, y7, z] /\ v' = .agg #[x0, x1, x2, x3, x4, x5, x6, x7, z]) /\ Tch No WE w' := by
 obtain ⟨w, hwe⟩ : ∃ x, x = WE := ⟨_, rfl⟩
 have te : Tch No w WE := by rw [hwe]; exact Tch.refl _ _
 obtain ⟨vm, vw, ve, vo, vn, prb, pro, prn, rfl, hmb, hmo, hmn, hst⟩ := h0
 have g0 := hst w (by rw [hwe]; exact Tch.refl _ _)
 have hm := g0.ms
 have hw := brs_pairs.2 ⟨prb, hmb, g0.cb, g0.ib⟩
 have he := g0.en
 have ho := pends_pairs.2 ⟨pro, hmo, g0.co, g0.io⟩
 have hno := pends_pairs.2 ⟨prn, hmn, g0.cn, g0.inn⟩
 have hp := hp0 w (by rw [hwe]; exact Tch.refl _ _)
 have HSZW : Hid (w.heap.size = WE.heap.size) := by rw [Hid, hwe]
 clear hwe hp0
 obtain ⟨ma, mc, rfl, _, _⟩ := CellsAt.shape hm
 obtain ⟨wa, wk, rfl, _, _⟩ := hw.shape
 obtain ⟨ea, ec, rfl, _, _⟩ := CellsAt.shape he
 obtain ⟨oa, oc, rfl, _, _⟩ := ho.shape
 obtain ⟨na, nc, rfl, _, _⟩ := hno.shape
 obtain ⟨pa, pc, rfl, _, _⟩ := CellsAt.shape hp
 have OK := Lib.hid ok
 have HM := Lib.hid hm
 have HW := Lib.hid hw
 have HE := Lib.hid he
 have HO := Lib.hid ho
 have HNO := Lib.hid hno
 have HP := Lib.hid hp
 have HST := Lib.hid hst
 have HG0 := Lib.hid g0
 have HMB0 := Lib.hid hmb
 have HMO0 := Lib.hid hmo
 have HMN0 := Lib.hid hmn
 clear hst g0 hmb hmo hmn
 obtain ⟨brk, nid, nseq, tx, ms, waits, ends, opens, noes⟩ := s
 simp only at HM HW HE HO HNO HMB0 HMO0 HMN0 ⊢
 clear hm hw he ho hno hp ok
 obtain ⟨nm, hnm⟩ : ∃ n, ms.length = n := ⟨_, rfl⟩
 have HNM := Lib.hid hnm
 rw [hnm] at HM ⊢
 obtain ⟨np, hnp⟩ : ∃ n, puts.length = n := ⟨_, rfl⟩
 have HNP := Lib.hid hnp
 rw [hnp] at HP ⊢
 have hnm2 : nm <= 100000 := by rw [<- hnm]; exact OK.out.nms
 have hnp2 : np <= 100000 := by rw [<- hnp]; exact OK.out.np
 clear hnm hnp
 have TE := Lib.hid te
 obtain ⟨bs, hbs⟩ : ∃ x, WE.heap.size = x := ⟨_, rfl⟩
 obtain ⟨bt, hbt⟩ : ∃ x, (WE.alloc (.cells #[.int .i64 brk, .int .i64 nid, .int .i64 nseq, .int .i64 tx, .slice ma nm mc, .slice wa waits.length wk, .slice ea ends.length ec, .slice oa opens.length oc, .slice na noes.length nc] 29)).heap.size = x := ⟨_, rfl⟩
 obtain ⟨w1, hw1⟩ : ∃ x, ((WE.alloc (.cells #[.int .i64 brk, .int .i64 nid, .int .i64 nseq, .int .i64 tx, .slice ma nm mc, .slice wa waits.length wk, .slice ea ends.length ec, .slice oa opens.length oc, .slice na noes.length nc] 29)).alloc (.cells #[.int .i64 tid] 2)).alloc (.cells #[.int .i64 0, .int .i64 0, .int .i64 0, .int .i64 0, .slice none 0 0, .slice none 0 0, .slice none 0 0, .slice none 0 0, .slice none 0 0] 29) = x := ⟨_, rfl⟩
 obtain ⟨br, hbr⟩ : ∃ x, x = bt + 1 := ⟨_, rfl⟩
 have HBS : Hid (w1.heap[bs]? = some (.cells #[.int .i64 brk, .int .i64 nid, .int .i64 nseq, .int .i64 tx, .slice ma nm mc, .slice wa waits.length wk, .slice ea ends.length ec, .slice oa opens.length oc, .slice na noes.length nc] 29 (0, 0))) := by
  rw [Hid, <- hw1, <- hbs]
  exact blk_tch ((Tch.alloc _ _).trans0 (Tch.alloc _ _)) (blk_new WE _) (fun h => h)
 have HBT : Hid (w1.heap[bt]? = some (.cells #[.int .i64 tid] 2 (0, 0))) := by
  rw [Hid, <- hw1, <- hbt]
  exact blk_tch (Tch.alloc _ _) (blk_new _ _) (fun h => h)
 have HBR : Hid (w1.heap[br]? = some (.cells #[.int .i64 0, .int .i64 0, .int .i64 0, .int .i64 0, .slice none 0 0, .slice none 0 0, .slice none 0 0, .slice none 0 0, .slice none 0 0] 29 (0, 0))) := by
  rw [Hid, <- hw1, hbr, <- hbt]
  have := blk_new ((WE.alloc (.cells #[.int .i64 brk, .int .i64 nid, .int .i64 nseq, .int .i64 tx, .slice ma nm mc, .slice wa waits.length wk, .slice ea ends.length ec, .slice oa opens.length oc, .slice na noes.length nc] 29)).alloc (.cells #[.int .i64 tid] 2)) (.cells #[.int .i64 0, .int .i64 0, .int .i64 0, .int .i64 0, .slice none 0 0, .slice none 0 0, .slice none 0 0, .slice none 0 0, .slice none 0 0] 29)
  have e : ((WE.alloc (.cells #[.int .i64 brk, .int .i64 nid, .int .i64 nseq, .int .i64 tx, .slice ma nm mc, .slice wa waits.length wk, .slice ea ends.length ec, .slice oa opens.length oc, .slice na noes.length nc] 29)).alloc (.cells #[.int .i64 tid] 2)).heap.size = (WE.alloc (.cells #[.int .i64 brk, .int .i64 nid, .int .i64 nseq, .int .i64 tx, .slice ma nm mc, .slice wa waits.length wk, .slice ea ends.length ec, .slice oa opens.length oc, .slice na noes.length nc] 29)).heap.size + 1 := by simp
  rwa [e] at this
 have TV1 : Hid (Tch No WE w1) := by rw [Hid, <- hw1]; exact ((Tch.alloc _ _).trans0 (Tch.alloc _ _)).trans0 (Tch.alloc _ _)
 have TW1 : Hid (Tch No w w1) := te.trans0 TV1.out
 have HLT : Hid (w.heap.size <= bs /\ WE.heap.size = bs /\ bt = bs + 1 /\ br = bs + 2 /\ w1.heap.size = bs + 3) := by
  have e1 : bt = bs + 1 := by rw [<- hbt, <- hbs]; simp
  refine ⟨by rw [<- hbs]; exact te.size, hbs, e1, by omega, ?_⟩
  rw [<- hw1, <- hbs]; simp
 clear hbr
 have b4 : w1.cell? ⟨bs, 4, none⟩ = some (.slice ma nm mc) := by rw [blk_cell HBS.out]; rfl
 go_enter Tryz.func174, Tryz.ntmps174
 go_wp2_with fail
 clear hbs hbt hw1 b4 te
 go_loopg [9, 19] nm (fun kx s9 s19 wr => ∃ (k : Nat), s19 = .int .i64 k /\ k <= nm /\ nm - k <= kx /\ Hid (OwnN w1 50 6 (leftM (ms.take k) tid yes).length ((leftM (ms.take k) tid yes).flatMap encMsg) s9 wr) /\ Hid (Tch No w1 wr))
 case atStart => exact ⟨0, rfl, Nat.zero_le _, by omega, ⟨own_nil _ _ _, fun b hb => by simp [Value.ownBlock] at hb⟩, Tch.refl _ _⟩
 case round =>
  obtain ⟨k, rfl, hk, hgk, HOW, TW⟩ := hrel
  have t0 : wr.cell? ⟨bt, 0, none⟩ = some (.int .i64 tid) := TW.out.cell (by rw [blk_cell HBT.out]; rfl) (fun h => h)
  have t0c := cal t0
  by_cases hlt : k < nm
  ·have hkl : k < ms.length := by rw [HNM.out]; exact hlt
   have hb : ∃ b o, ma = some ⟨b, o, none⟩ /\ wr.cell? ⟨b, o + k * 6, none⟩ = some (.int .i64 ms[k].id) /\ wr.cell? ⟨b, o + k * 6 + 1, none⟩ = some (strV ms[k].q) /\ wr.cell? ⟨b, o + k * 6 + 2, none⟩ = some (strV ms[k].b) /\ wr.cell? ⟨b, o + k * 6 + 3, none⟩ = some (.int .i64 ms[k].seq) /\ wr.cell? ⟨b, o + k * 6 + 4, none⟩ = some (.int .i64 ms[k].cnt) /\ wr.cell? ⟨b, o + k * 6 + 5, none⟩ = some (.int .i64 ms[k].who) := by
    have hm := HM.out
    rw [<- HNM.out] at hm
    obtain ⟨b, o, cap2, h1, h2⟩ := CellsAt.elem (enc := encMsg) (m := 6) (fun _ => rfl) hm hkl
    injection h1 with h1 _ _
    have tw : Tch No w wr := TW1.out.trans0 TW.out
    exact ⟨b, o, h1, tw.cell (h2 0 _ (by decide) rfl) (fun h => h), tw.cell (h2 1 _ (by decide) rfl) (fun h => h), tw.cell (h2 2 _ (by decide) rfl) (fun h => h), tw.cell (h2 3 _ (by decide) rfl) (fun h => h), tw.cell (h2 4 _ (by decide) rfl) (fun h => h), tw.cell (h2 5 _ (by decide) rfl) (fun h => h)⟩
   obtain ⟨b, o, rfl, e0, e1, e2, e3, e4, e5⟩ := hb
   have hcn := OK.out.cnt _ (List.getElem_mem hkl)
   have hcnt0 : 0 <= ms[k].cnt := hcn.1
   have hcnt1 : ms[k].cnt <= 4611686018427387904 := hcn.2
   clear hcn
   have HLE : Hid ((leftM (ms.take k) tid yes).length <= 100000) := by
    have := leftM_le (ms.take k) tid yes
    rw [List.length_take] at this
    rw [Hid]; omega
   have HSN : Hid (leftM (ms.take (k + 1)) tid yes = leftM (ms.take k) tid yes ++ leftM [ms[k]] tid yes) := by rw [Hid, take_snoc hkl, leftM_snoc]
   obtain ⟨m, hmk⟩ : ∃ m, ms[k] = m := ⟨_, rfl⟩
   rw [hmk] at HSN e0 e1 e2 e3 e4 e5 hcnt0 hcnt1
   clear hmk
   obtain ⟨x0, x1, x2, x3, x4, x5⟩ := m
   simp only [strV] at e0 e1 e2 e3 e4 e5 hcnt0 hcnt1
   obtain ⟨q1, hq1⟩ : ∃ q : ByteArray, (⟨x1.toArray⟩ : ByteArray) = q := ⟨_, rfl⟩
   obtain ⟨q2, hq2⟩ : ∃ q : ByteArray, (⟨x2.toArray⟩ : ByteArray) = q := ⟨_, rfl⟩
   have HQ : Hid ((⟨x1.toArray⟩ : ByteArray) = q1 /\ (⟨x2.toArray⟩ : ByteArray) = q2) := ⟨hq1, hq2⟩
   rw [hq1] at e1
   rw [hq2] at e2
   clear hq1 hq2
   have HAP : Hid (∀ W, Tch No wr W -> OwnN w1 50 6 (leftM (ms.take k) tid yes).length ((leftM (ms.take k) tid yes).flatMap encMsg) u9 W) := fun W t => stb_own _ _ _ t HOW.out
   by_cases hw : x5 = tid
   ·subst hw
    have hwf : (x5 == x5) = true := by simp
    cases yes with
    | true =>
     have HS : Hid (leftM (ms.take (k + 1)) x5 true = leftM (ms.take k) x5 true) := by
      rw [Hid, HSN.out]; simp [leftM]
     go_wp2_with fail
     go_roundg (nm - (k + 1))
     case measure => omega
     case rel => exact ⟨k + 1, by go_num, by omega, by omega, by rw [HS.out]; exact stb_own _ _ _ (Tch.alloc _ _) HOW.out, TW.out.trans0 (Tch.alloc _ _)⟩
    | false =>
     go_wp2_with (at_builtin; refine wpList_appE eltMsg _ rfl _ _ rfl _ _ _ rfl (HAP.out _ ((Tch.alloc _ _).trans0 (Tch.alloc _ _))).1 _ 1 _ rfl (cells_lit2 (by simp) _ _ 6 _ rfl rfl) (ones_msg6 _ _ _ _ _ _) (by have := HLE.out; omega) ?_; rintro a' n' cap' w' HA hn')
     have HS : Hid (leftM (ms.take (k + 1)) x5 false = leftM (ms.take k) x5 false ++ [⟨x0, x1, x2, x3, min (x4 + 1) 1000, 0⟩]) := by
      rw [Hid, HSN.out]; simp [leftM]
     go_roundg (nm - (k + 1))
     case measure => omega
     case rel =>
      have hO := HA.on (TW.out.trans0 ((Tch.alloc _ _).trans0 (Tch.alloc _ _))) HOW.out.2
      refine ⟨k + 1, by go_num, by omega, by omega, ⟨?_, hO.2⟩, hO.1⟩
      have hown := HA.own
      have hn2 : n' = (leftM (ms.take k) x5 false).length + 1 := hn'
      rw [HS.out, List.length_append, List.flatMap_append]
      subst hn2
      have hq1 := HQ.out.1
      have hq2 := HQ.out.2
      subst hq1; subst hq2
      exact hown
   ·have hwf : (x5 == tid) = false := beq_eq_false_iff_ne.2 hw
    go_wp2_with (at_builtin; refine wpList_appE eltMsg _ rfl _ _ rfl _ _ _ rfl (HAP.out _ ((Tch.alloc _ _).trans0 (Tch.alloc _ _))).1 _ 1 _ rfl (cells_lit2 (by simp) _ _ 6 _ rfl rfl) (ones_msg6 _ _ _ _ _ _) (by have := HLE.out; omega) ?_; rintro a' n' cap' w' HA hn')
    go_roundg (nm - (k + 1))
    case measure => omega
    case rel =>
     have HS : leftM (ms.take (k + 1)) tid yes = leftM (ms.take k) tid yes ++ [⟨x0, x1, x2, x3, x4, x5⟩] := by
      rw [HSN.out]; simp [leftM, hw]
     have hO := HA.on (TW.out.trans0 ((Tch.alloc _ _).trans0 (Tch.alloc _ _))) HOW.out.2
     refine ⟨k + 1, by go_num, by omega, by omega, ⟨?_, hO.2⟩, hO.1⟩
     have hown := HA.own
     have hn2 : n' = (leftM (ms.take k) tid yes).length + 1 := hn'
     rw [HS, List.length_append, List.flatMap_append]
     subst hn2
     have hq1 := HQ.out.1
     have hq2 := HQ.out.2
     subst hq1; subst hq2
     exact hown
  ·obtain rfl : k = nm := by omega
   have HALL : Hid (leftM (ms.take k) tid yes = leftM ms tid yes) := by rw [Hid, <- HNM.out, List.take_length]
   rw [HALL.out] at HOW
   obtain ⟨nL, hnL⟩ : ∃ n, (leftM ms tid yes).length = n := ⟨_, rfl⟩
   have HNL : Hid (nL <= 100000) := by
    have := leftM_le ms tid yes
    have h2 := HNM.out
    rw [Hid]; omega
   have HNLe := Lib.hid hnL
   rw [hnL] at HOW
   obtain ⟨pa2, pc2, np2, puts2, hv2, HP2, HPE, HNP2⟩ : ∃ (pa2 : Option Addr) (pc2 np2 : Nat) (puts2 : List PutM), (if yes = true then Value.slice pa np pc else .slice none 0 0) = .slice pa2 np2 pc2 /\ Hid (IsPuts w (.slice pa2 np2 pc2) puts2) /\ Hid (puts2 = if yes = true then puts else []) /\ Hid (puts2.length = np2 /\ np2 <= 100000) := by
    cases yes with
    | true => exact ⟨pa, pc, np, puts, rfl, HP.out, rfl, HNP.out, hnp2⟩
    | false => exact ⟨none, 0, 0, [], rfl, CellsAt.nil _ _, rfl, rfl, by omega⟩
   have HV2 := Lib.hid hv2
   have hnp3 : np2 <= 100000 := HNP2.out.2
   clear hlt t0 t0c hnL hv2
   go_upto_if 47 with fail
   go_cut [3] from 46 to 47 (fun s3 wx => s3 = .slice pa2 np2 pc2 /\ wx = wr)
   case first =>
    cases yes with
    | true =>
     go_wp2_with fail
     go_meet
     exact ⟨by simpa using HV2.out, rfl⟩
    | false =>
     go_wp2_with fail
     go_meet
     exact ⟨by simpa using HV2.out, rfl⟩
   case rest =>
    obtain ⟨rfl, hwc⟩ := hcut
    rw [hwc]
    clear hwc
    have TWs : Hid (Tch (fun q => q = bs) w1 wr) := TW.out.no
    have HBSr := Lib.hid (blk_tch TW.out HBS.out (fun h => h))
    go_wp2_with fail
    go_loopg [9, 50] np2 (fun kx s9 s50 wr => ∃ (j : Nat), s50 = .int .i64 j /\ j <= np2 /\ np2 - j <= kx /\ Hid (OwnN w1 50 6 (nL + j) ((leftM ms tid yes ++ putsM brk nid nseq (puts2.take j)).flatMap encMsg) s9 wr) /\ Hid (wr.heap[bs]? = some (.cells #[.int .i64 brk, .int .i64 (nid + (j : Int)), .int .i64 (nseq + (j : Int)), .int .i64 tx, .slice ma k mc, .slice wa waits.length wk, .slice ea ends.length ec, .slice oa opens.length oc, .slice na noes.length nc] 29 (0, 0))) /\ Hid (Tch (fun q => q = bs) w1 wr))
    case atStart => exact ⟨0, rfl, Nat.zero_le _, by omega, by simpa [Hid, putsM] using HOW.out, by simpa [Hid] using HBSr.out, TWs.out⟩
    case round =>
     clear HOW TW HBSr TWs
     obtain ⟨j, rfl, hj, hgj, HOW, HBj, TW⟩ := hrel
     have TWA : Hid (Tch No w wr) := TW1.out.fresh TW.out (fun q h => by have := HLT.out; omega)
     by_cases hlt : j < np2
     ·have hjl : j < puts2.length := by rw [HNP2.out.1]; exact hlt
      have hb : ∃ b o, pa2 = some ⟨b, o, none⟩ /\ wr.cell? ⟨b, o + j * 2, none⟩ = some (strV puts2[j].q) /\ wr.cell? ⟨b, o + j * 2 + 1, none⟩ = some (strV puts2[j].b) := by
       have hm := HP2.out
       rw [<- HNP2.out.1] at hm
       obtain ⟨b, o, cap2, h1, h2⟩ := CellsAt.elem (enc := encPut) (m := 2) (fun _ => rfl) hm hjl
       injection h1 with h1 _ _
       exact ⟨b, o, h1, TWA.out.cell (h2 0 _ (by decide) rfl) (fun h => h), TWA.out.cell (h2 1 _ (by decide) rfl) (fun h => h)⟩
      obtain ⟨b, o, rfl, e0, e1⟩ := hb
      have HSN : Hid (putsM brk nid nseq (puts2.take (j + 1)) = putsM brk nid nseq (puts2.take j) ++ [⟨makeM brk (nid + j), puts2[j].q, puts2[j].b, nseq + j, 0, 0⟩]) := by
       rw [Hid, take_snoc hjl, putsM_snoc, List.length_take, Nat.min_eq_left (by omega)]
      obtain ⟨p, hpj⟩ : ∃ p, puts2[j] = p := ⟨_, rfl⟩
      rw [hpj] at HSN e0 e1
      clear hpj
      obtain ⟨x0, x1⟩ := p
      simp only [strV] at e0 e1
      obtain ⟨q1, hq1⟩ : ∃ q : ByteArray, (⟨x0.toArray⟩ : ByteArray) = q := ⟨_, rfl⟩
      obtain ⟨q2, hq2⟩ : ∃ q : ByteArray, (⟨x1.toArray⟩ : ByteArray) = q := ⟨_, rfl⟩
      have HQ : Hid ((⟨x0.toArray⟩ : ByteArray) = q1 /\ (⟨x1.toArray⟩ : ByteArray) = q2) := ⟨hq1, hq2⟩
      rw [hq1] at e0
      rw [hq2] at e1
      clear hq1 hq2
      obtain ⟨nk, hnk⟩ : ∃ z, nid + (j : Int) = z := ⟨_, rfl⟩
      obtain ⟨sk, hsk⟩ : ∃ z, nseq + (j : Int) = z := ⟨_, rfl⟩
      have HNK : Hid (nid + (j : Int) = nk /\ nseq + (j : Int) = sk) := ⟨hnk, hsk⟩
      have hb1 : 0 <= nk /\ nk <= 4611686018427487904 := by have h1 := OK.out.nid; simp only at h1; omega
      have hb2 : 0 <= sk /\ sk <= 4611686018427487904 := by have h1 := OK.out.nseq; simp only at h1; omega
      have hbk : I64 nk := by unfold I64; omega
      rw [hnk, hsk] at HBj HSN
      clear hnk hsk
      have BW : Hid (∀ W, Tch No wr W -> W.heap[bs]? = some (.cells #[.int .i64 brk, .int .i64 nk, .int .i64 sk, .int .i64 tx, .slice ma k mc, .slice wa waits.length wk, .slice ea ends.length ec, .slice oa opens.length oc, .slice na noes.length nc] 29 (0, 0))) := fun W t => blk_tch t HBj.out (fun h => h)
      obtain ⟨w3, hw3⟩ : ∃ x, wr.alloc (.cells #[.string q1, .string q2] 45) = x := ⟨_, rfl⟩
      have TW3 : Hid (Tch No wr w3) := by rw [Hid, <- hw3]; exact Tch.alloc _ _
      have HP3 : Hid (w3.heap[wr.heap.size]? = some (.cells #[.string q1, .string q2] 45 (0, 0))) := by rw [Hid, <- hw3]; exact blk_new _ _
      have s0 : w3.cell? ⟨bs, 0, none⟩ = some (.int .i64 brk) := by
       rw [blk_cell (BW.out _ TW3.out)]; rfl
      have s1 : w3.cell? ⟨bs, 1, none⟩ = some (.int .i64 nk) := by
       rw [blk_cell (BW.out _ TW3.out)]; rfl
      have s2 : w3.cell? ⟨bs, 2, none⟩ = some (.int .i64 sk) := by
       rw [blk_cell (BW.out _ TW3.out)]; rfl
      have s3 : w3.cell? ⟨wr.heap.size, 0, none⟩ = some (.string q1) := by
       rw [blk_cell HP3.out]; rfl
      have s4 : w3.cell? ⟨wr.heap.size, 1, none⟩ = some (.string q2) := by
       rw [blk_cell HP3.out]; rfl
      obtain ⟨mk, hmk⟩ : ∃ z, makeM brk nk = z := ⟨_, rfl⟩
      have HMK : Hid (∀ W, Calls Tryz.prog 98 #[.int .i64 brk, .int .i64 nk] W fun e w' => e = .returned (.int .i64 mk) /\ w' = W) := fun W => by rw [<- hmk]; exact (kmake_any brk nk OK.out.brk hbk W).mono (fun e w' h => ⟨h.1, h.2.symm⟩)
      rw [hmk] at HSN
      clear hmk
      have HAP : Hid (∀ W, Tch No wr W -> OwnN w1 50 6 (nL + j) ((leftM ms tid yes ++ putsM brk nid nseq (puts2.take j)).flatMap encMsg) u9 W) := fun W t => stb_own _ _ _ t HOW.out
      have mixed : Tryz.prog.follows .mixedOrders = true := by kernel_rfl
      go_upto_region 16 with fail
      have HBXS : Hid (∀ W, Tch No w3 W -> BoxAt W bs [.int .i64 brk, .int .i64 nk, .int .i64 sk, .int .i64 tx, .slice ma k mc, .slice wa waits.length wk, .slice ea ends.length ec, .slice oa opens.length oc, .slice na noes.length nc]) := fun W t i x hx => by rw [blk_cell (BW.out W (TW3.out.trans0 t))]; simpa using hx
      have HBXP : Hid (∀ W, Tch No w3 W -> BoxAt W wr.heap.size [.string q1, .string q2]) := fun W t i x hx => by rw [blk_cell (blk_tch t HP3.out (fun h => h))]; simpa using hx
      have HMK2 : Hid (∀ W, Tch No w3 W -> Calls Tryz.prog 98 #[.int .i64 brk, .int .i64 nk] W fun e w' => e = .returned (.int .i64 mk) /\ Tch No W w') := fun W _ => (HMK.out W).mono (fun e w' h => ⟨h.1, by rw [h.2]; exact Tch.refl _ _⟩)
      clear s0 s1 s2 s3 s4 e0 e1
      refine frame_var 109 rfl (fun fr hfr hsz => ?_)
      have h4 : fr.eval (.tmp 4) = .pointer (some ⟨bs, 0, none⟩) := by rw [hfr.out]; rfl
      have h9 : fr.eval (.tmp 9) = u9 := by rw [hfr.out]; rfl
      have h13 : fr.eval (.tmp 13) = .pointer (some ⟨wr.heap.size, 0, none⟩) := by rw [hfr.out]; rfl
      have hlist : ∀ f ∈ ([(fun x W => x = u9 /\ OwnN w1 50 6 (nL + j) ((leftM ms tid yes ++ putsM brk nid nseq (puts2.take j)).flatMap encMsg) x W), (fun x _ => x = .pointer (some ⟨bs, 0, none⟩)), (fun x _ => x = .int .i64 brk), (fun x _ => x = .pointer (some ⟨bs, 1, none⟩)), (fun x _ => x = .int .i64 nk), (fun x _ => x = .int .i64 mk), (fun x _ => x = .pointer (some ⟨wr.heap.size, 0, none⟩)), (fun x _ => x = .string q1), (fun x _ => x = .pointer (some ⟨wr.heap.size, 1, none⟩)), (fun x _ => x = .string q2), (fun x _ => x = .pointer (some ⟨bs, 2, none⟩)), (fun x _ => x = .int .i64 sk), (fun x _ => x = .agg #[.int .i64 mk, .string q1, .string q2, .int .i64 sk, .int .i64 0, .int .i64 0]), (SrcC 1 6 [.int .i64 mk, .string q1, .string q2, .int .i64 sk, .int .i64 0, .int .i64 0]), (OwnN w1 50 6 (nL + j + 1) ((leftM ms tid yes ++ putsM brk nid nseq (puts2.take j)).flatMap encMsg ++ [.int .i64 mk, .string q1, .string q2, .int .i64 sk, .int .i64 0, .int .i64 0])), (OwnN w1 50 6 (nL + j + 1) ((leftM ms tid yes ++ putsM brk nid nseq (puts2.take j)).flatMap encMsg ++ [.int .i64 mk, .string q1, .string q2, .int .i64 sk, .int .i64 0, .int .i64 0]))] : List (Value -> World -> Prop)), Stb f :=
       all_mem1 ((fun x w w' t h => ⟨h.1, stb_own _ _ _ t h.2⟩)) (all_mem1 ((pur_eq _).stb) (all_mem1 ((pur_eq _).stb) (all_mem1 ((pur_eq _).stb) (all_mem1 ((pur_eq _).stb) (all_mem1 ((pur_eq _).stb) (all_mem1 ((pur_eq _).stb) (all_mem1 ((pur_eq _).stb) (all_mem1 ((pur_eq _).stb) (all_mem1 ((pur_eq _).stb) (all_mem1 ((pur_eq _).stb) (all_mem1 ((pur_eq _).stb) (all_mem1 ((pur_eq _).stb) (all_mem1 (stb_src) (all_mem1 (stb_own) (all_mem1 (stb_own) (all_mem0))))))))))))))))
      refine wp_region_inv2 14 (C0 := fun W => Tch No w3 W) (C1 := fun W => Tch (fun q => Value.ownBlock u9 = some q) w3 W) (RL [(fun x W => x = u9 /\ OwnN w1 50 6 (nL + j) ((leftM ms tid yes ++ putsM brk nid nseq (puts2.take j)).flatMap encMsg) x W), (fun x _ => x = .pointer (some ⟨bs, 0, none⟩)), (fun x _ => x = .int .i64 brk), (fun x _ => x = .pointer (some ⟨bs, 1, none⟩)), (fun x _ => x = .int .i64 nk), (fun x _ => x = .int .i64 mk), (fun x _ => x = .pointer (some ⟨wr.heap.size, 0, none⟩)), (fun x _ => x = .string q1), (fun x _ => x = .pointer (some ⟨wr.heap.size, 1, none⟩)), (fun x _ => x = .string q2), (fun x _ => x = .pointer (some ⟨bs, 2, none⟩)), (fun x _ => x = .int .i64 sk), (fun x _ => x = .agg #[.int .i64 mk, .string q1, .string q2, .int .i64 sk, .int .i64 0, .int .i64 0]), (SrcC 1 6 [.int .i64 mk, .string q1, .string q2, .int .i64 sk, .int .i64 0, .int .i64 0]), (OwnN w1 50 6 (nL + j + 1) ((leftM ms tid yes ++ putsM brk nid nseq (puts2.take j)).flatMap encMsg ++ [.int .i64 mk, .string q1, .string q2, .int .i64 sk, .int .i64 0, .int .i64 0])), (OwnN w1 50 6 (nL + j + 1) ((leftM ms tid yes ++ putsM brk nid nseq (puts2.take j)).flatMap encMsg ++ [.int .i64 mk, .string q1, .string q2, .int .i64 sk, .int .i64 0, .int .i64 0]))]) [0, 13, 14, 15] [54, 55, 56, 57, 58, 59, 60, 61, 62, 63, 64, 65, 66, 67, 68, 9] [(some 54, [9], []), (some 55, [4], []), (some 56, [55], [1]), (some 57, [4], []), (some 58, [57], [3]), (some 59, [56, 58], [2, 4]), (some 60, [13], []), (some 61, [60], [6]), (some 62, [13], []), (some 63, [62], [8]), (some 64, [4], []), (some 65, [64], [10]), (some 66, [59, 61, 63, 65], [5, 7, 9, 11]), (some 67, [66], [12]), (some 68, [54, 67], [0, 13, 5]), (some 9, [68], [14, 14, 0, 1, 2, 3, 4, 5, 6, 7, 8, 9, 10, 11, 12, 13, 14])] (fun i => ([[], [], [1], [], [3], [1, 2, 3, 4], [], [6], [], [8], [], [10], [1, 2, 3, 4, 5, 6, 7, 8, 9, 10, 11], [1, 2, 3, 4, 5, 6, 7, 8, 9, 10, 11, 12], [0, 1, 2, 3, 4, 5, 6, 7, 8, 9, 10, 11, 12, 13], [0, 1, 2, 3, 4, 5, 6, 7, 8, 9, 10, 11, 12, 13, 14]][i]?).getD []) (fun i => ([[], [], [1], [], [3], [2, 4], [], [6], [], [8], [], [10], [5, 7, 9, 11], [12], [0, 13], [14]][i]?).getD []) (fun i => ([[], [], [], [], [], [], [], [], [], [], [], [], [], [], [0, 13], []][i]?).getD []) (fun i => ([[14, 15], [13, 14, 15], [13, 14, 15], [13, 14, 15], [13, 14, 15], [13, 14, 15], [13, 14, 15], [13, 14, 15], [13, 14, 15], [13, 14, 15], [13, 14, 15], [13, 14, 15], [13, 14, 15], [14, 15], [15], []][i]?).getD []) (by kernel_rfl) (by kernel_rfl) (by kernel_rfl) (by rw [hsz]; kernel_rfl) ?_ [0, 1, 2, 3, 4, 5, 6, 7, 8, 9, 10, 11, 12, 13] [15] [9] (by kernel_rfl) (rl_pur ?_) ?_ ?_ ?_ ?_
      ·exact Tch.drew _
      ·show ∀ j, j < 16 -> _ ∨ _
       refine all_lt1 (all_lt1 (all_lt1 (all_lt1 (all_lt1 (all_lt1 (all_lt1 (all_lt1 (all_lt1 (all_lt1 (all_lt1 (all_lt1 (all_lt1 (all_lt1 (all_lt1 (all_lt1 (all_lt0) (Or.inl (by decide))) (Or.inr (pur_eq _))) (Or.inr (pur_eq _))) (Or.inr (pur_eq _))) (Or.inr (pur_eq _))) (Or.inr (pur_eq _))) (Or.inr (pur_eq _))) (Or.inr (pur_eq _))) (Or.inr (pur_eq _))) (Or.inr (pur_eq _))) (Or.inr (pur_eq _))) (Or.inr (pur_eq _))) (Or.inr (pur_eq _))) (Or.inl (by decide))) (Or.inl (by decide))) (Or.inl (by decide))
      ·intro i hi him
       have him2 : i = 0 ∨ i = 1 ∨ i = 2 ∨ i = 3 ∨ i = 4 ∨ i = 5 ∨ i = 6 ∨ i = 7 ∨ i = 8 ∨ i = 9 ∨ i = 10 ∨ i = 11 ∨ i = 12 ∨ i = 13 := by simpa using him
       rcases him2 with rfl | rfl | rfl | rfl | rfl | rfl | rfl | rfl | rfl | rfl | rfl | rfl | rfl | rfl
       ·refine istep_w2 ⟨some 54, _, _, _, _, none⟩ rfl (fun a w' hf hC hn => (iwanted_no rfl)) (fun a W hf hk hC hn K hK => ?_)
        refine wp_runs (y_move (ρ := a.eval) (.tmp 9) rfl ((hk 9 (by decide)).trans h9) W) ?_
        exact hK _ _ hC ⟨rfl, HAP.out _ (TW3.out.trans0 hC)⟩ (fun j _ _ _ _ x h => h)
       ·exact istep2_of (iq (d := 55) (.pointer (some ⟨bs, 0, none⟩)) rfl (fun _ _ => rfl) (fun a W hf hC hn => y_faState0 (ρ := a.eval) (.tmp 4) (b := bs) (off := 0) rfl (hf.ev (by kernel_rfl) h4) W))
       ·exact istep2_of (iq (d := 56) (.int .i64 brk) rfl (fun _ _ => rfl) (fun a W hf hC hn => y_ldint (ρ := a.eval) (.tmp 55) (ad := ⟨bs, 0, none⟩) rfl (hn 1 (by decide)) W (HBXS.out W hC 0 _ rfl)))
       ·exact istep2_of (iq (d := 57) (.pointer (some ⟨bs, 1, none⟩)) rfl (fun _ _ => rfl) (fun a W hf hC hn => y_faState1 (ρ := a.eval) (.tmp 4) (b := bs) (off := 0) rfl (hf.ev (by kernel_rfl) h4) W))
       ·exact istep2_of (iq (d := 58) (.int .i64 nk) rfl (fun _ _ => rfl) (fun a W hf hC hn => y_ldint64 (ρ := a.eval) (.tmp 57) (ad := ⟨bs, 1, none⟩) rfl (hn 3 (by decide)) W (HBXS.out W hC 1 _ rfl)))
       ·exact istep2_of (istep_c (d := 59) (.int .i64 mk) ⟨some 59, _, _, _, _, none⟩ rfl rfl (fun a W hf hC hn => iwanted_no rfl) (hF := Tryz.func98) (by kernel_rfl) (by kernel_rfl) [(.tmp 56), (.tmp 58)] #[3, 2] rfl [.int .i64 brk, .int .i64 nk] (fun a W hf hC hn => map2 (hn 2 (by decide)) (hn 4 (by decide))) (HMK2.out) (fun _ _ h t => h.trans0 t) (rl_stb hlist) (fun _ _ => rfl))
       ·exact istep2_of (iq (d := 60) (.pointer (some ⟨wr.heap.size, 0, none⟩)) rfl (fun _ _ => rfl) (fun a W hf hC hn => y_faPut0 (ρ := a.eval) (.tmp 13) (b := wr.heap.size) (off := 0) rfl (hf.ev (by kernel_rfl) h13) W))
       ·exact istep2_of (iq (d := 61) (.string q1) rfl (fun _ _ => rfl) (fun a W hf hC hn => y_ldstring (ρ := a.eval) (.tmp 60) (ad := ⟨wr.heap.size, 0, none⟩) rfl (hn 6 (by decide)) W (HBXP.out W hC 0 _ rfl)))
       ·exact istep2_of (iq (d := 62) (.pointer (some ⟨wr.heap.size, 1, none⟩)) rfl (fun _ _ => rfl) (fun a W hf hC hn => y_faPut1 (ρ := a.eval) (.tmp 13) (b := wr.heap.size) (off := 0) rfl (hf.ev (by kernel_rfl) h13) W))
       ·exact istep2_of (iq (d := 63) (.string q2) rfl (fun _ _ => rfl) (fun a W hf hC hn => y_ldstring (ρ := a.eval) (.tmp 62) (ad := ⟨wr.heap.size, 1, none⟩) rfl (hn 8 (by decide)) W (HBXP.out W hC 1 _ rfl)))
       ·exact istep2_of (iq (d := 64) (.pointer (some ⟨bs, 2, none⟩)) rfl (fun _ _ => rfl) (fun a W hf hC hn => y_faState2 (ρ := a.eval) (.tmp 4) (b := bs) (off := 0) rfl (hf.ev (by kernel_rfl) h4) W))
       ·exact istep2_of (iq (d := 65) (.int .i64 sk) rfl (fun _ _ => rfl) (fun a W hf hC hn => y_ldint64 (ρ := a.eval) (.tmp 64) (ad := ⟨bs, 2, none⟩) rfl (hn 10 (by decide)) W (HBXS.out W hC 2 _ rfl)))
       ·exact istep2_of (iq (d := 66) (.agg #[.int .i64 mk, .string q1, .string q2, .int .i64 sk, .int .i64 0, .int .i64 0]) rfl (fun _ _ => rfl) (fun a W hf hC hn => y_bdMsg4 (ρ := a.eval) (.tmp 59) (.tmp 61) (.tmp 63) (.tmp 65) rfl (hn 5 (by decide)) (hn 7 (by decide)) (hn 9 (by decide)) (hn 11 (by decide)) rfl rfl rfl rfl W))
       ·refine istep_w2 ⟨some 67, _, _, _, _, none⟩ rfl (fun a w' hf hC hn => (iwanted_no rfl)) (fun a W hf hk hC hn K hK => ?_)
        refine wp_runs (y_bsMessage (ρ := a.eval) (.tmp 66) (v0 := .int .i64 mk) (v1 := .string q1) (v2 := .string q2) (v3 := .int .i64 sk) (v4 := .int .i64 0) (v5 := .int .i64 0) rfl (hn 12 (by decide)) rfl rfl rfl rfl rfl rfl W) ?_
        refine hK _ _ (hC.trans0 (Tch.alloc _ _)) (cells_lit W _ _ 6 _ rfl rfl _) (fun j _ _ _ _ x h => rl_stb hlist j x _ _ (Tch.alloc _ _) h)
      ·intro i hi him
       have him2 : i = 15 := by simpa using him
       rcases him2 with rfl
       ·refine istep_w ⟨some 9, _, _, _, _, none⟩ rfl (fun a w' hf hC hn => (iwanted_no rfl)) (fun a W hf hC hn K hK => ?_)
        refine wp_runs (y_assign (ρ := a.eval) (.tmp 68) rfl rfl W) ?_
        exact hK _ _ hC (hn 14 (by decide)) (fun j _ _ _ _ x h => h)
      ·refine istep_w2 ⟨some 68, _, _, _, _, none⟩ rfl (fun a w' hf hC hn => (iwanted_no rfl)) (fun a W hf hk hC hn K hK => ?_)
       have g0 : a.eval (.tmp 54) = u9 /\ OwnN w1 50 6 (nL + j) ((leftM ms tid yes ++ putsM brk nid nseq (puts2.take j)).flatMap encMsg) (a.eval (.tmp 54)) W := hn 0 (by decide)
       have g13 : SrcC 1 6 [.int .i64 mk, .string q1, .string q2, .int .i64 sk, .int .i64 0, .int .i64 0] (a.eval (.tmp 67)) W := hn 13 (by decide)
       refine wp_appE eltMsg (.tmp 54) (.tmp 67) rfl _ (nL + j) _ rfl g0.2.1 _ 1 _ rfl g13 (ones_msg6 _ _ _ _ _ _) (by have := HNL.out; omega) (fun a' n' c' w' hA hn' => ?_)
       refine hK _ _ ?_ ⟨hA.own, fun k hk => ?_⟩ (by intro j hj h1 h2 h3; exfalso; revert j; decide)
       ·exact hC.no.trans (Tch.grown (F := fun q => Value.ownBlock u9 = some q) hA.grow (fun q hq _ => by rw [<- g0.1]; exact hq)) (fun _ _ h => h)
       ·rcases hA.loc with e1 | e1
        ·rw [e1] at hk; exact g0.2.2 k hk
        ·rw [e1] at hk
         have z1 := hC.size; have z2 := TW3.out.size; have z3 := TW.out.size
         simp at hk; omega
      ·intro af wf hf hC hR
       obtain ⟨vs, hl, rfl⟩ := hf
       have hl : vs.length = 16 := hl
       obtain ⟨u0, vs0, hv0, hl⟩ := vs_cons hl
       obtain ⟨u1, vs1, hv1, hl⟩ := vs_cons hl
       obtain ⟨u2, vs2, hv2, hl⟩ := vs_cons hl
       obtain ⟨u3, vs3, hv3, hl⟩ := vs_cons hl
       obtain ⟨u4, vs4, hv4, hl⟩ := vs_cons hl
       obtain ⟨u5, vs5, hv5, hl⟩ := vs_cons hl
       obtain ⟨u6, vs6, hv6, hl⟩ := vs_cons hl
       obtain ⟨u7, vs7, hv7, hl⟩ := vs_cons hl
       obtain ⟨u8, vs8, hv8, hl⟩ := vs_cons hl
       obtain ⟨u9, vs9, hv9, hl⟩ := vs_cons hl
       obtain ⟨u10, vs10, hv10, hl⟩ := vs_cons hl
       obtain ⟨u11, vs11, hv11, hl⟩ := vs_cons hl
       obtain ⟨u12, vs12, hv12, hl⟩ := vs_cons hl
       obtain ⟨u13, vs13, hv13, hl⟩ := vs_cons hl
       obtain ⟨u14, vs14, hv14, hl⟩ := vs_cons hl
       obtain ⟨u15, vs15, hv15, hl⟩ := vs_cons hl
       have hvn := vs_nil hl
       have hvs : vs = [u0, u1, u2, u3, u4, u5, u6, u7, u8, u9, u10, u11, u12, u13, u14, u15] := by rw [hv0, hv1, hv2, hv3, hv4, hv5, hv6, hv7, hv8, hv9, hv10, hv11, hv12, hv13, hv14, hv15, hvn]
       clear hvn hl hv0 hv1 hv2 hv3 hv4 hv5 hv6 hv7 hv8 hv9 hv10 hv11 hv12 hv13 hv14 hv15
       subst hvs
       have r15 : (OwnN w1 50 6 (nL + j + 1) ((leftM ms tid yes ++ putsM brk nid nseq (puts2.take j)).flatMap encMsg ++ [.int .i64 mk, .string q1, .string q2, .int .i64 sk, .int .i64 0, .int .i64 0])) u15 wf := by
        have e : (putAll fr [54, 55, 56, 57, 58, 59, 60, 61, 62, 63, 64, 65, 66, 67, 68, 9] [u0, u1, u2, u3, u4, u5, u6, u7, u8, u9, u10, u11, u12, u13, u14, u15]).eval (.tmp 9) = u15 := putAll_get 15 (by decide) rfl rfl rfl (by rw [hsz]; decide)
        have h : (OwnN w1 50 6 (nL + j + 1) ((leftM ms tid yes ++ putsM brk nid nseq (puts2.take j)).flatMap encMsg ++ [.int .i64 mk, .string q1, .string q2, .int .i64 sk, .int .i64 0, .int .i64 0])) ((putAll fr [54, 55, 56, 57, 58, 59, 60, 61, 62, 63, 64, 65, 66, 67, 68, 9] [u0, u1, u2, u3, u4, u5, u6, u7, u8, u9, u10, u11, u12, u13, u14, u15]).eval (.tmp 9)) wf := hR 15 (by decide) (by decide)
        rw [e] at h
        exact h
       have hfr2 := hfr.out
       subst hfr2
       simp only [putAll, Act.put, List.setIfInBounds_toArray, List.set_cons_succ, List.set_cons_zero]
       have GO := Lib.hid r15
       clear hR hlist hsz r15
       obtain ⟨ra, rc, rfl, _, _⟩ := own_shape GO.out.1
       have GB := Lib.hid (blk_tch hC (BW.out _ TW3.out) (fun e => by have g1 := HOW.out.2 _ e; have g2 := HLT.out; omega))
       have TF := Lib.hid hC
       clear hC
       have c1 : wf.cell? ⟨bs, 1, none⟩ = some (.int .i64 nk) := (blk_cell GB.out 1).trans rfl
       have c2 : wf.cell? ⟨bs, 2, none⟩ = some (.int .i64 sk) := (blk_cell GB.out 2).trans rfl
       have f1 := blk_free GB.out 1
       have f2 := blk_free GB.out 2
       go_wp2_with fail
       go_roundg (np2 - (j + 1))
       case measure => omega
       case rel =>
        have g0 := HNK.out
        have e1 : nid + (((j + 1 : Nat) : Int)) = nk + 1 := by rw [<- g0.1]; omega
        have e2 : nseq + (((j + 1 : Nat) : Int)) = sk + 1 := by rw [<- g0.2]; omega
        have hsets : (wf.setCell ⟨bs, 1, none⟩ (.int .i64 (nk + 1))).setCell ⟨bs, 2, none⟩ (.int .i64 (sk + 1)) = (wf.setCell ⟨bs, 1, none⟩ (.int .i64 (nk + 1))).setCell ⟨bs, 2, none⟩ (.int .i64 (sk + 1)) := rfl
        have tS : Tch (fun q => q = bs) wf ((wf.setCell ⟨bs, 1, none⟩ (.int .i64 (nk + 1))).setCell ⟨bs, 2, none⟩ (.int .i64 (sk + 1))) := (Tch.setCell (F := fun q => q = bs) _ _ _ (fun _ => rfl)).trans (Tch.setCell (F := fun q => q = bs) _ _ _ (fun _ => rfl)) (fun _ _ h => h)
        refine ⟨j + 1, by go_num, by omega, by omega, ⟨?_, GO.out.2⟩, ?_, ?_⟩
        ·have g1 := own_tch GO.out.1 tS (fun k hk e => by have g2 := GO.out.2 k hk; have g3 := HLT.out; omega)
         rw [HSN.out, <- List.append_assoc, List.flatMap_append]
         have hq1 := HQ.out.1
         have hq2 := HQ.out.2
         subst hq1; subst hq2
         exact g1
        ·rw [e1, e2]
         exact blk_set (blk_set GB.out 1 _) 2 _
        ·exact ((TW.out.trans0 TW3.out).trans TF.out (fun i hi e => by have g2 := HOW.out.2 i e; omega)).trans tS (fun _ _ h => h)
     ·obtain rfl : j = np2 := by omega
      have HPA : Hid (puts2.take j = puts2) := by rw [Hid, <- HNP2.out.1, List.take_length]
      rw [HPA.out] at HOW
      obtain ⟨fm, hfm⟩ : ∃ l, leftM ms tid yes ++ putsM brk nid nseq puts2 = l := ⟨_, rfl⟩
      have HFM := Lib.hid hfm
      obtain ⟨nF, hnF⟩ : ∃ n, nL + j = n := ⟨_, rfl⟩
      have HNF := Lib.hid hnF
      rw [hfm, hnF] at HOW
      obtain ⟨nk, hnk⟩ : ∃ z, nid + (j : Int) = z := ⟨_, rfl⟩
      obtain ⟨sk, hsk⟩ : ∃ z, nseq + (j : Int) = z := ⟨_, rfl⟩
      have HNK : Hid (nid + (j : Int) = nk /\ nseq + (j : Int) = sk) := ⟨hnk, hsk⟩
      rw [hnk, hsk] at HBj
      clear hnk hsk hfm hnF
      obtain ⟨ra, rc, rfl, _, _⟩ := own_shape HOW.out.1
      have HOWr := Lib.hid HOW.out
      have t0 : wr.cell? ⟨bt, 0, none⟩ = some (.int .i64 tid) := TW.out.cell (by rw [blk_cell HBT.out]; rfl) (by have := HLT.out; show ¬ bt = bs; omega)
      have b6 : wr.cell? ⟨bs, 6, none⟩ = some (.slice ea ends.length ec) := (blk_cell HBj.out 6).trans rfl
      have hne : ends.length <= 100000 := OK.out.ne
      have hse : strictB (ends.map (·.tid)) = true := OK.out.rise
      have HEn := Lib.hid (ends_any ends hse (by omega) tid (.slice ea ends.length ec) wr (HE.out.keep TWA.out))
      have HNO2 : Hid (hasP (·.tid) ends tid = false) := OK.out.fresh tid rfl
      obtain ⟨k2, hk2⟩ : ∃ k, posP (·.tid) ends tid = k := ⟨_, rfl⟩
      have HK2 : Hid (posP (·.tid) ends tid = k2 /\ k2 <= ends.length) := ⟨hk2, by rw [<- hk2]; exact posP_le _ _ _⟩
      obtain ⟨b2, hb2⟩ : ∃ b, hasP (·.tid) ends tid = b := ⟨_, rfl⟩
      rw [hk2, hb2] at HEn
      clear hk2 hb2 hse
      go_wp2_with fail
      refine HEn.out.mono ?_
      rintro e w4 ⟨rfl, T4⟩
      have TW4 : Hid (Tch No wr w4) := T4
      have TWA4 : Hid (Tch No w w4) := TWA.out.trans0 T4
      have HB4 := Lib.hid (blk_tch T4 HBj.out (fun h => h))
      have HT4 := Lib.hid (blk_tch T4 (blk_tch TW.out HBT.out (by have := HLT.out; show ¬ bt = bs; omega)) (fun h => h))
      have HR4 := Lib.hid (blk_tch T4 (blk_tch TW.out HBR.out (by have := HLT.out; show ¬ br = bs; omega)) (fun h => h))
      have HO4 : Hid (OwnN w1 50 6 nF (fm.flatMap encMsg) (.slice ra nF rc) w4) := stb_own _ _ _ T4 HOWr.out
      have HS4 : Hid (w1.heap.size <= w4.heap.size) := Nat.le_trans TW.out.size T4.size
      clear T4 t0 b6
      go_upto_region 21 with fail
      have B6 : Hid (∀ W, Tch No w4 W -> W.cell? ⟨bs, 6, none⟩ = some (.slice ea ends.length ec)) := fun W t => (blk_cell (blk_tch t HB4.out (fun h => h)) 6).trans rfl
      have T0 : Hid (∀ W, Tch No w4 W -> W.cell? ⟨bt, 0, none⟩ = some (.int .i64 tid)) := fun W t => (blk_cell (blk_tch t HT4.out (fun h => h)) 0).trans rfl
      have HONE : Hid (Ones (ends.flatMap encEnd)) := ones_flat ones_end ends
      have HON2 : Hid (Ones (#[Value.int .i64 tid, .bool yes] : Array Value).toList) := fun u hu => by
       simp only [List.mem_cons, List.not_mem_nil, or_false] at hu
       rcases hu with rfl | rfl <;> rfl
      have HDIS : Hid (∀ v W vb, OwnN w4 71 2 ends.length (ends.flatMap encEnd) v W -> k2 < ends.length -> v.ownBlock = some vb -> W.heap[vb]? = some (.cells #[.int .i64 tid, .bool yes] 71 (0, 0)) -> False) := fun v W vb hO hlt hv hb => by
       obtain ⟨a, c, rfl, _, _⟩ := own_shape hO.1
       cases a with
       | none => cases hv
       | some a =>
        obtain ⟨g, cur, rfl, q1, q2, q3, q4, q5, q6⟩ := own_get hO.1
        have hv' : g = vb := by simpa [Value.ownBlock] using hv
        subst hv'
        rw [q1] at hb
        have hcur : cur = #[.int .i64 tid, .bool yes] := by injection hb with hb; injection hb
        have h0 := q6 0 (by omega)
        rw [hcur] at h0
        cases hends : ends with
        | nil => rw [hends] at hlt; simp at hlt
        | cons e1 er =>
         have hno := HNO2.out
         rw [hends] at h0 hno
         simp [encEnd] at h0
         simp [hasP, h0] at hno
      refine frame_var 109 rfl (fun fr hfr hsz => ?_)
      have h4 : fr.eval (.tmp 4) = .pointer (some ⟨bs, 0, none⟩) := by rw [hfr.out]; rfl
      have h5 : fr.eval (.tmp 5) = .pointer (some ⟨bt, 0, none⟩) := by rw [hfr.out]; rfl
      have h9 : fr.eval (.tmp 9) = .slice ra nF rc := by rw [hfr.out]; rfl
      have h14 : fr.eval (.tmp 14) = .int .i64 ((k2 : Nat) : Int) := by rw [hfr.out]; rfl
      have h2 : fr.eval (.tmp 2) = .bool yes := by rw [hfr.out]; rfl
      have hlist : ∀ f ∈ ([(fun x _ => x = .slice ra nF rc), (fun x _ => x = .pointer (some ⟨bs, 6, none⟩)), (fun x _ => x = .slice ea ends.length ec), (OwnN w4 71 2 ends.length (ends.flatMap encEnd)), (fun x _ => x = .int .i64 ((k2 : Nat) : Int)), (fun x _ => x = .int .i64 tid), (fun x _ => x = .bool yes), (fun x _ => x = .agg #[.int .i64 tid, .bool yes]), (fun x W => ∃ vb, x = .slice (some ⟨vb, 0, none⟩) 1 1 /\ W.heap[vb]? = some (.cells #[.int .i64 tid, .bool yes] 71 (0, 0)) /\ w4.heap.size <= vb), (OwnN w4 71 2 (ends.length + 1) ((ends.flatMap encEnd).take (k2 * 2) ++ (#[Value.int .i64 tid, .bool yes] : Array Value).toList ++ (ends.flatMap encEnd).drop (k2 * 2))), (fun x _ => x = .pointer (some ⟨bs, 4, none⟩)), (fun x _ => True), (fun x _ => x = .pointer (some ⟨bs, 6, none⟩)), (fun _ W => ∃ v, (OwnN w4 71 2 (ends.length + 1) ((ends.flatMap encEnd).take (k2 * 2) ++ (#[Value.int .i64 tid, .bool yes] : Array Value).toList ++ (ends.flatMap encEnd).drop (k2 * 2))) v W /\ W.cell? ⟨bs, 6, none⟩ = some v)] : List (Value -> World -> Prop)), Stb f :=
       all_mem1 ((pur_eq _).stb) (all_mem1 ((pur_eq _).stb) (all_mem1 ((pur_eq _).stb) (all_mem1 (stb_own) (all_mem1 ((pur_eq _).stb) (all_mem1 ((pur_eq _).stb) (all_mem1 ((pur_eq _).stb) (all_mem1 ((pur_eq _).stb) (all_mem1 ((fun x w w' t h => by obtain ⟨vb, h1, h2, h3⟩ := h; exact ⟨vb, h1, blk_tch t h2 (fun h => h), h3⟩)) (all_mem1 (stb_own) (all_mem1 ((pur_eq _).stb) (all_mem1 (pur_any.stb) (all_mem1 ((pur_eq _).stb) (all_mem1 ((fun x w w' t h => by obtain ⟨v, h1, h2⟩ := h; exact ⟨v, stb_own _ _ _ t h1, t.cell h2 (fun h => h)⟩)) (all_mem0))))))))))))))
      refine wp_region_inv2 11 (C0 := fun W => Tch No w4 W) (C1 := fun W => Tch (fun q => q = bs) w4 W /\ ∃ cur : Array Value, W.heap[bs]? = some (.cells cur 29 (0, 0)) /\ cur.size = 9 /\ cur[4]? = some (.slice ra nF rc) /\ ∀ i, i ≠ 4 -> i ≠ 6 -> cur[i]? = (#[.int .i64 brk, .int .i64 nk, .int .i64 sk, .int .i64 tx, .slice ma k mc, .slice wa waits.length wk, .slice ea ends.length ec, .slice oa opens.length oc, .slice na noes.length nc] : Array Value)[i]?) (RL [(fun x _ => x = .slice ra nF rc), (fun x _ => x = .pointer (some ⟨bs, 6, none⟩)), (fun x _ => x = .slice ea ends.length ec), (OwnN w4 71 2 ends.length (ends.flatMap encEnd)), (fun x _ => x = .int .i64 ((k2 : Nat) : Int)), (fun x _ => x = .int .i64 tid), (fun x _ => x = .bool yes), (fun x _ => x = .agg #[.int .i64 tid, .bool yes]), (fun x W => ∃ vb, x = .slice (some ⟨vb, 0, none⟩) 1 1 /\ W.heap[vb]? = some (.cells #[.int .i64 tid, .bool yes] 71 (0, 0)) /\ w4.heap.size <= vb), (OwnN w4 71 2 (ends.length + 1) ((ends.flatMap encEnd).take (k2 * 2) ++ (#[Value.int .i64 tid, .bool yes] : Array Value).toList ++ (ends.flatMap encEnd).drop (k2 * 2))), (fun x _ => x = .pointer (some ⟨bs, 4, none⟩)), (fun x _ => True), (fun x _ => x = .pointer (some ⟨bs, 6, none⟩)), (fun _ W => ∃ v, (OwnN w4 71 2 (ends.length + 1) ((ends.flatMap encEnd).take (k2 * 2) ++ (#[Value.int .i64 tid, .bool yes] : Array Value).toList ++ (ends.flatMap encEnd).drop (k2 * 2))) v W /\ W.cell? ⟨bs, 6, none⟩ = some v)]) [3, 8, 9, 13] [85, 86, 87, 88, 89, 90, 91, 92, 93, 94, 95, 96] [(some 85, [9], []), (some 86, [4], []), (some 87, [86], [1]), (some 88, [87], [2]), (some 89, [14], []), (some 90, [5], []), (some 91, [2], []), (some 92, [90, 91], [5, 6]), (some 93, [92], [7]), (some 94, [88, 89, 93], [3, 4, 8, 3]), (some 95, [4], [0, 1, 2]), (none, [95, 85], [10, 0, 9, 0, 1, 2]), (some 96, [4], [0, 1, 2, 3, 4, 5, 6, 7, 8, 9, 10, 11]), (none, [96, 94], [12, 9, 11, 0, 1, 2, 3, 4, 5, 6, 7, 8, 9, 10, 11])] (fun i => ([[], [], [1], [1, 2], [], [], [], [5, 6], [5, 6, 7], [1, 2, 3, 4, 5, 6, 7, 8], [0, 1, 2], [0, 1, 2, 3, 4, 5, 6, 7, 8, 9, 10], [0, 1, 2, 3, 4, 5, 6, 7, 8, 9, 10, 11], [0, 1, 2, 3, 4, 5, 6, 7, 8, 9, 10, 11, 12]][i]?).getD []) (fun i => ([[], [], [1], [2], [], [], [], [5, 6], [7], [3, 4, 8], [], [0, 9, 10], [], [9, 12]][i]?).getD []) (fun i => ([[], [], [], [], [], [], [], [], [], [3, 8], [], [3, 8], [], [3, 8, 9]][i]?).getD []) (fun i => ([[13], [3, 9, 13], [3, 9, 13], [9, 13], [9, 13], [8, 9, 13], [8, 9, 13], [8, 9, 13], [9, 13], [13], [13], [13], [13], []][i]?).getD []) (by kernel_rfl) (by kernel_rfl) (by kernel_rfl) (by rw [hsz]; kernel_rfl) ?_ [0, 1, 2, 3, 4, 5, 6, 7, 8, 9, 10] [12, 13] [] (by kernel_rfl) (rl_pur ?_) ?_ ?_ ?_ ?_
      ·exact Tch.drew _
      ·show ∀ j, j < 14 -> _ ∨ _
       refine all_lt1 (all_lt1 (all_lt1 (all_lt1 (all_lt1 (all_lt1 (all_lt1 (all_lt1 (all_lt1 (all_lt1 (all_lt1 (all_lt1 (all_lt1 (all_lt1 (all_lt0) (Or.inr (pur_eq _))) (Or.inr (pur_eq _))) (Or.inr (pur_eq _))) (Or.inl (by decide))) (Or.inr (pur_eq _))) (Or.inr (pur_eq _))) (Or.inr (pur_eq _))) (Or.inr (pur_eq _))) (Or.inl (by decide))) (Or.inl (by decide))) (Or.inr (pur_eq _))) (Or.inr pur_any)) (Or.inr (pur_eq _))) (Or.inl (by decide))
      ·intro i hi him
       have him2 : i = 0 ∨ i = 1 ∨ i = 2 ∨ i = 3 ∨ i = 4 ∨ i = 5 ∨ i = 6 ∨ i = 7 ∨ i = 8 ∨ i = 9 ∨ i = 10 := by simpa using him
       rcases him2 with rfl | rfl | rfl | rfl | rfl | rfl | rfl | rfl | rfl | rfl | rfl
       ·exact istep2_of (iq (d := 85) (.slice ra nF rc) rfl (fun _ _ => rfl) (fun a W hf hC hn => y_move (ρ := a.eval) (.tmp 9) rfl (hf.ev (by kernel_rfl) h9) W))
       ·exact istep2_of (iq (d := 86) (.pointer (some ⟨bs, 6, none⟩)) rfl (fun _ _ => rfl) (fun a W hf hC hn => y_faState6 (ρ := a.eval) (.tmp 4) (b := bs) (off := 0) rfl (hf.ev (by kernel_rfl) h4) W))
       ·exact istep2_of (iq (d := 87) (.slice ea ends.length ec) rfl (fun _ _ => rfl) (fun a W hf hC hn => y_ldSEnd (ρ := a.eval) (.tmp 86) (ad := ⟨bs, 6, none⟩) rfl (hn 1 (by decide)) W (B6.out W hC)))
       ·refine istep_w2 ⟨some 88, _, _, _, _, none⟩ rfl (fun a w' hf hC hn => (iwanted_no rfl)) (fun a W hf hk hC hn K hK => ?_)
        refine w_call Tryz.func224 (by kernel_rfl) (by kernel_rfl) [.tmp 87] _ rfl [.slice ea ends.length ec] (map1 (hn 2 (by decide))) (clone_end _ ends W (HE.out.keep (TWA4.out.trans0 hC)) HONE.out (by omega)) (fun e w' h => ?_)
        obtain ⟨a', c', rfl, hO, hT, _⟩ := h
        exact ⟨_, rfl, hK _ _ (hC.trans0 hT) ⟨hO.1, fun b hb => Nat.le_trans hC.size (hO.2 b hb)⟩ (fun j _ _ _ _ x h => rl_stb hlist j x _ _ hT h)⟩
       ·exact istep2_of (iq (d := 89) (.int .i64 ((k2 : Nat) : Int)) rfl (fun _ _ => rfl) (fun a W hf hC hn => y_move (ρ := a.eval) (.tmp 14) rfl (hf.ev (by kernel_rfl) h14) W))
       ·exact istep2_of (iq (d := 90) (.int .i64 tid) rfl (fun _ _ => rfl) (fun a W hf hC hn => y_ldint64 (ρ := a.eval) (.tmp 5) (ad := ⟨bt, 0, none⟩) rfl (hf.ev (by kernel_rfl) h5) W (T0.out W hC)))
       ·exact istep2_of (iq (d := 91) (.bool yes) rfl (fun _ _ => rfl) (fun a W hf hC hn => y_move (ρ := a.eval) (.tmp 2) rfl (hf.ev (by kernel_rfl) h2) W))
       ·exact istep2_of (iq (d := 92) (.agg #[.int .i64 tid, .bool yes]) rfl (fun _ _ => rfl) (fun a W hf hC hn => y_bdEnd (ρ := a.eval) (.tmp 90) (.tmp 91) rfl (hn 5 (by decide)) (hn 6 (by decide)) rfl rfl W))
       ·refine istep_w2 ⟨some 93, _, _, _, _, none⟩ rfl (fun a w' hf hC hn => (iwanted_no rfl)) (fun a W hf hk hC hn K hK => ?_)
        refine wp_runs (y_bsEnd (ρ := a.eval) (.tmp 92) (v0 := .int .i64 tid) (v1 := .bool yes) rfl (hn 7 (by decide)) rfl rfl W) ?_
        exact hK _ _ (hC.trans0 (Tch.alloc _ _)) ⟨W.heap.size, rfl, blk_new _ _, hC.size⟩ (fun j _ _ _ _ x h => rl_stb hlist j x _ _ (Tch.alloc _ _) h)
       ·refine istep_w2 ⟨some 94, _, _, _, _, none⟩ rfl (fun a w' hf hC hn => (iwanted_no rfl)) (fun a W hf hk hC hn K hK => ?_)
        have g3 : OwnN w4 71 2 ends.length (ends.flatMap encEnd) (a.eval (.tmp 88)) W := hn 3 (by decide)
        obtain ⟨vb, g8, g8b, g8c⟩ : ∃ vb, a.eval (.tmp 93) = .slice (some ⟨vb, 0, none⟩) 1 1 /\ W.heap[vb]? = some (.cells #[.int .i64 tid, .bool yes] 71 (0, 0)) /\ w4.heap.size <= vb := hn 8 (by decide)
        refine w_call Tryz.func223 (by kernel_rfl) (by kernel_rfl) [.tmp 88, .tmp 89, .tmp 93] _ rfl [a.eval (.tmp 88), .int .i64 ((k2 : Nat) : Int), .slice (some ⟨vb, 0, none⟩) 1 1] (map3 rfl (hn 4 (by decide)) g8) (ins_end w4 ends.length k2 (ends.flatMap encEnd) vb #[.int .i64 tid, .bool yes] W _ HK2.out.2 hC g3 (by omega) HONE.out g8b rfl HON2.out (fun hlt e => HDIS.out _ W vb g3 hlt e g8b)) (fun e w' h => ?_)
        obtain ⟨v', rfl, hO, hT, _⟩ := h
        exact ⟨_, rfl, hK _ _ hT hO (by intro j hj h1 h2 h3; exfalso; revert j; decide)⟩
       ·exact istep2_of (iq (d := 95) (.pointer (some ⟨bs, 4, none⟩)) rfl (fun _ _ => rfl) (fun a W hf hC hn => y_faState4 (ρ := a.eval) (.tmp 4) (b := bs) (off := 0) rfl (hf.ev (by kernel_rfl) h4) W))
      ·intro i hi him
       have him2 : i = 12 ∨ i = 13 := by simpa using him
       rcases him2 with rfl | rfl
       ·exact iq (d := 96) (.pointer (some ⟨bs, 6, none⟩)) rfl (fun _ _ => rfl) (fun a W hf hC hn => y_faState6 (ρ := a.eval) (.tmp 4) (b := bs) (off := 0) rfl (hf.ev (by kernel_rfl) h4) W)
       ·refine istep_w ⟨none, _, _, _, _, none⟩ rfl (fun a w' hf hC hn => (iwanted_no rfl)) (fun a W hf hC hn K hK => ?_)
        have g12 : a.eval (.tmp 96) = .pointer (some ⟨bs, 6, none⟩) := hn 12 (by decide)
        have g9 : OwnN w4 71 2 (ends.length + 1) ((ends.flatMap encEnd).take (k2 * 2) ++ (#[Value.int .i64 tid, .bool yes] : Array Value).toList ++ (ends.flatMap encEnd).drop (k2 * 2)) (a.eval (.tmp 94)) W := hn 9 (by decide)
        obtain ⟨hC1, cur, gB, gs, g4, gi⟩ := hC
        obtain ⟨va, vc, hva, _, _⟩ := own_shape g9.1
        have tS := Tch.setCell (F := fun q => q = bs) W ⟨bs, 6, none⟩ (a.eval (.tmp 94)) (fun _ => rfl)
        refine w_stSEnd (.tmp 96) (.tmp 94) rfl rfl g12 rfl (by rw [hva]; rfl) ((blk_cell gB 6).trans (Array.getElem?_eq_getElem (by omega))) (blk_free gB 6) (fun z => ?_)
        have gB2 := blk_set gB 6 (a.eval (.tmp 94))
        refine hK _ _ ⟨hC1.trans tS (fun _ _ h => h), _, gB2, by simpa using gs, by rw [Array.getElem?_setIfInBounds, if_neg (by decide)]; exact g4, fun i h4 h6 => by rw [Array.getElem?_setIfInBounds, if_neg (fun e => h6 e.symm)]; exact gi i h4 h6⟩ ⟨a.eval (.tmp 94), ⟨own_tch g9.1 tS (fun k hk e => by have g2 := g9.2 k hk; have g3 := HLT.out; have g4 := HS4.out; omega), g9.2⟩, ?_⟩ (by intro j hj h1 h2 h3; exfalso; revert j; decide)
        rw [blk_cell gB2, Array.getElem?_setIfInBounds, if_pos rfl, if_pos (by omega)]
      ·refine istep_w2 ⟨none, _, _, _, _, none⟩ rfl (fun a w' hf hC hn => (iwanted_no rfl)) (fun a W hf hk hC hn K hK => ?_)
       have g10 : a.eval (.tmp 95) = .pointer (some ⟨bs, 4, none⟩) := hn 10 (by decide)
       have g0 : a.eval (.tmp 85) = .slice ra nF rc := hn 0 (by decide)
       have gB := blk_tch hC HB4.out (fun h => h)
       refine w_stSMessage (.tmp 95) (.tmp 85) rfl rfl g10 g0 rfl ((blk_cell gB 4).trans rfl) (blk_free gB 4) (fun z => ?_)
       have tS := Tch.setCell (F := fun q => q = bs) W ⟨bs, 4, none⟩ (.slice ra nF rc) (fun _ => rfl)
       refine hK _ _ ⟨hC.no.trans tS (fun _ _ h => h), _, blk_set gB 4 _, by simp, by simp, fun i h4 h6 => by rw [Array.getElem?_setIfInBounds, if_neg (fun e => h4 e.symm)]⟩ trivial (fun j hj h1 h2 h3 x h => ?_)
       have hj9 : j = 9 := by clear h; revert j; decide
       subst hj9
       have h9 : OwnN w4 71 2 (ends.length + 1) ((ends.flatMap encEnd).take (k2 * 2) ++ (#[Value.int .i64 tid, .bool yes] : Array Value).toList ++ (ends.flatMap encEnd).drop (k2 * 2)) x W := h
       exact ⟨own_tch h9.1 tS (fun k hk e => by have g2 := h9.2 k hk; have g3 := HLT.out; have g4 := HS4.out; omega), h9.2⟩
      ·intro af wf hf hC hR
       obtain ⟨vs, hl, rfl⟩ := hf
       have hl : vs.length = 12 := hl
       obtain ⟨u0, vs0, hv0, hl⟩ := vs_cons hl
       obtain ⟨u1, vs1, hv1, hl⟩ := vs_cons hl
       obtain ⟨u2, vs2, hv2, hl⟩ := vs_cons hl
       obtain ⟨u3, vs3, hv3, hl⟩ := vs_cons hl
       obtain ⟨u4, vs4, hv4, hl⟩ := vs_cons hl
       obtain ⟨u5, vs5, hv5, hl⟩ := vs_cons hl
       obtain ⟨u6, vs6, hv6, hl⟩ := vs_cons hl
       obtain ⟨u7, vs7, hv7, hl⟩ := vs_cons hl
       obtain ⟨u8, vs8, hv8, hl⟩ := vs_cons hl
       obtain ⟨u9, vs9, hv9, hl⟩ := vs_cons hl
       obtain ⟨u10, vs10, hv10, hl⟩ := vs_cons hl
       obtain ⟨u11, vs11, hv11, hl⟩ := vs_cons hl
       have hvn := vs_nil hl
       have hvs : vs = [u0, u1, u2, u3, u4, u5, u6, u7, u8, u9, u10, u11] := by rw [hv0, hv1, hv2, hv3, hv4, hv5, hv6, hv7, hv8, hv9, hv10, hv11, hvn]
       clear hvn hl hv0 hv1 hv2 hv3 hv4 hv5 hv6 hv7 hv8 hv9 hv10 hv11
       subst hvs
       have hfr2 := hfr.out
       subst hfr2
       simp only [putAll, Act.put, List.setIfInBounds_toArray, List.set_cons_succ, List.set_cons_zero]
       have r13 : ∃ v, (OwnN w4 71 2 (ends.length + 1) ((ends.flatMap encEnd).take (k2 * 2) ++ (#[Value.int .i64 tid, .bool yes] : Array Value).toList ++ (ends.flatMap encEnd).drop (k2 * 2))) v wf /\ wf.cell? ⟨bs, 6, none⟩ = some v := hR 13 (by decide) (by decide)
       clear hR hlist hsz
       obtain ⟨vE, gE, g6⟩ := r13
       obtain ⟨hC1, cur, gB, gs, g4, gi⟩ := hC
       obtain ⟨va, vc, rfl, _, _⟩ := own_shape gE.1
       have hcur : cur = #[.int .i64 brk, .int .i64 nk, .int .i64 sk, .int .i64 tx, .slice ra nF rc, .slice wa waits.length wk, .slice va (ends.length + 1) vc, .slice oa opens.length oc, .slice na noes.length nc] := arr9 gs (fun i hi => by
        have hii : i = 0 ∨ i = 1 ∨ i = 2 ∨ i = 3 ∨ i = 4 ∨ i = 5 ∨ i = 6 ∨ i = 7 ∨ i = 8 := by omega
        rcases hii with rfl | rfl | rfl | rfl | rfl | rfl | rfl | rfl | rfl
        ·exact gi 0 (by decide) (by decide)
        ·exact gi 1 (by decide) (by decide)
        ·exact gi 2 (by decide) (by decide)
        ·exact gi 3 (by decide) (by decide)
        ·exact g4
        ·exact gi 5 (by decide) (by decide)
        ·rw [blk_cell gB] at g6; exact g6
        ·exact gi 7 (by decide) (by decide)
        ·exact gi 8 (by decide) (by decide))
       subst hcur
       have HBf : Hid (wf.heap[bs]? = some (.cells #[.int .i64 brk, .int .i64 nk, .int .i64 sk, .int .i64 tx, .slice ra nF rc, .slice wa waits.length wk, .slice va (ends.length + 1) vc, .slice oa opens.length oc, .slice na noes.length nc] 29 (0, 0))) := gB
       have Tf : Hid (Tch (fun q => q = bs) w4 wf) := hC1
       have HEr : Hid (OwnN w4 71 2 (ends.length + 1) ((ends.flatMap encEnd).take (k2 * 2) ++ (#[Value.int .i64 tid, .bool yes] : Array Value).toList ++ (ends.flatMap encEnd).drop (k2 * 2)) (.slice va (ends.length + 1) vc) wf) := gE
       have HTf := Lib.hid (blk_tch hC1 HT4.out (by have := HLT.out; show ¬ bt = bs; omega))
       have TWf : Hid (Tch No w wf) := TWA4.out.fresh hC1 (fun q h => by have := HLT.out; omega)
       clear gs g4 gi gB hC1 gE g6
       have hmb := HMB0.out
       have hcb := HG0.out.cb
       have hib := HG0.out.ib
       have hlb : prb.length = waits.length := by rw [<- hmb, List.length_map]
       have hslb : ∀ x ∈ prb, ∃ a n c, x.2 = .slice a n c := fun x hx => by
        obtain ⟨a, c, e, _⟩ := CellsAt.shape (hib x hx)
        exact ⟨a, _, c, e⟩
       have honb : Ones (prb.flatMap (encPr (fun q : BrM => q.tid))) := ones_pr (fun p hp => by obtain ⟨_, _, _, e⟩ := hslb p hp; rw [e]; rfl)
       have hcb0 : CellsAt w (.slice wa waits.length wk) waits.length 2 (prb.flatMap (encPr (fun q : BrM => q.tid))) := by rw [<- hlb]; rw [<- hlb] at hcb; exact hcb
       have hnw : waits.length <= 100000 := OK.out.nw
       have HClB := Lib.hid (clone_br (.slice wa waits.length wk) waits.length _ wf (hcb0.keep TWf.out) honb (by omega))
       have HDelB : Hid (∀ v W, Tch No wf W -> OwnN wf 95 2 waits.length (prb.flatMap (encPr (fun q : BrM => q.tid))) v W ->
         Calls Tryz.prog 225 #[v, .func (.func 226) #[] #[.pointer (some ⟨bt, 0, none⟩)]] W fun e w' => ∃ v', e = .returned v' /\ OwnN wf 95 2 (keptM (fun x : BrM × Value => decide (x.1.tid = tid)) prb).length ((keptM (fun x : BrM × Value => decide (x.1.tid = tid)) prb).flatMap (encPr (fun q : BrM => q.tid))) v' w' /\ Tch No wf w') := fun v W tW hW =>
        del_br wf _ _ (enters_of Tryz.func226 rfl rfl) (fun x => decide (x.1.tid = tid)) prb hslb (fun x hx W' t' => by
         obtain ⟨_, _, _, e⟩ := hslb x hx
         have := end1_any x.1.tid tid x.2 (by rw [e]; rfl) bt W' ((blk_cell (blk_tch t' HTf.out (fun h => h)) 0).trans rfl)
         rw [beq_dec] at this
         exact this) v W tW (by rw [hlb]; exact hW) (by omega)
       have hmo := HMO0.out
       have hco := HG0.out.co
       have hio := HG0.out.io
       have hlo : pro.length = opens.length := by rw [<- hmo, List.length_map]
       have hnO : opens.length <= 100000 := OK.out.no
       have HOwn : Hid (∀ W, Tch No w W -> Calls Tryz.prog 182 #[.slice oa opens.length oc, .int .i64 tid] W fun e w' => ∃ v', e = .returned v' /\ OwnN W 75 2 (keptM (fun x : PendM × Value => decide (x.1.tid = tid)) pro).length ((keptM (fun x : PendM × Value => decide (x.1.tid = tid)) pro).flatMap (encPr (fun q : PendM => q.tid))) v' w' /\ Tch No W w') := fun W t =>
        swithout_own pro (by omega) tid _ W (hco.keep t) (fun x hx => by
         obtain ⟨a, c, e, _⟩ := CellsAt.shape (hio x hx)
         exact ⟨a, _, c, e⟩)
       have HMB := Lib.hid hmb
       have HIB := Lib.hid hib
       have HMO := Lib.hid hmo
       have HIO := Lib.hid hio
       clear hmb hcb hib hlb hslb honb hcb0 hmo hco hio hlo
       have b5 : wf.cell? ⟨bs, 5, none⟩ = some (.slice wa waits.length wk) := (blk_cell HBf.out 5).trans rfl
       go_wp2_with fail
       refine HClB.out.mono ?_
       rintro e w5 ⟨a5, c5, rfl, O5, T5, _⟩
       have OO5 := Lib.hid O5
       have TT5 := Lib.hid T5
       clear O5 T5 b5
       go_wp2_with fail
       refine (HDelB.out _ w5 TT5.out OO5.out).mono ?_
       rintro e w6 ⟨v6, rfl, O6, T6⟩
       obtain ⟨a6, n6, c6, rfl, hn6⟩ := own_shape' O6.1
       have B6' := Lib.hid (blk_tch T6 HBf.out (fun h => h))
       have z5 : w6.cell? ⟨bs, 5, none⟩ = some (.slice wa waits.length wk) := (blk_cell B6'.out 5).trans rfl
       have f5 := blk_free B6'.out 5
       obtain ⟨w7, hw7⟩ : ∃ x, w6.setCell ⟨bs, 5, none⟩ (.slice a6 n6 c6) = x := ⟨_, rfl⟩
       have tS7 : Tch (fun q => q = bs) w6 w7 := by rw [<- hw7]; exact Tch.setCell (F := fun q => q = bs) _ _ _ (fun _ => rfl)
       have HB7 : Hid (w7.heap[bs]? = some (.cells #[.int .i64 brk, .int .i64 nk, .int .i64 sk, .int .i64 tx, .slice ra nF rc, .slice a6 n6 c6, .slice va (ends.length + 1) vc, .slice oa opens.length oc, .slice na noes.length nc] 29 (0, 0))) := by rw [Hid, <- hw7]; exact blk_set B6'.out 5 _
       have HT7 := Lib.hid (blk_tch tS7 (blk_tch T6 HTf.out (fun h => h)) (by have := HLT.out; show ¬ bt = bs; omega))
       have T7 : Hid (Tch (fun q => q = bs) w4 w7) := (Tf.out.trans0 T6).trans tS7 (fun _ _ h => h)
       have TW7 : Hid (Tch No w w7) := (TWf.out.trans0 T6).fresh tS7 (fun q h => by have := HLT.out; omega)
       have HSf : Hid (w1.heap.size <= wf.heap.size) := Nat.le_trans HS4.out Tf.out.size
       have O7 : Hid (OwnN wf 95 2 (keptM (fun x : BrM × Value => decide (x.1.tid = tid)) prb).length ((keptM (fun x : BrM × Value => decide (x.1.tid = tid)) prb).flatMap (encPr (fun q : BrM => q.tid))) (.slice a6 n6 c6) w7) := ⟨own_tch O6.1 tS7 (fun k hk e => by have g2 := O6.2 k hk; have g3 := HLT.out; have g4 := HSf.out; omega), O6.2⟩
       have b7 : w7.cell? ⟨bs, 7, none⟩ = some (.slice oa opens.length oc) := (blk_cell HB7.out 7).trans rfl
       have t7 : w7.cell? ⟨bt, 0, none⟩ = some (.int .i64 tid) := (blk_cell HT7.out 0).trans rfl
       have T6f : Hid (Tch (fun q => q = bs) wf w7) := T6.no.trans tS7 (fun _ _ h => h)
       have hn6' := hn6
       clear O6 T6 hn6
       go_wp2_with fail
       refine (HOwn.out w7 TW7.out).mono ?_
       rintro e w8 ⟨v8, rfl, O8, T8⟩
       obtain ⟨a8, n8, c8, rfl, hn8⟩ := own_shape' O8.1
       have B8 := Lib.hid (blk_tch T8 HB7.out (fun h => h))
       have z7 : w8.cell? ⟨bs, 7, none⟩ = some (.slice oa opens.length oc) := (blk_cell B8.out 7).trans rfl
       have f7 := blk_free B8.out 7
       obtain ⟨w9, hw9⟩ : ∃ x, w8.setCell ⟨bs, 7, none⟩ (.slice a8 n8 c8) = x := ⟨_, rfl⟩
       have tS9 : Tch (fun q => q = bs) w8 w9 := by rw [<- hw9]; exact Tch.setCell (F := fun q => q = bs) _ _ _ (fun _ => rfl)
       have HB9 : Hid (w9.heap[bs]? = some (.cells #[.int .i64 brk, .int .i64 nk, .int .i64 sk, .int .i64 tx, .slice ra nF rc, .slice a6 n6 c6, .slice va (ends.length + 1) vc, .slice a8 n8 c8, .slice na noes.length nc] 29 (0, 0))) := by rw [Hid, <- hw9]; exact blk_set B8.out 7 _
       have T9 : Hid (Tch (fun q => q = bs) w7 w9) := T8.no.trans tS9 (fun _ _ h => h)
       have HR9 := Lib.hid (blk_tch (T7.out.trans T9.out (fun _ _ h => h)) HR4.out (by have := HLT.out; show ¬ br = bs; omega))
       have HS7 : Hid (w1.heap.size <= w7.heap.size) := Nat.le_trans HS4.out T7.out.size
       have O9 : Hid (OwnN w7 75 2 (keptM (fun x : PendM × Value => decide (x.1.tid = tid)) pro).length ((keptM (fun x : PendM × Value => decide (x.1.tid = tid)) pro).flatMap (encPr (fun q : PendM => q.tid))) (.slice a8 n8 c8) w9) := ⟨own_tch O8.1 tS9 (fun k hk e => by have g2 := O8.2 k hk; have g3 := HLT.out; have g4 := HS7.out; omega), O8.2⟩
       have HBRE : Hid (br = bt + 1) := by have := HLT.out; show br = bt + 1; omega
       obtain ⟨w10, hw10, HR10, T10⟩ := kx9 (W := w9) (b := br) (T := 29) (.int .i64 brk) (.int .i64 nk) (.int .i64 sk) (.int .i64 tx) (.slice ra nF rc) (.slice a6 n6 c6) (.slice va (ends.length + 1) vc) (.slice a8 n8 c8) (.slice na noes.length nc) HR9.out
       rw [HBRE.out] at hw10
       obtain ⟨l0, l1, l2, l3, l4, l5, l6, l7, l8⟩ := kc9 HB9.out
       obtain ⟨r0, r1, r2, r3, r4, r5, r6, r7, r8⟩ := kc9 (W := w9) (b := bt + 1) (by rw [<- HBRE.out]; exact HR9.out)
       obtain ⟨fr0, fr1, fr2, fr3, fr4, fr5, fr6, fr7, fr8⟩ := kf9 (W := w9) (b := bt + 1) (by rw [<- HBRE.out]; exact HR9.out)
       have HN6 : Hid (n6 = (keptM (fun x : BrM × Value => decide (x.1.tid = tid)) prb).length) := hn6'
       have HN8 : Hid (n8 = (keptM (fun x : PendM × Value => decide (x.1.tid = tid)) pro).length) := hn8
       clear O8 T8 hn8 hn6'
       go_wp2_with fail
       obtain ⟨q0, q1, q2, q3, q4, q5, q6, q7, q8⟩ := kc9 (W := w10) (b := bt + 1) (by rw [<- HBRE.out]; exact HR10.out)
       refine bodyPost_ret (v := .agg #[.int .i64 brk, .int .i64 nk, .int .i64 sk, .int .i64 tx, .slice ra nF rc, .slice a6 n6 c6, .slice va (ends.length + 1) vc, .slice a8 n8 c8, .slice na noes.length nc]) (by simp [results, Tryz.results174, go_sem, q0, q1, q2, q3, q4, q5, q6, q7, q8]) rfl ?_
       have tA0 : Tch (fun q => q = bs ∨ q = br) w4 w10 := (((T7.out.mono (fun _ _ h => .inl h)).trans (T9.out.mono (F := fun q => q = bs) (G := fun q => q = bs ∨ q = br) (fun _ _ h => .inl h)) (fun _ _ h => h)).trans (T10.out.mono (F := fun q => q = br) (G := fun q => q = bs ∨ q = br) (fun _ _ h => .inr h)) (fun _ _ h => h))
       have g := HLT.out
       have tWE : Tch No WE w10 := ((TV1.out.fresh TW.out (fun q h => by omega)).trans0 TW4.out).fresh tA0 (fun q h => by omega)
       refine ⟨_, rfl, ⟨_, _, _, _, _, keptM (fun x : BrM × Value => decide (x.1.tid = tid)) prb, keptM (fun x : PendM × Value => decide (x.1.tid = tid)) pro, prn, by
        show _ = _
        have e1 := HNK.out
        have e2 := HNP2.out.1
        have e3 := HPE.out
        simp only [endM]
        rw [<- e3, e2, e1.1, e1.2], by rw [map_kept (fun x : BrM => decide (x.tid = tid)), HMB.out]; rfl, by rw [map_kept (fun x : PendM => decide (x.tid = tid)), HMO.out]; rfl, HMN0.out, fun W2 t2 => ?_⟩, ⟨_, _, _, _, _, _, _, _, _, _, _, _, _, _, _, _, _, rfl, rfl⟩, tWE⟩
       have hzw := HSZW.out
       have gst := HST.out W2 (tWE.no.trans t2 (fun i hi h => h.1))
       have t2' : Tch (fun q => q = bs ∨ q = br ∨ (q < bs)) w10 W2 := t2.mono (fun q _ h => by have := h.2; omega)
       have tA : Tch (fun q => q = bs ∨ q = br ∨ (q < bs)) w4 W2 := (tA0.mono (G := fun q => q = bs ∨ q = br ∨ (q < bs)) (fun q _ h => by omega)).trans t2' (fun _ _ h => h)
       have t79 : Tch (fun q => q = bs ∨ q = br ∨ (q < bs)) w7 W2 := ((T9.out.mono (F := fun q => q = bs) (G := fun q => q = bs ∨ q = br ∨ (q < bs)) (fun q _ h => by omega)).trans (T10.out.mono (F := fun q => q = br) (G := fun q => q = bs ∨ q = br ∨ (q < bs)) (fun q _ h => by omega)) (fun _ _ h => h)).trans t2' (fun _ _ h => h)
       have t9a : Tch (fun q => q = bs ∨ q = br ∨ (q < bs)) w9 W2 := (T10.out.mono (F := fun q => q = br) (G := fun q => q = bs ∨ q = br ∨ (q < bs)) (fun q _ h => by omega)).trans t2' (fun _ _ h => h)
       refine ⟨?_, ?_, fun p hp => gst.ib p (List.mem_filter.1 hp).1, ?_, ?_, fun p hp => gst.io p (List.mem_filter.1 hp).1, gst.cn, gst.inn⟩
       ·have h1 := own_tch HO4.out.1 tA (fun q hq e => by have g2 := HO4.out.2 q hq; omega)
        have h2 : fm = (endM ⟨brk, nid, nseq, tx, ms, waits, ends, opens, noes⟩ tid yes puts).ms := by
         simp only [endM]
         rw [<- HPE.out, HFM.out]
        have h3 : nF = fm.length := by
         have e1 := h1.1
         rw [flat_len encMsg 6 (fun _ => rfl)] at e1
         omega
        rw [<- h2]
        unfold IsMsgs
        rw [<- h3]
        exact CellsAt.ofRow h1
       ·have h1 := own_tch O7.out.1 t79 (fun q hq e => by have g2 := O7.out.2 q hq; have g4 := HSf.out; omega)
        have e6 := HN6.out
        subst e6
        exact CellsAt.ofRow h1
       ·have h1 := own_tch HEr.out.1 ((T6f.out.mono (G := fun q => q = bs ∨ q = br ∨ (q < bs)) (fun q _ h => by omega)).trans t79 (fun _ _ h => h)) (fun q hq e => by have g2 := HEr.out.2 q hq; have g4 := HS4.out; omega)
        have h2 : (endM ⟨brk, nid, nseq, tx, ms, waits, ends, opens, noes⟩ tid yes puts).ends = ends.take k2 ++ ⟨tid, yes⟩ :: ends.drop k2 := by
         simp only [endM]
         rw [insP_eq]
         have e1 := HK2.out.1
         simp only [e1]
        rw [h2]
        unfold IsEnds
        rw [len_ins2, List.flatMap_append, List.flatMap_cons]
        rw [flat_take (m := 2) (fun _ => rfl), flat_drop (m := 2) (fun _ => rfl), List.append_assoc] at h1
        exact CellsAt.ofRow h1
       ·have h1 := own_tch O9.out.1 t9a (fun q hq e => by have g2 := O9.out.2 q hq; have g4 := HS7.out; omega)
        have e8 := HN8.out
        subst e8
        exact CellsAt.ofRow h1
end
end Go.Proofs.YtafndmnbnmlklaaGreat
