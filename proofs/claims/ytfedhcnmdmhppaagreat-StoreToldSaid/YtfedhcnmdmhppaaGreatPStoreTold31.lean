/- Part 31 of what the proof of StoreTold rests on. No condition. -/
import Derived.StillTailTactics
import Derived.Test.YtfedhcnmdmhppaaGreatPStoreTold30
namespace Go.Proofs.YtfedhcnmdmhppaaGreat
set_option maxRecDepth 100000
set_option maxHeartbeats 60000000
set_option linter.unusedVariables false
set_option linter.unusedSimpArgs false
section
open Go.RowKit Go.Maps
theorem find_pos {α : Type} {f : α -> Int} {l : List α} (hs : strictB (l.map f) = true) {t : Int} (h : hasP f l t = true) : ∃ hlt : posP f l t < l.length, l.find? (fun x => decide (f x = t)) = some l[posP f l t] := by
 obtain ⟨h1, h2⟩ := (hasP_pos hs t).1 h
 refine ⟨h1, ?_⟩
 rw [List.find?_eq_some_iff_getElem]
 refine ⟨by simpa using h2, posP f l t, h1, rfl, fun j hj => ?_⟩
 have := strictB_get hs (i := j) (j := posP f l t) hj (by simpa using h1)
 simp only [List.getElem_map] at this
 simp
 omega
theorem sapply5 (s : StM) (r : RecM) (hk : r.kind = 5) (ok : AplOk s r) (hf : hasP (·.tid) s.ends r.tid = false) (hin : hasP (·.tid) s.waits r.tid = true) (G : Nat -> Prop) (v vr : Value) (WE : World) (h0 : StW (Tch G WE) v s) (hr0 : RecW (Tch G WE) vr r) :
  Calls Tryz.prog 85 #[v, vr] WE (AplPost G WE (doM s r)) := by
 obtain ⟨w, hwe⟩ : ∃ x, x = WE := ⟨_, rfl⟩
 have te : Tch No w WE := by rw [hwe]; exact Tch.refl _ _
 have HWE := Lib.hid hwe
 obtain ⟨vm, vw, ve, vo, vn, prb, pro, prn, rfl, hmb, hmo, hmn, hst⟩ := h0
 have g0 := hst w (by rw [hwe]; exact Tch.refl _ _)
 have hm := g0.ms
 have hw := brs_pairs.2 ⟨prb, hmb, g0.cb, g0.ib⟩
 have he := g0.en
 have ho := pends_pairs.2 ⟨pro, hmo, g0.co, g0.io⟩
 have hno := pends_pairs.2 ⟨prn, hmn, g0.cn, g0.inn⟩
 obtain ⟨ma, mc, rfl, _, _⟩ := CellsAt.shape hm
 obtain ⟨wa, wk, rfl, _, _⟩ := hw.shape
 obtain ⟨ea, ec, rfl, _, _⟩ := CellsAt.shape he
 obtain ⟨oa, oc, rfl, _, _⟩ := ho.shape
 obtain ⟨na, nc, rfl, _, _⟩ := hno.shape
 obtain ⟨vp, vu, rfl, hpu⟩ := hr0
 obtain ⟨hp, hu⟩ := hpu w (by rw [hwe]; exact Tch.refl _ _)
 obtain ⟨qa, qc, rfl, _, _⟩ := CellsAt.shape hp
 obtain ⟨ua, uc, rfl, _, _⟩ := CellsAt.shape hu
 have OK := Lib.hid ok
 have HM := Lib.hid hm
 have HW := Lib.hid hw
 have HE := Lib.hid he
 have HO := Lib.hid ho
 have HNO := Lib.hid hno
 have HP := Lib.hid hp
 have HU := Lib.hid hu
 have TE := Lib.hid te
 have HST := Lib.hid hst
 have HG0 := Lib.hid g0
 have HMB0 := Lib.hid hmb
 have HMO0 := Lib.hid hmo
 have HMN0 := Lib.hid hmn
 have HPU0 := Lib.hid hpu
 have HSZW : Hid (w.heap.size = WE.heap.size) := by rw [Hid, hwe]
 clear hst g0 hmb hmo hmn hpu hwe
 obtain ⟨brk, nid, nseq, tx, ms, waits, ends, opens, noes⟩ := s
 obtain ⟨kd, tid, rid, yes, parts, puts⟩ := r
 simp only at hk HM HW HE HO HNO HP HU HMB0 HMO0 HMN0 HPU0 hf hin ⊢
 subst hk
 clear hm hw he ho hno hp hu ok
 obtain ⟨bs, hbs⟩ : ∃ x, WE.heap.size = x := ⟨_, rfl⟩
 obtain ⟨bq, hbq⟩ : ∃ x, (WE.alloc (.cells #[.int .i64 brk, .int .i64 nid, .int .i64 nseq, .int .i64 tx, .slice ma ms.length mc, .slice wa waits.length wk, .slice ea ends.length ec, .slice oa opens.length oc, .slice na noes.length nc] 27)).heap.size = x := ⟨_, rfl⟩
 obtain ⟨w1, hw1⟩ : ∃ x, ((WE.alloc (.cells #[.int .i64 brk, .int .i64 nid, .int .i64 nseq, .int .i64 tx, .slice ma ms.length mc, .slice wa waits.length wk, .slice ea ends.length ec, .slice oa opens.length oc, .slice na noes.length nc] 27)).alloc (.cells #[.int .i64 5, .int .i64 tid, .int .i64 rid, .bool yes, .slice qa parts.length qc, .slice ua puts.length uc] 37)).alloc (.cells #[.int .i64 0, .int .i64 0, .int .i64 0, .int .i64 0, .slice none 0 0, .slice none 0 0, .slice none 0 0, .slice none 0 0, .slice none 0 0] 27) = x := ⟨_, rfl⟩
 obtain ⟨bz, hbz⟩ : ∃ x, x = bq + 1 := ⟨_, rfl⟩
 have HB1 : Hid (w1.heap[bs]? = some (.cells #[.int .i64 brk, .int .i64 nid, .int .i64 nseq, .int .i64 tx, .slice ma ms.length mc, .slice wa waits.length wk, .slice ea ends.length ec, .slice oa opens.length oc, .slice na noes.length nc] 27 (0, 0))) := by
  rw [Hid, <- hw1, <- hbs]
  exact blk_tch ((Tch.alloc _ _).trans0 (Tch.alloc _ _)) (blk_new WE _) (fun h => h)
 have HQ1 : Hid (w1.heap[bq]? = some (.cells #[.int .i64 5, .int .i64 tid, .int .i64 rid, .bool yes, .slice qa parts.length qc, .slice ua puts.length uc] 37 (0, 0))) := by
  rw [Hid, <- hw1, <- hbq]
  exact blk_tch (Tch.alloc _ _) (blk_new _ _) (fun h => h)
 have HZ1 : Hid (w1.heap[bz]? = some (.cells #[.int .i64 0, .int .i64 0, .int .i64 0, .int .i64 0, .slice none 0 0, .slice none 0 0, .slice none 0 0, .slice none 0 0, .slice none 0 0] 27 (0, 0))) := by
  rw [Hid, <- hw1, hbz, <- hbq]
  have := blk_new ((WE.alloc (.cells #[.int .i64 brk, .int .i64 nid, .int .i64 nseq, .int .i64 tx, .slice ma ms.length mc, .slice wa waits.length wk, .slice ea ends.length ec, .slice oa opens.length oc, .slice na noes.length nc] 27)).alloc (.cells #[.int .i64 5, .int .i64 tid, .int .i64 rid, .bool yes, .slice qa parts.length qc, .slice ua puts.length uc] 37)) (.cells #[.int .i64 0, .int .i64 0, .int .i64 0, .int .i64 0, .slice none 0 0, .slice none 0 0, .slice none 0 0, .slice none 0 0, .slice none 0 0] 27)
  have e : ((WE.alloc (.cells #[.int .i64 brk, .int .i64 nid, .int .i64 nseq, .int .i64 tx, .slice ma ms.length mc, .slice wa waits.length wk, .slice ea ends.length ec, .slice oa opens.length oc, .slice na noes.length nc] 27)).alloc (.cells #[.int .i64 5, .int .i64 tid, .int .i64 rid, .bool yes, .slice qa parts.length qc, .slice ua puts.length uc] 37)).heap.size = (WE.alloc (.cells #[.int .i64 brk, .int .i64 nid, .int .i64 nseq, .int .i64 tx, .slice ma ms.length mc, .slice wa waits.length wk, .slice ea ends.length ec, .slice oa opens.length oc, .slice na noes.length nc] 27)).heap.size + 1 := by simp
  rwa [e] at this
 have TV1 : Hid (Tch No WE w1) := by rw [Hid, <- hw1]; exact ((Tch.alloc _ _).trans0 (Tch.alloc _ _)).trans0 (Tch.alloc _ _)
 have TW1 : Hid (Tch No w w1) := te.trans0 TV1.out
 have HLT : Hid (w.heap.size <= bs /\ WE.heap.size = bs /\ bq = bs + 1 /\ bz = bs + 2 /\ w1.heap.size = bs + 3) := by
  have e1 : bq = bs + 1 := by rw [<- hbq, <- hbs]; simp
  refine ⟨by rw [<- hbs]; exact te.size, hbs, e1, by omega, ?_⟩
  rw [<- hw1, <- hbs]; simp
 have HBZ := Lib.hid hbz
 clear hbz
 obtain ⟨b0, b1, b2, b3, b4, b5, b6, b7, b8⟩ := kc9 HB1.out
 obtain ⟨c0, c1, c2, c3, c4, c5⟩ := kc6 HQ1.out
 obtain ⟨hlt0, hfind⟩ := find_pos OK.out.risew hin
 simp only at hlt0 hfind
 have hnW : waits.length <= 100000 := OK.out.nw
 have HWA := Lib.hid (waits_any waits OK.out.risew (by omega) tid (.slice wa waits.length wk) w1 (HW.out.keep TW1.out))
 have hmb := HMB0.out
 have hcb := HG0.out.cb
 have hib := HG0.out.ib
 have hlb : prb.length = waits.length := by rw [<- hmb, List.length_map]
 obtain ⟨k2, hk2⟩ : ∃ k, posP (fun x : BrM => x.tid) waits tid = k := ⟨_, rfl⟩
 rw [hk2] at HWA
 simp only [hk2] at hlt0 hfind
 have hbr : (prb[k2]'(by omega)).1 = waits[k2] := by
  have e : (prb.map Prod.fst)[k2]'(by rw [List.length_map]; omega) = waits[k2] := by simp only [hmb]
  rw [<- e, List.getElem_map]
 obtain ⟨pv, hpv⟩ : ∃ x, (prb[k2]'(by omega)).2 = x := ⟨_, rfl⟩
 have hpu : IsPuts w pv waits[k2].puts := by rw [<- hpv, <- hbr]; exact hib _ (List.getElem_mem _)
 obtain ⟨pl, hpl⟩ : ∃ x, waits[k2].puts = x := ⟨_, rfl⟩
 have hpln : pl.length <= 100000 := by rw [<- hpl]; exact OK.out.wputs _ (List.getElem_mem hlt0)
 rw [hpl] at hpu
 obtain ⟨pa, pc, rfl, _, _⟩ := CellsAt.shape hpu
 have HPU := Lib.hid hpu
 have HPW : Hid (∀ X, Tch G WE X -> IsPuts X (.slice pa pl.length pc) pl) := fun X t => by
  have h9 := (HST.out X t).ib _ (List.getElem_mem (show k2 < prb.length by omega))
  rw [hbr, hpv, hpl] at h9
  exact h9
 have hex : ∃ b o, wa = some ⟨b, o, none⟩ /\ w.cell? ⟨b, o + k2 * 2 + 1, none⟩ = some (.slice pa pl.length pc) := by
  have hcb' := hcb
  unfold IsL at hcb'
  rw [hlb] at hcb'
  rcases hcb'.2 with ⟨h1, h0⟩ | ⟨b, o, cap2, h1, _, _, _, h5⟩
  ·omega
  ·injection h1 with h1 _ _
   refine ⟨b, o, h1, ?_⟩
   have := h5 (k2 * 2 + 1) (.slice pa pl.length pc) (by
    rw [flat_get (encPr (fun q : BrM => q.tid)) 2 (fun _ => rfl) prb k2 1 (by omega) (by decide), <- hpv]; rfl)
   rwa [<- Nat.add_assoc] at this
 obtain ⟨b, o, rfl, hcell⟩ := hex
 have HCELL : Hid (∀ W, Tch No w W -> W.cell? ⟨b, o + k2 * 2 + 1, none⟩ = some (.slice pa pl.length pc)) := fun W t => t.cell hcell (fun h => h)
 have HFND : Hid (((waits.find? (fun w => decide (w.tid = tid))).map (·.puts)).getD [] = pl) := by rw [Hid, hfind]; exact hpl
 have HLT2 : Hid (k2 < waits.length) := hlt0
 have HEND := Lib.hid (fun W (tw : Tch No w W) => send_any (fun k => G k ∨ WE.heap.size <= k) ⟨brk, nid, nseq, tx, ms, waits, ends, opens, noes⟩ tid yes pl (OK.out.endOk hf pl hpln) (.agg #[.int .i64 brk, .int .i64 nid, .int .i64 nseq, .int .i64 tx, .slice ma ms.length mc, .slice (some ⟨b, o, none⟩) waits.length wk, .slice ea ends.length ec, .slice oa opens.length oc, .slice na noes.length nc]) (.slice pa pl.length pc) W ⟨_, _, _, _, _, prb, pro, prn, rfl, HMB0.out, HMO0.out, HMN0.out, fun X t => HST.out X (tch_we HWE.out tw t)⟩ (fun X t => HPW.out X (tch_we HWE.out tw t)))
 clear hf hin hmb hcb hib hlb hbr hpv hpu hpl hcell hfind hk2
 go_enter Tryz.func85, Tryz.ntmps85
 go_wp2_with fail
 clear hbs hbq hw1 te
 refine HWA.out.mono ?_
 rintro e w3 ⟨rfl, T3⟩
 have TT3 : Hid (Tch No w1 w3) := T3
 have TW3 : Hid (Tch No w w3) := TW1.out.trans0 T3
 have HB3 := Lib.hid (blk_tch T3 HB1.out (fun h => h))
 have HQ3 := Lib.hid (blk_tch T3 HQ1.out (fun h => h))
 have HZ3 := Lib.hid (blk_tch T3 HZ1.out (fun h => h))
 obtain ⟨d0, d1, d2, d3, d4, d5, d6, d7, d8⟩ := kc9 HB3.out
 have g1 : w3.cell? ⟨bq, 1, none⟩ = some (.int .i64 tid) := (blk_cell HQ3.out 1).trans rfl
 have g3 : w3.cell? ⟨bq, 3, none⟩ = some (.bool yes) := (blk_cell HQ3.out 3).trans rfl
 have e1 : w3.cell? ⟨b, o + k2 * 2 + 1, none⟩ = some (.slice pa pl.length pc) := HCELL.out _ TW3.out
 have hk2n : (k2 : Int) < (waits.length : Int) := by have := HLT2.out; omega
 have hk2m : k2 < waits.length := HLT2.out
 clear T3
 go_upto_region 14 with fail
 go_still_tail 11, (by kernel_rfl)
 change wpList _ _ _ _ _ (World.drew w3)
 have HBd : Hid ((World.drew w3).heap[bs]? = some (.cells #[.int .i64 brk, .int .i64 nid, .int .i64 nseq, .int .i64 tx, .slice ma ms.length mc, .slice (some ⟨b, o, none⟩) waits.length wk, .slice ea ends.length ec, .slice oa opens.length oc, .slice na noes.length nc] 27 (0, 0))) := HB3.out
 have HQd : Hid ((World.drew w3).heap[bq]? = some (.cells #[.int .i64 5, .int .i64 tid, .int .i64 rid, .bool yes, .slice qa parts.length qc, .slice ua puts.length uc] 37 (0, 0))) := HQ3.out
 have HZd : Hid ((World.drew w3).heap[bz]? = some (.cells #[.int .i64 0, .int .i64 0, .int .i64 0, .int .i64 0, .slice none 0 0, .slice none 0 0, .slice none 0 0, .slice none 0 0, .slice none 0 0] 27 (0, 0))) := HZ3.out
 go_wp2_with fail
 refine (HEND.out _ (TW3.out.trans0 (Tch.drew w3))).mono ?_
 rintro e w5 ⟨v', rfl, h5, hz, T5⟩
 obtain ⟨e0, e1, e2, e3, am, nm, cm, aw, nw, cw, ae, ne, ce, ao, no, co, rfl⟩ : ∃ e0 e1 e2 e3 am nm cm aw nw cw ae ne ce ao no co, v' = .agg #[.int .i64 e0, .int .i64 e1, .int .i64 e2, .int .i64 e3, .slice am nm cm, .slice aw nw cw, .slice ae ne ce, .slice ao no co, .slice na noes.length nc] := by
  obtain ⟨x0, x1, x2, x3, x4, x5, x6, x7, y0, y1, y2, y3, y4, y5, y6, y7, z, hz1, hz2⟩ := hz
  obtain ⟨am, cm, aw, cw, ae, ce, ao, co, an, cn, hv⟩ := (h5.is (Tch.refl _ _)).vals
  have hzn : z = .slice na noes.length nc := by
   injection hz1 with hz1; injection hz1 with hz1
   simp only [List.cons.injEq, and_true] at hz1
   exact hz1.2.2.2.2.2.2.2.2.symm
  have hzm := hz2.symm.trans hv
  injection hzm with hzm; injection hzm with hzm
  simp only [List.cons.injEq, and_true] at hzm
  rw [<- hzm.2.2.2.2.2.2.2.2, hzn] at hv
  exact ⟨_, _, _, _, am, _, cm, aw, _, cw, ae, _, ce, ao, _, co, hv⟩
 have H5 := Lib.hid h5
 have TT5 : Hid (Tch No (World.drew w3) w5) := T5
 clear h5 T5 hz
 have HB5 := Lib.hid (blk_tch TT5.out HBd.out (fun h => h))
 have HQ5 := Lib.hid (blk_tch TT5.out HQd.out (fun h => h))
 have HZ5 := Lib.hid (blk_tch TT5.out HZd.out (fun h => h))
 obtain ⟨w6, hw6, HB6, T6⟩ : ∃ W, (((((((((w5.setCell ⟨bs, 0, none⟩ (.int .i64 e0)).setCell ⟨bs, 1, none⟩ (.int .i64 e1)).setCell ⟨bs, 2, none⟩ (.int .i64 e2)).setCell ⟨bs, 3, none⟩ (.int .i64 e3)).setCell ⟨bs, 4, none⟩ (.slice am nm cm)).setCell ⟨bs, 5, none⟩ (.slice aw nw cw)).setCell ⟨bs, 6, none⟩ (.slice ae ne ce)).setCell ⟨bs, 7, none⟩ (.slice ao no co)).setCell ⟨bs, 8, none⟩ (.slice na noes.length nc)) = W /\ Hid (W.heap[bs]? = some (.cells #[.int .i64 e0, .int .i64 e1, .int .i64 e2, .int .i64 e3, .slice am nm cm, .slice aw nw cw, .slice ae ne ce, .slice ao no co, .slice na noes.length nc] 27 (0, 0))) /\ Hid (Tch (fun q => q = bs) w5 W) := by
  obtain ⟨g1, g2⟩ := set9e (W := w5) (b := bs) (T := 27) (.int .i64 e0) (.int .i64 e1) (.int .i64 e2) (.int .i64 e3) (.slice am nm cm) (.slice aw nw cw) (.slice ae ne ce) (.slice ao no co) (.slice na noes.length nc) HB5.out
  exact ⟨_, rfl, g1, g2⟩
 have HQ6 := Lib.hid (blk_tch T6.out HQ5.out (by have := HLT.out; show ¬ bq = bs; omega))
 have HZ6 := Lib.hid (blk_tch T6.out HZ5.out (by have := HLT.out; show ¬ bz = bs; omega))
 have z0 : w5.cell? ⟨bs, 0, none⟩ = some (.int .i64 brk) := (blk_cell HB5.out 0).trans rfl
 have zf0 := blk_free HB5.out 0
 have z1 : w5.cell? ⟨bs, 1, none⟩ = some (.int .i64 nid) := (blk_cell HB5.out 1).trans rfl
 have zf1 := blk_free HB5.out 1
 have z2 : w5.cell? ⟨bs, 2, none⟩ = some (.int .i64 nseq) := (blk_cell HB5.out 2).trans rfl
 have zf2 := blk_free HB5.out 2
 have z3 : w5.cell? ⟨bs, 3, none⟩ = some (.int .i64 tx) := (blk_cell HB5.out 3).trans rfl
 have zf3 := blk_free HB5.out 3
 have z4 : w5.cell? ⟨bs, 4, none⟩ = some (.slice ma ms.length mc) := (blk_cell HB5.out 4).trans rfl
 have zf4 := blk_free HB5.out 4
 have z5 : w5.cell? ⟨bs, 5, none⟩ = some (.slice (some ⟨b, o, none⟩) waits.length wk) := (blk_cell HB5.out 5).trans rfl
 have zf5 := blk_free HB5.out 5
 have z6 : w5.cell? ⟨bs, 6, none⟩ = some (.slice ea ends.length ec) := (blk_cell HB5.out 6).trans rfl
 have zf6 := blk_free HB5.out 6
 have z7 : w5.cell? ⟨bs, 7, none⟩ = some (.slice oa opens.length oc) := (blk_cell HB5.out 7).trans rfl
 have zf7 := blk_free HB5.out 7
 have z8 : w5.cell? ⟨bs, 8, none⟩ = some (.slice na noes.length nc) := (blk_cell HB5.out 8).trans rfl
 have zf8 := blk_free HB5.out 8
 have HBX := HB6
 have HZX := HZ6
 obtain ⟨wz, hwz, HRZ, TZ⟩ := kx9 (W := w6) (b := bz) (T := 27) (.int .i64 e0) (.int .i64 e1) (.int .i64 e2) (.int .i64 e3) (.slice am nm cm) (.slice aw nw cw) (.slice ae ne ce) (.slice ao no co) (.slice na noes.length nc) HZX.out
 rw [HBZ.out] at hwz
 obtain ⟨l0, l1, l2, l3, l4, l5, l6, l7, l8⟩ := kc9 HBX.out
 obtain ⟨r0, r1, r2, r3, r4, r5, r6, r7, r8⟩ := kc9 (W := w6) (b := bq + 1) (by rw [<- HBZ.out]; exact HZX.out)
 obtain ⟨fr0, fr1, fr2, fr3, fr4, fr5, fr6, fr7, fr8⟩ := kf9 (W := w6) (b := bq + 1) (by rw [<- HBZ.out]; exact HZX.out)
 go_wp2_with fail
 obtain ⟨q0, q1, q2, q3, q4, q5, q6, q7, q8⟩ := kc9 (W := wz) (b := bq + 1) (by rw [<- HBZ.out]; exact HRZ.out)
 refine bodyPost_ret (v := .agg #[.int .i64 e0, .int .i64 e1, .int .i64 e2, .int .i64 e3, .slice am nm cm, .slice aw nw cw, .slice ae ne ce, .slice ao no co, .slice na noes.length nc]) (by simp [results, Tryz.results85, go_sem, q0, q1, q2, q3, q4, q5, q6, q7, q8]) rfl ?_
 have glt := HLT.out
 have tX : Tch (fun q => q = bs) w1 w6 := (((TT3.out.trans0 (Tch.drew w3)).trans0 TT5.out).no).trans T6.out (fun _ _ h => h)
 have tz1 : Tch (fun q => q = bs ∨ q = bz) w1 wz := (tX.mono (G := fun q => q = bs ∨ q = bz) (fun _ _ h => .inl h)).trans (TZ.out.mono (G := fun q => q = bs ∨ q = bz) (fun _ _ h => .inr h)) (fun _ _ h => h)
 refine ⟨_, rfl, ?_, TV1.out.fresh tz1 (fun q h => by omega)⟩
 have hs3 : w1.heap.size <= w3.heap.size := TT3.out.size
 have t5w : ∀ W2, Tch (fun k => G k /\ k < WE.heap.size) wz W2 -> Tch (fun q => (G q ∨ WE.heap.size <= q) /\ q < w3.drew.heap.size) w5 W2 := fun W2 t2 => ((T6.out.mono (G := fun q => (G q ∨ WE.heap.size <= q) /\ q < w3.drew.heap.size) (fun q _ h => ⟨.inr (by omega), by show q < w3.heap.size; omega⟩)).trans (TZ.out.mono (G := fun q => (G q ∨ WE.heap.size <= q) /\ q < w3.drew.heap.size) (fun q _ h => ⟨.inr (by omega), by show q < w3.heap.size; omega⟩)) (fun _ _ h => h)).trans (t2.mono (G := fun q => (G q ∨ WE.heap.size <= q) /\ q < w3.drew.heap.size) (fun q _ h => ⟨.inl h.1, by show q < w3.heap.size; have := h.2; omega⟩)) (fun _ _ h => h)
 have e : doM ⟨brk, nid, nseq, tx, ms, waits, ends, opens, noes⟩ ⟨5, tid, rid, yes, parts, puts⟩ = endM ⟨brk, nid, nseq, tx, ms, waits, ends, opens, noes⟩ tid yes pl := by
  have := HFND.out
  simp [doM, this]
 rw [e]
 exact H5.out.mono t5w
end
end Go.Proofs.YtfedhcnmdmhppaaGreat
