/- Part 22 of what the proof of StoreIds rests on. No condition. -/
import Derived.Test.YtafndmnbnmlklaaGreatPStoreIds10
import Derived.Test.YtafndmnbnmlklaaGreatPStoreIds11
import Derived.Test.YtafndmnbnmlklaaGreatPStoreIds20
import Derived.Test.YtafndmnbnmlklaaGreatPStoreIds21
namespace Go.Proofs.YtafndmnbnmlklaaGreat
set_option maxRecDepth 100000
set_option maxHeartbeats 60000000
set_option linter.unusedVariables false
set_option linter.unusedSimpArgs false
set_option linter.unusedSectionVars false
section
open Go.RowKit Go.Maps
theorem take_cells {ms : List MsgM} {rid tid : Int} {ix : Nat} (hix : ix < ms.length) (hid : ms[ix].id = rid) (hnd : (ms.map (·.id)).Nodup) (cur : Array Value) (hc : ∀ t, t < ms.length * 6 -> cur[t]? = (ms.flatMap encMsg)[t]?) (t : Nat) (ht : t < ms.length * 6) :
  (cur.setIfInBounds (ix * 6 + 5) (.int .i64 tid))[t]? = ((ms.map (fun m => if m.id = rid then { m with who := tid } else m)).flatMap encMsg)[t]? := by
 obtain ⟨i, k, hk, rfl⟩ : ∃ i k, k < 6 /\ t = i * 6 + k := ⟨t / 6, t % 6, Nat.mod_lt _ (by decide), by omega⟩
 have hi : i < ms.length := by omega
 have h1 := hc (i * 6 + k) ht
 rw [flat_get encMsg 6 (fun _ => rfl) ms i k hi hk] at h1
 rw [flat_get encMsg 6 (fun _ => rfl) (ms.map (fun m => if m.id = rid then { m with who := tid } else m)) i k (by rw [List.length_map]; exact hi) hk, List.getElem_map, Array.getElem?_setIfInBounds]
 by_cases e : ix * 6 + 5 = i * 6 + k
 ·have e1 : ix = i := by omega
  have e2 : k = 5 := by omega
  subst e1; subst e2
  have hsz : ix * 6 + 5 < cur.size := by
   rcases Nat.lt_or_ge (ix * 6 + 5) cur.size with h | h
   ·exact h
   ·rw [Array.getElem?_eq_none h] at h1
    simp [encMsg] at h1
  rw [if_pos rfl, if_pos hsz, if_pos hid]
  rfl
 ·rw [if_neg e, h1]
  by_cases e1 : ix = i
  ·subst e1
   rw [if_pos hid]
   have hk5 : k = 0 ∨ k = 1 ∨ k = 2 ∨ k = 3 ∨ k = 4 := by omega
   rcases hk5 with rfl | rfl | rfl | rfl | rfl <;> rfl
  ·have hne : ¬ ms[i].id = rid := fun h => by
    have hp := List.pairwise_iff_getElem.1 hnd
    rcases Nat.lt_or_gt_of_ne e1 with hl | hl
    ·have := hp ix i (by simpa using hix) (by simpa using hi) hl
     simp only [List.getElem_map] at this
     exact this (hid.trans h.symm)
    ·have := hp i ix (by simpa using hi) (by simpa using hix) hl
     simp only [List.getElem_map] at this
     exact this (h.trans hid.symm)
   rw [if_neg hne]
theorem sapply2 (s : StM) (r : RecM) (hk : r.kind = 2) (ok : AplOk s r) (hin : hasP (·.id) s.ms r.id = true) (hnd : (s.ms.map (·.id)).Nodup) (G : Nat -> Prop) (v vr : Value) (WE : World) (h0 : StW (Tch G WE) v s) (hr0 : RecW (Tch G WE) vr r) :
  Calls Tryz.prog 68 #[v, vr] WE (AplPost G WE (doM s r)) := by
 obtain ⟨w, hwe⟩ : ∃ x, x = WE := ⟨_, rfl⟩
 have te : Tch No w WE := by rw [hwe]; exact Tch.refl _ _
 have HWE := Lib.hid hwe
 obtain ⟨vm, vw, ve, vo, vn, prb, pro, prn, rfl, hmb, hmo, hmn, hst⟩ := h0
 have g0 := hst w (by rw [hwe]; exact Tch.refl _ _)
 have hm := g0.ms
 have hw := brs_pairs.2 ⟨prb, hmb, g0.cb, g0.ib⟩
 have he := g0.en
 have ho := pends_pairs.2 ⟨pro, hmo, g0.co, g0.io⟩
 have hno := pends_pairs.2 ⟨prn, hmn, g0.cn, g0.inn⟩
 obtain ⟨ma, mc, rfl, _, _⟩ := CellsAt.shape hm
 obtain ⟨wa, wk, rfl, _, _⟩ := hw.shape
 obtain ⟨ea, ec, rfl, _, _⟩ := CellsAt.shape he
 obtain ⟨oa, oc, rfl, _, _⟩ := ho.shape
 obtain ⟨na, nc, rfl, _, _⟩ := hno.shape
 obtain ⟨vp, vu, rfl, hpu⟩ := hr0
 obtain ⟨hp, hu⟩ := hpu w (by rw [hwe]; exact Tch.refl _ _)
 obtain ⟨qa, qc, rfl, _, _⟩ := CellsAt.shape hp
 obtain ⟨ua, uc, rfl, _, _⟩ := CellsAt.shape hu
 have OK := Lib.hid ok
 have HM := Lib.hid hm
 have HW := Lib.hid hw
 have HE := Lib.hid he
 have HO := Lib.hid ho
 have HNO := Lib.hid hno
 have HP := Lib.hid hp
 have HU := Lib.hid hu
 have TE := Lib.hid te
 have HST := Lib.hid hst
 have HG0 := Lib.hid g0
 have HMB0 := Lib.hid hmb
 have HMO0 := Lib.hid hmo
 have HMN0 := Lib.hid hmn
 have HPU0 := Lib.hid hpu
 have HSZW : Hid (w.heap.size = WE.heap.size) := by rw [Hid, hwe]
 clear hst g0 hmb hmo hmn hpu hwe
 obtain ⟨brk, nid, nseq, tx, ms, waits, ends, opens, noes⟩ := s
 obtain ⟨kd, tid, rid, yes, parts, puts⟩ := r
 simp only at hk HM HW HE HO HNO HP HU HMB0 HMO0 HMN0 HPU0 hin ⊢
 subst hk
 clear hm hw he ho hno hp hu ok
 obtain ⟨bs, hbs⟩ : ∃ x, WE.heap.size = x := ⟨_, rfl⟩
 obtain ⟨bq, hbq⟩ : ∃ x, (WE.alloc (.cells #[.int .i64 brk, .int .i64 nid, .int .i64 nseq, .int .i64 tx, .slice ma ms.length mc, .slice wa waits.length wk, .slice ea ends.length ec, .slice oa opens.length oc, .slice na noes.length nc] 29)).heap.size = x := ⟨_, rfl⟩
 obtain ⟨w1, hw1⟩ : ∃ x, ((WE.alloc (.cells #[.int .i64 brk, .int .i64 nid, .int .i64 nseq, .int .i64 tx, .slice ma ms.length mc, .slice wa waits.length wk, .slice ea ends.length ec, .slice oa opens.length oc, .slice na noes.length nc] 29)).alloc (.cells #[.int .i64 2, .int .i64 tid, .int .i64 rid, .bool yes, .slice qa parts.length qc, .slice ua puts.length uc] 34)).alloc (.cells #[.int .i64 0, .int .i64 0, .int .i64 0, .int .i64 0, .slice none 0 0, .slice none 0 0, .slice none 0 0, .slice none 0 0, .slice none 0 0] 29) = x := ⟨_, rfl⟩
 obtain ⟨bz, hbz⟩ : ∃ x, x = bq + 1 := ⟨_, rfl⟩
 have HB1 : Hid (w1.heap[bs]? = some (.cells #[.int .i64 brk, .int .i64 nid, .int .i64 nseq, .int .i64 tx, .slice ma ms.length mc, .slice wa waits.length wk, .slice ea ends.length ec, .slice oa opens.length oc, .slice na noes.length nc] 29 (0, 0))) := by
  rw [Hid, <- hw1, <- hbs]
  exact blk_tch ((Tch.alloc _ _).trans0 (Tch.alloc _ _)) (blk_new WE _) (fun h => h)
 have HQ1 : Hid (w1.heap[bq]? = some (.cells #[.int .i64 2, .int .i64 tid, .int .i64 rid, .bool yes, .slice qa parts.length qc, .slice ua puts.length uc] 34 (0, 0))) := by
  rw [Hid, <- hw1, <- hbq]
  exact blk_tch (Tch.alloc _ _) (blk_new _ _) (fun h => h)
 have HZ1 : Hid (w1.heap[bz]? = some (.cells #[.int .i64 0, .int .i64 0, .int .i64 0, .int .i64 0, .slice none 0 0, .slice none 0 0, .slice none 0 0, .slice none 0 0, .slice none 0 0] 29 (0, 0))) := by
  rw [Hid, <- hw1, hbz, <- hbq]
  have := blk_new ((WE.alloc (.cells #[.int .i64 brk, .int .i64 nid, .int .i64 nseq, .int .i64 tx, .slice ma ms.length mc, .slice wa waits.length wk, .slice ea ends.length ec, .slice oa opens.length oc, .slice na noes.length nc] 29)).alloc (.cells #[.int .i64 2, .int .i64 tid, .int .i64 rid, .bool yes, .slice qa parts.length qc, .slice ua puts.length uc] 34)) (.cells #[.int .i64 0, .int .i64 0, .int .i64 0, .int .i64 0, .slice none 0 0, .slice none 0 0, .slice none 0 0, .slice none 0 0, .slice none 0 0] 29)
  have e : ((WE.alloc (.cells #[.int .i64 brk, .int .i64 nid, .int .i64 nseq, .int .i64 tx, .slice ma ms.length mc, .slice wa waits.length wk, .slice ea ends.length ec, .slice oa opens.length oc, .slice na noes.length nc] 29)).alloc (.cells #[.int .i64 2, .int .i64 tid, .int .i64 rid, .bool yes, .slice qa parts.length qc, .slice ua puts.length uc] 34)).heap.size = (WE.alloc (.cells #[.int .i64 brk, .int .i64 nid, .int .i64 nseq, .int .i64 tx, .slice ma ms.length mc, .slice wa waits.length wk, .slice ea ends.length ec, .slice oa opens.length oc, .slice na noes.length nc] 29)).heap.size + 1 := by simp
  rwa [e] at this
 have TV1 : Hid (Tch No WE w1) := by rw [Hid, <- hw1]; exact ((Tch.alloc _ _).trans0 (Tch.alloc _ _)).trans0 (Tch.alloc _ _)
 have TW1 : Hid (Tch No w w1) := te.trans0 TV1.out
 have HLT : Hid (w.heap.size <= bs /\ WE.heap.size = bs /\ bq = bs + 1 /\ bz = bs + 2 /\ w1.heap.size = bs + 3) := by
  have e1 : bq = bs + 1 := by rw [<- hbq, <- hbs]; simp
  refine ⟨by rw [<- hbs]; exact te.size, hbs, e1, by omega, ?_⟩
  rw [<- hw1, <- hbs]; simp
 have HBZ := Lib.hid hbz
 clear hbz
 obtain ⟨b0, b1, b2, b3, b4, b5, b6, b7, b8⟩ := kc9 HB1.out
 obtain ⟨c0, c1, c2, c3, c4, c5⟩ := kc6 HQ1.out
 have hnM : ms.length <= 100000 := OK.out.nms
 have HCLM := Lib.hid (clone_msg (.slice ma ms.length mc) ms w1 (HM.out.keep TW1.out) (ones_flat ones_msg ms) (by omega))
 obtain ⟨ix, hix, hat, hid⟩ : ∃ ix, ∃ h : ix < ms.length, atI (·.id) ms rid = (ix : Int) /\ ms[ix].id = rid := by
  rcases atI_cases (fun m : MsgM => m.id) ms rid with ⟨h1, _⟩ | ⟨k, hk, h1, h2, _⟩
  ·rw [hin] at h1; cases h1
  ·exact ⟨k, hk, h1, h2⟩
 have HIX : Hid (∃ h : ix < ms.length, ms[ix].id = rid) := ⟨hix, hid⟩
 have HAT := Lib.hid hat
 have HND := Lib.hid hnd
 clear hin hnd hat hid
 go_enter Tryz.func68, Tryz.ntmps68
 go_wp2_with fail
 clear hbs hbq hw1 te
 refine HCLM.out.mono ?_
 rintro e w4 ⟨ag, cg, rfl, O4, T4, _⟩
 have hex : ∃ g, ag = some ⟨g, 0, none⟩ := by
  cases ag with
  | none =>
   rcases O4.1.2 with ⟨h0, _⟩ | ⟨_, _, _, h0, _⟩
   ·injection h0 with _ h1 _; omega
   ·cases h0
  | some a =>
   obtain ⟨g0, cur, rfl, _⟩ := own_get O4.1
   exact ⟨g0, rfl⟩
 obtain ⟨g, rfl⟩ := hex
 obtain ⟨g', cur, hgg, hg4, hcc1, hcc2, hcc3, hcc4, hcc5⟩ := own_get O4.1
 have hgg' : g = g' := by injection hgg
 subst hgg'
 have HCUR : Hid (ms.length <= cg /\ cg <= maxLen /\ cur.size = cg * 6 /\ ∀ t, t < ms.length * 6 -> cur[t]? = (ms.flatMap encMsg)[t]?) := ⟨hcc1, hcc2, hcc3, hcc5⟩
 have HGE : Hid (w1.heap.size <= g) := O4.2 g rfl
 have hsz4 : ix * 6 + 5 < cur.size := by rw [hcc3]; omega
 have HB4 := Lib.hid (blk_tch T4 HB1.out (fun h => h))
 have HQ4 := Lib.hid (blk_tch T4 HQ1.out (fun h => h))
 have HZ4 := Lib.hid (blk_tch T4 HZ1.out (fun h => h))
 have y4 : w4.cell? ⟨bs, 4, none⟩ = some (.slice ma ms.length mc) := (blk_cell HB4.out 4).trans rfl
 have yf4 := blk_free HB4.out 4
 obtain ⟨w5, hw5⟩ : ∃ x, w4.setCell ⟨bs, 4, none⟩ (.slice (some ⟨g, 0, none⟩) ms.length cg) = x := ⟨_, rfl⟩
 have T5 : Tch (fun q => q = bs) w4 w5 := by rw [<- hw5]; exact Tch.setCell (F := (fun q => q = bs)) _ _ _ (fun _ => rfl)
 have HB5 : Hid (w5.heap[bs]? = some (.cells #[.int .i64 brk, .int .i64 nid, .int .i64 nseq, .int .i64 tx, .slice (some ⟨g, 0, none⟩) ms.length cg, .slice wa waits.length wk, .slice ea ends.length ec, .slice oa opens.length oc, .slice na noes.length nc] 29 (0, 0))) := by rw [Hid, <- hw5]; exact blk_set HB4.out 4 _
 have HQ5 := Lib.hid (blk_tch T5 HQ4.out (by have := HLT.out; show ¬ bq = bs; omega))
 have HZ5 := Lib.hid (blk_tch T5 HZ4.out (by have := HLT.out; show ¬ bz = bs; omega))
 have HG := Lib.hid (blk_tch T5 hg4 (by have := HLT.out; have := HGE.out; show ¬ g = bs; omega))
 have T15 : Hid (Tch (fun q => q = bs) w1 w5) := T4.no.trans T5 (fun _ _ h => h)
 have TW5 : Hid (Tch No w w5) := TW1.out.fresh T15.out (fun q h => by have := HLT.out; omega)
 have HMS5 : Hid (IsMsgs w5 (.slice (some ⟨g, 0, none⟩) ms.length cg) ms) := by
  have ho := own_mk (w := w5) (xs := ms.flatMap encMsg) (n := ms.length) (by rw [flat_len encMsg 6 (fun _ => rfl)]) HG.out hcc1 hcc2 hcc3 hcc5
  exact CellsAt.ofRow ho
 have HME : Hid (∀ W, Tch No w5 W -> Calls Tryz.prog 166 #[.agg #[.int .i64 brk, .int .i64 nid, .int .i64 nseq, .int .i64 tx, .slice (some ⟨g, 0, none⟩) ms.length cg, .slice wa waits.length wk, .slice ea ends.length ec, .slice oa opens.length oc, .slice na noes.length nc], .int .i64 rid] W fun e w' => e = .returned (.int .i64 ((ix : Nat) : Int)) /\ Tch No W w') := fun W t => by
  have tw := TW5.out.trans0 t
  have := smessage_any ⟨brk, nid, nseq, tx, ms, waits, ends, opens, noes⟩ rid (.agg #[.int .i64 brk, .int .i64 nid, .int .i64 nseq, .int .i64 tx, .slice (some ⟨g, 0, none⟩) ms.length cg, .slice wa waits.length wk, .slice ea ends.length ec, .slice oa opens.length oc, .slice na noes.length nc]) W ⟨_, _, _, _, _, rfl, HMS5.out.keep t, HW.out.keep tw, HE.out.keep tw, HO.out.keep tw, HNO.out.keep tw⟩
  simp only [HAT.out] at this
  exact this
 clear O4 T4 T5 hgg hg4 hcc1 hcc2 hcc3 hcc4 hcc5
 go_wp2_with fail
 go_upto_region 6 with fail
 have S0 : Hid (∀ W, Tch No w5 W -> W.cell? ⟨bs, 0, none⟩ = some (.int .i64 brk)) := fun W t => (blk_cell (blk_tch t HB5.out (fun h => h)) 0).trans rfl
 have S1 : Hid (∀ W, Tch No w5 W -> W.cell? ⟨bs, 1, none⟩ = some (.int .i64 nid)) := fun W t => (blk_cell (blk_tch t HB5.out (fun h => h)) 1).trans rfl
 have S2 : Hid (∀ W, Tch No w5 W -> W.cell? ⟨bs, 2, none⟩ = some (.int .i64 nseq)) := fun W t => (blk_cell (blk_tch t HB5.out (fun h => h)) 2).trans rfl
 have S3 : Hid (∀ W, Tch No w5 W -> W.cell? ⟨bs, 3, none⟩ = some (.int .i64 tx)) := fun W t => (blk_cell (blk_tch t HB5.out (fun h => h)) 3).trans rfl
 have S4 : Hid (∀ W, Tch No w5 W -> W.cell? ⟨bs, 4, none⟩ = some (.slice (some ⟨g, 0, none⟩) ms.length cg)) := fun W t => (blk_cell (blk_tch t HB5.out (fun h => h)) 4).trans rfl
 have S5 : Hid (∀ W, Tch No w5 W -> W.cell? ⟨bs, 5, none⟩ = some (.slice wa waits.length wk)) := fun W t => (blk_cell (blk_tch t HB5.out (fun h => h)) 5).trans rfl
 have S6 : Hid (∀ W, Tch No w5 W -> W.cell? ⟨bs, 6, none⟩ = some (.slice ea ends.length ec)) := fun W t => (blk_cell (blk_tch t HB5.out (fun h => h)) 6).trans rfl
 have S7 : Hid (∀ W, Tch No w5 W -> W.cell? ⟨bs, 7, none⟩ = some (.slice oa opens.length oc)) := fun W t => (blk_cell (blk_tch t HB5.out (fun h => h)) 7).trans rfl
 have S8 : Hid (∀ W, Tch No w5 W -> W.cell? ⟨bs, 8, none⟩ = some (.slice na noes.length nc)) := fun W t => (blk_cell (blk_tch t HB5.out (fun h => h)) 8).trans rfl
 have Q1 : Hid (∀ W, Tch No w5 W -> W.cell? ⟨bq, 1, none⟩ = some (.int .i64 tid)) := fun W t => (blk_cell (blk_tch t HQ5.out (fun h => h)) 1).trans rfl
 have Q2 : Hid (∀ W, Tch No w5 W -> W.cell? ⟨bq, 2, none⟩ = some (.int .i64 rid)) := fun W t => (blk_cell (blk_tch t HQ5.out (fun h => h)) 2).trans rfl
 refine frame_var 159 rfl (fun fr hfr hsz => ?_)
 have h2 : fr.eval (.tmp 2) = .pointer (some ⟨bs, 0, none⟩) := by rw [hfr.out]; rfl
 have h3 : fr.eval (.tmp 3) = .pointer (some ⟨bq, 0, none⟩) := by rw [hfr.out]; rfl
 have hlist : ∀ f ∈ ([(fun x _ => x = .pointer (some ⟨bs, 4, none⟩)), (fun x _ => x = .slice (some ⟨g, 0, none⟩) ms.length cg), (fun x _ => x = .agg #[.int .i64 brk, .int .i64 nid, .int .i64 nseq, .int .i64 tx, .slice (some ⟨g, 0, none⟩) ms.length cg, .slice wa waits.length wk, .slice ea ends.length ec, .slice oa opens.length oc, .slice na noes.length nc]), (fun x _ => x = .pointer (some ⟨bq, 2, none⟩)), (fun x _ => x = .int .i64 rid), (fun x _ => x = .int .i64 ((ix : Nat) : Int)), (fun x _ => x = .pointer (some ⟨bq, 1, none⟩)), (fun x _ => x = .int .i64 tid), (fun x _ => x = .pointer (some ⟨g, 0 + ix * 6, none⟩)), (fun x _ => x = .pointer (some ⟨g, 0 + ix * 6 + 5, none⟩)), (fun _ W => W.heap[g]? = some (.cells (cur.setIfInBounds (ix * 6 + 5) (.int .i64 tid)) 50 (0, 0)))] : List (Value -> World -> Prop)), Stb f :=
  all_mem1 ((pur_eq _).stb) (all_mem1 ((pur_eq _).stb) (all_mem1 ((pur_eq _).stb) (all_mem1 ((pur_eq _).stb) (all_mem1 ((pur_eq _).stb) (all_mem1 ((pur_eq _).stb) (all_mem1 ((pur_eq _).stb) (all_mem1 ((pur_eq _).stb) (all_mem1 ((pur_eq _).stb) (all_mem1 ((pur_eq _).stb) (all_mem1 ((fun x w w' t h => blk_tch t h (fun h => h))) (all_mem0)))))))))))
 refine wp_region_inv2 10 (C0 := fun W => Tch No w5 W) (C1 := fun W => Tch (fun q => q = g) w5 W) (RL [(fun x _ => x = .pointer (some ⟨bs, 4, none⟩)), (fun x _ => x = .slice (some ⟨g, 0, none⟩) ms.length cg), (fun x _ => x = .agg #[.int .i64 brk, .int .i64 nid, .int .i64 nseq, .int .i64 tx, .slice (some ⟨g, 0, none⟩) ms.length cg, .slice wa waits.length wk, .slice ea ends.length ec, .slice oa opens.length oc, .slice na noes.length nc]), (fun x _ => x = .pointer (some ⟨bq, 2, none⟩)), (fun x _ => x = .int .i64 rid), (fun x _ => x = .int .i64 ((ix : Nat) : Int)), (fun x _ => x = .pointer (some ⟨bq, 1, none⟩)), (fun x _ => x = .int .i64 tid), (fun x _ => x = .pointer (some ⟨g, 0 + ix * 6, none⟩)), (fun x _ => x = .pointer (some ⟨g, 0 + ix * 6 + 5, none⟩)), (fun _ W => W.heap[g]? = some (.cells (cur.setIfInBounds (ix * 6 + 5) (.int .i64 tid)) 50 (0, 0)))]) [10] [26, 27, 28, 29, 30, 31, 32, 33, 34, 35] [(some 26, [2], []), (some 27, [26], [0]), (some 28, [2], []), (some 29, [3], []), (some 30, [29], [3]), (some 31, [28, 30], [2, 4]), (some 32, [3], []), (some 33, [32], [6]), (some 34, [27, 31], [1, 5, 0, 1, 2, 3, 4, 5, 6, 7]), (some 35, [34], [8, 0, 1, 2, 3, 4, 5, 6, 7]), (none, [35, 33], [9, 7, 5, 0, 1, 2, 3, 4, 5, 6, 7])] (fun i => ([[], [0], [], [], [3], [2, 3, 4], [], [6], [0, 1, 2, 3, 4, 5, 6, 7], [0, 1, 2, 3, 4, 5, 6, 7, 8], [0, 1, 2, 3, 4, 5, 6, 7, 8, 9]][i]?).getD []) (fun i => ([[], [0], [], [], [3], [2, 4], [], [6], [1, 5], [8], [7, 9]][i]?).getD []) (fun _ => []) (fun i => ([[10], [10], [10], [10], [10], [10], [10], [10], [10], [10], []][i]?).getD []) (by kernel_rfl) (by kernel_rfl) (by kernel_rfl) (by rw [hsz]; kernel_rfl) ?_ [0, 1, 2, 3, 4, 5, 6, 7, 8, 9] [] [] (by kernel_rfl) (rl_pur ?_) ?_ ?_ ?_ ?_
 ·exact Tch.drew _
 ·show ∀ j, j < 11 -> _ ∨ _
  refine all_lt1 (all_lt1 (all_lt1 (all_lt1 (all_lt1 (all_lt1 (all_lt1 (all_lt1 (all_lt1 (all_lt1 (all_lt1 (all_lt0) (Or.inr (pur_eq _))) (Or.inr (pur_eq _))) (Or.inr (pur_eq _))) (Or.inr (pur_eq _))) (Or.inr (pur_eq _))) (Or.inr (pur_eq _))) (Or.inr (pur_eq _))) (Or.inr (pur_eq _))) (Or.inr (pur_eq _))) (Or.inr (pur_eq _))) (Or.inl (by decide))
 ·intro i hi him
  have him2 : i = 0 ∨ i = 1 ∨ i = 2 ∨ i = 3 ∨ i = 4 ∨ i = 5 ∨ i = 6 ∨ i = 7 ∨ i = 8 ∨ i = 9 := by simpa using him
  rcases him2 with rfl | rfl | rfl | rfl | rfl | rfl | rfl | rfl | rfl | rfl
  ·exact istep2_of (iq (d := 26) (.pointer (some ⟨bs, 4, none⟩)) rfl (fun _ _ => rfl) (fun a W hf hC hn => y_faState4 (ρ := a.eval) (.tmp 2) (b := bs) (off := 0) rfl (hf.ev (by kernel_rfl) h2) W))
  ·exact istep2_of (iq (d := 27) (.slice (some ⟨g, 0, none⟩) ms.length cg) rfl (fun _ _ => rfl) (fun a W hf hC hn => y_ldSMessage (ρ := a.eval) (.tmp 26) (ad := ⟨bs, 4, none⟩) rfl (hn 0 (by decide)) W (S4.out W hC)))
  ·exact istep2_of (iq (d := 28) (.agg #[.int .i64 brk, .int .i64 nid, .int .i64 nseq, .int .i64 tx, .slice (some ⟨g, 0, none⟩) ms.length cg, .slice wa waits.length wk, .slice ea ends.length ec, .slice oa opens.length oc, .slice na noes.length nc]) rfl (fun _ _ => rfl) (fun a W hf hC hn => y_ldState (ρ := a.eval) (.tmp 2) (b := bs) (off := 0) rfl (hf.ev (by kernel_rfl) h2) W (S0.out W hC) (S1.out W hC) (S2.out W hC) (S3.out W hC) (S4.out W hC) (S5.out W hC) (S6.out W hC) (S7.out W hC) (S8.out W hC)))
  ·exact istep2_of (iq (d := 29) (.pointer (some ⟨bq, 2, none⟩)) rfl (fun _ _ => rfl) (fun a W hf hC hn => y_faRecord2 (ρ := a.eval) (.tmp 3) (b := bq) (off := 0) rfl (hf.ev (by kernel_rfl) h3) W))
  ·exact istep2_of (iq (d := 30) (.int .i64 rid) rfl (fun _ _ => rfl) (fun a W hf hC hn => y_ldint64 (ρ := a.eval) (.tmp 29) (ad := ⟨bq, 2, none⟩) rfl (hn 3 (by decide)) W (Q2.out W hC)))
  ·exact istep2_of (istep_c (d := 31) (.int .i64 ((ix : Nat) : Int)) ⟨some 31, _, _, _, _, none⟩ rfl rfl (fun a W hf hC hn => iwanted_no rfl) (hF := Tryz.func166) (by kernel_rfl) (by kernel_rfl) [(.tmp 28), (.tmp 30)] #[29, 2] rfl [.agg #[.int .i64 brk, .int .i64 nid, .int .i64 nseq, .int .i64 tx, .slice (some ⟨g, 0, none⟩) ms.length cg, .slice wa waits.length wk, .slice ea ends.length ec, .slice oa opens.length oc, .slice na noes.length nc], .int .i64 rid] (fun a W hf hC hn => map2 (hn 2 (by decide)) (hn 4 (by decide))) (HME.out) (fun _ _ h t => h.trans0 t) (rl_stb hlist) (fun _ _ => rfl))
  ·exact istep2_of (iq (d := 32) (.pointer (some ⟨bq, 1, none⟩)) rfl (fun _ _ => rfl) (fun a W hf hC hn => y_faRecord1 (ρ := a.eval) (.tmp 3) (b := bq) (off := 0) rfl (hf.ev (by kernel_rfl) h3) W))
  ·exact istep2_of (iq (d := 33) (.int .i64 tid) rfl (fun _ _ => rfl) (fun a W hf hC hn => y_ldint64 (ρ := a.eval) (.tmp 32) (ad := ⟨bq, 1, none⟩) rfl (hn 6 (by decide)) W (Q1.out W hC)))
  ·exact istep2_of (iq (d := 34) (.pointer (some ⟨g, 0 + ix * 6, none⟩)) rfl (fun _ _ => rfl) (fun a W hf hC hn => y_ixMessage (ρ := a.eval) (.tmp 27) (.tmp 31) (b := g) (off := 0) (n := ms.length) (c := cg) (k := ix) rfl (hn 1 (by decide)) (hn 5 (by decide)) (by omega) W))
  ·exact istep2_of (iq (d := 35) (.pointer (some ⟨g, 0 + ix * 6 + 5, none⟩)) rfl (fun _ _ => rfl) (fun a W hf hC hn => y_faMessage5 (ρ := a.eval) (.tmp 34) (b := g) (off := 0 + ix * 6) rfl (hn 8 (by decide)) W))
 ·intro i hi him
  cases him
 ·refine istep_w2 ⟨none, _, _, _, _, none⟩ rfl (fun a w' hf hC hn => (iwanted_no rfl)) (fun a W hf hk hC hn K hK => ?_)
  have g9 : a.eval (.tmp 35) = .pointer (some ⟨g, 0 + ix * 6 + 5, none⟩) := hn 9 (by decide)
  have g7 : a.eval (.tmp 33) = .int .i64 tid := hn 7 (by decide)
  rw [Nat.zero_add] at g9
  have gB := blk_tch hC HG.out (fun h => h)
  refine w_stint64 (.tmp 35) (.tmp 33) rfl rfl g9 g7 rfl ((blk_cell gB (ix * 6 + 5)).trans (Array.getElem?_eq_getElem (by omega))) (blk_free gB _) (fun z => ?_)
  refine hK _ _ (hC.no.trans (Tch.setCell (F := (fun q => q = g)) W ⟨g, ix * 6 + 5, none⟩ (.int .i64 tid) (fun _ => rfl)) (fun _ _ h => h)) (blk_set gB _ _) (by intro j hj h1 h2 h3; exfalso; revert j; decide)
 ·intro af wf hf hC hR
  obtain ⟨vs, hl, rfl⟩ := hf
  have hl : vs.length = 10 := hl
  obtain ⟨u0, vs0, hv0, hl⟩ := vs_cons hl
  obtain ⟨u1, vs1, hv1, hl⟩ := vs_cons hl
  obtain ⟨u2, vs2, hv2, hl⟩ := vs_cons hl
  obtain ⟨u3, vs3, hv3, hl⟩ := vs_cons hl
  obtain ⟨u4, vs4, hv4, hl⟩ := vs_cons hl
  obtain ⟨u5, vs5, hv5, hl⟩ := vs_cons hl
  obtain ⟨u6, vs6, hv6, hl⟩ := vs_cons hl
  obtain ⟨u7, vs7, hv7, hl⟩ := vs_cons hl
  obtain ⟨u8, vs8, hv8, hl⟩ := vs_cons hl
  obtain ⟨u9, vs9, hv9, hl⟩ := vs_cons hl
  have hvn := vs_nil hl
  have hvs : vs = [u0, u1, u2, u3, u4, u5, u6, u7, u8, u9] := by rw [hv0, hv1, hv2, hv3, hv4, hv5, hv6, hv7, hv8, hv9, hvn]
  clear hvn hl hv0 hv1 hv2 hv3 hv4 hv5 hv6 hv7 hv8 hv9
  subst hvs
  have hfr2 := hfr.out
  subst hfr2
  simp only [putAll, Act.put, List.setIfInBounds_toArray, List.set_cons_succ, List.set_cons_zero]
  have r10 : wf.heap[g]? = some (.cells (cur.setIfInBounds (ix * 6 + 5) (.int .i64 tid)) 50 (0, 0)) := hR 10 (by decide) (by decide)
  clear hR hlist hsz
  have GG := Lib.hid r10
  have Tf : Hid (Tch (fun q => q = g) w5 wf) := hC
  have HBX := Lib.hid (blk_tch hC HB5.out (by have := HLT.out; have := HGE.out; show ¬ bs = g; omega))
  have HZX := Lib.hid (blk_tch hC HZ5.out (by have := HLT.out; have := HGE.out; show ¬ bz = g; omega))
  clear r10 hC
  obtain ⟨wz, hwz, HRZ, TZ⟩ := kx9 (W := wf) (b := bz) (T := 29) (.int .i64 brk) (.int .i64 nid) (.int .i64 nseq) (.int .i64 tx) (.slice (some ⟨g, 0, none⟩) ms.length cg) (.slice wa waits.length wk) (.slice ea ends.length ec) (.slice oa opens.length oc) (.slice na noes.length nc) HZX.out
  rw [HBZ.out] at hwz
  obtain ⟨l0, l1, l2, l3, l4, l5, l6, l7, l8⟩ := kc9 HBX.out
  obtain ⟨r0, r1, r2, r3, r4, r5, r6, r7, r8⟩ := kc9 (W := wf) (b := bq + 1) (by rw [<- HBZ.out]; exact HZX.out)
  obtain ⟨fr0, fr1, fr2, fr3, fr4, fr5, fr6, fr7, fr8⟩ := kf9 (W := wf) (b := bq + 1) (by rw [<- HBZ.out]; exact HZX.out)
  go_wp2_with fail
  obtain ⟨q0, q1, q2, q3, q4, q5, q6, q7, q8⟩ := kc9 (W := wz) (b := bq + 1) (by rw [<- HBZ.out]; exact HRZ.out)
  refine bodyPost_ret (v := .agg #[.int .i64 brk, .int .i64 nid, .int .i64 nseq, .int .i64 tx, .slice (some ⟨g, 0, none⟩) ms.length cg, .slice wa waits.length wk, .slice ea ends.length ec, .slice oa opens.length oc, .slice na noes.length nc]) (by simp [results, Tryz.results68, go_sem, q0, q1, q2, q3, q4, q5, q6, q7, q8]) rfl ?_
  have glt := HLT.out
  have gge := HGE.out
  have tz1 : Tch (fun q => q = bs) w1 w5 := T15.out
  have tA : Tch (fun q => q = bs ∨ q = bz ∨ q = g) w1 wz := ((tz1.mono (G := fun q => q = bs ∨ q = bz ∨ q = g) (fun _ _ h => .inl h)).trans (Tf.out.mono (G := fun q => q = bs ∨ q = bz ∨ q = g) (fun _ _ h => .inr (.inr h))) (fun _ _ h => h)).trans (TZ.out.mono (G := fun q => q = bs ∨ q = bz ∨ q = g) (fun _ _ h => .inr (.inl h))) (fun _ _ h => h)
  have e : doM ⟨brk, nid, nseq, tx, ms, waits, ends, opens, noes⟩ ⟨2, tid, rid, yes, parts, puts⟩ = ⟨brk, nid, nseq, tx, ms.map (fun m => if m.id = rid then { m with who := tid } else m), waits, ends, opens, noes⟩ := by simp [doM]
  have tail : Tch No WE wz := TV1.out.fresh tA (fun q h => by omega)
  refine ⟨_, rfl, ?_, tail⟩
  rw [e]
  refine ⟨_, _, _, _, _, prb, pro, prn, rfl, HMB0.out, HMO0.out, HMN0.out, fun W2 t2 => ?_⟩
  have gst := HST.out W2 (tail.no.trans t2 (fun i hi h => h.1))
  have tfA : Tch (fun q => q = bs ∨ q = bz ∨ q < WE.heap.size) wf W2 := (TZ.out.mono (G := (fun q => q = bs ∨ q = bz ∨ q < WE.heap.size)) (fun q _ h => .inr (.inl h))).trans (t2.mono (G := (fun q => q = bs ∨ q = bz ∨ q < WE.heap.size)) (fun q _ h => .inr (.inr h.2))) (fun _ _ h => h)
  refine ⟨?_, gst.cb, gst.ib, gst.en, gst.co, gst.io, gst.cn, gst.inn⟩
  have hg2 := blk_tch tfA GG.out (by show ¬ (g = bs ∨ g = bz ∨ g < WE.heap.size); omega)
  obtain ⟨z1, z2, z3, z4⟩ := HCUR.out
  have ho := own_mk (xs := (ms.map (fun m => if m.id = rid then { m with who := tid } else m)).flatMap encMsg) (n := ms.length) (by rw [flat_len encMsg 6 (fun _ => rfl), List.length_map]) hg2 z1 z2 (by rw [Array.size_setIfInBounds]; exact z3) (fun t ht => take_cells HIX.out.1 HIX.out.2 HND.out cur z4 t ht)
  unfold IsMsgs
  rw [List.length_map]
  exact CellsAt.ofRow ho
end
section
open Go.RowKit Go.Maps
theorem del_int (w0 : World) (g : Nat) (lb : Array Value) (eg : ∀ args w, (callFunc g args).run Tryz.prog w = .ok (.enter g args) w) (p : Int -> Bool) (l : List Int)
  (hp : ∀ x ∈ l, ∀ W, Tch No w0 W -> Calls Tryz.prog g (#[(.int .i64 (x))] ++ lb) W fun e w' => e = .returned (.bool (p x)) /\ Tch No W w')
  (v : Value) (w : World) (t0 : Tch No w0 w) (h : OwnN w0 3 1 l.length (l.flatMap (fun q : Int => [Value.int .i64 q])) v w) (hn : l.length <= 100000000) :
  Calls Tryz.prog 179 #[v, .func (.func g) #[] lb] w fun e w' => ∃ v', e = .returned v' /\ OwnN w0 3 1 (keptM p l).length ((keptM p l).flatMap (fun q : Int => [Value.int .i64 q])) v' w' /\ Tch No w0 w' := by
 have he : ∀ x, ((fun q : Int => [Value.int .i64 q]) x).length = 1 := fun _ => rfl
 have hc := CellsAt.ofRow h.1
 have hcs : ∀ i (hi : i < l.length), (l.flatMap (fun q : Int => [Value.int .i64 q]))[i * 1 + 0]? = some (.int .i64 (l[i])) := fun i hi =>
  flat_get (fun q : Int => [Value.int .i64 q]) 1 he l i 0 hi (by decide)
 have hI := idx_int g lb eg (fun i => if h : i < l.length then p l[i] else false) (fun i => if h : i < l.length then l[i] else 0) _ l.length v w hc (fun i hi => by
   simp only [dif_pos hi]
   exact hcs i hi) (fun k hk W t => by
   simp only [dif_pos hk]
   exact hp _ (List.getElem_mem _) W (t0.trans0 t))
 have HI := Lib.hid hI
 have HP := Lib.hid hp
 have HS := Lib.hid hcs
 have T0 := Lib.hid t0
 have HO := Lib.hid h
 obtain ⟨a, c, rfl, hc1, hc2⟩ := own_shape h.1
 have hml : c <= 9223372036854775807 := by unfold maxLen at hc2; omega
 clear hp hcs t0 h hI hc
 go_enter Tryz.func179, Tryz.ntmps179
 go_wp2_with fail
 refine HI.out.mono ?_
 rintro e w1 ⟨⟨r, rfl, hr⟩, T1⟩
 have TT1 := Lib.hid T1
 rcases hr with ⟨rfl, hall⟩ | ⟨k0, hk0, rfl, hhit, hno⟩
 ·have HA := Lib.hid hall
  clear hall
  go_wp2_with fail
  go_ret
  have e1 : keptM p l = l := DInv.none_ (fun i hi => by have := HA.out i hi; simpa only [dif_pos hi] using this)
  rw [e1]
  exact ⟨_, rfl, stb_own _ _ _ TT1.out HO.out, T0.out.trans0 TT1.out⟩
 ·have hex : ∃ g0 cur0, a = some ⟨g0, 0, none⟩ /\ Hid (w0.heap.size <= g0 /\ w1.heap[g0]? = some (.cells cur0 3 (0, 0)) /\ cur0.size = c * 1 /\ ∀ t, t < l.length * 1 -> cur0[t]? = (l.flatMap (fun q : Int => [Value.int .i64 q]))[t]?) := by
   have h1 := stb_own _ _ _ TT1.out HO.out
   cases a with
   | none =>
    rcases h1.1.2 with ⟨_, h0⟩ | ⟨_, _, _, h0, _⟩
    ·omega
    ·cases h0
   | some a =>
    obtain ⟨g0, cur, rfl, q1, q2, q3, q4, q5, q6⟩ := own_get h1.1
    exact ⟨g0, cur, rfl, h1.2 g0 rfl, q1, q4, q6⟩
  obtain ⟨g0, cur0, rfl, Q⟩ := hex
  have D0 : Hid (DInv (fun q : Int => [Value.int .i64 q]) 1 p l c (k0 + 1) k0 cur0) := DInv.start he hk0 (by simpa only [dif_pos hk0] using hhit) (fun i hi h => by have := hno i h; simpa only [dif_pos hi] using this) Q.out.2.2.1 Q.out.2.2.2
  have hne1 : ((k0 : Int) == -1) = false := beq_eq_false_iff_ne.2 (by omega)
  clear hhit hno
  go_wp2_with fail
  go_loopg [5, 6, 7] l.length (fun kx s5 s6 _ wr => ∃ (i j : Nat) (cur : Array Value), s5 = .int .i64 i /\ s6 = .int .i64 j /\ i + 1 <= j /\ j <= l.length /\ l.length - j <= kx /\ Hid (DInv (fun q : Int => [Value.int .i64 q]) 1 p l c j i cur) /\ Hid (wr.heap[g0]? = some (.cells cur 3 (0, 0))) /\ Hid (Tch No w0 wr))
  case atStart => exact ⟨k0, k0 + 1, cur0, rfl, by go_num, Nat.le_refl _, by omega, by omega, D0.out, Q.out.2.1, T0.out.trans0 TT1.out⟩
  case round =>
   obtain ⟨i, j, cur, rfl, rfl, hij, hjl, hgk, D, HG, TW⟩ := hrel
   have hsz : cur.size = c * 1 := D.out.sz
   by_cases hlt : j < l.length
   ·have hltz : (j : Int) < (l.length : Int) := by omega
    have hjm : j * 1 + 1 <= l.length * 1 := by omega
    have hcm : l.length * 1 <= c * 1 := Nat.mul_le_mul_right _ hc1
    have e0 : wr.cell? ⟨g0, j, none⟩ = some (.int .i64 (l[j])) := by rw [blk_cell HG.out, D.out.high j (by omega) (by omega)]; simpa using flat_get (fun q : Int => [Value.int .i64 q]) 1 he l j 0 hlt (by decide)
    have HF := HP.out _ (List.getElem_mem hlt)
    obtain ⟨x, hx⟩ : ∃ x, l[j] = x := ⟨_, rfl⟩
    have HX := Lib.hid hx
    rw [hx] at e0 HF
    clear hx
    have HVS : Hid ((fun q : Int => [Value.int .i64 q]) x = [.int .i64 x]) := rfl
    have HG2 := Lib.hid HF
    clear HF
    by_cases hit : p x = true
    ·rw [hit] at HG2
     have D2 : Hid (DInv (fun q : Int => [Value.int .i64 q]) 1 p l c (j + 1) i cur) := D.out.skip hlt (by rw [HX.out]; exact hit)
     clear hit
     go_wp2_with fail
     refine (HG2.out _ TW.out).mono ?_
     rintro e w3 ⟨rfl, T3⟩
     go_wp2_with fail
     go_roundg (l.length - (j + 1))
     case measure => omega
     case rel => exact ⟨i, j + 1, cur, rfl, by go_num, by omega, by omega, Nat.le_refl _, D2.out, blk_tch T3 HG.out (fun h => h), TW.out.trans0 T3⟩
    ·have hd : p x = false := by simpa using hit
     rw [hd] at HG2
     have PX : Hid (p l[j] = false) := by rw [Hid, HX.out]; exact hd
     clear hit hd
     have him : i * 1 + 1 <= j * 1 := by omega
     go_wp2_with fail
     refine (HG2.out _ TW.out).mono ?_
     rintro e w3 ⟨rfl, T3⟩
     have TT3 : Hid (Tch No wr w3) := T3
     have H3 := Lib.hid (blk_tch TT3.out HG.out (fun h => h))
     obtain ⟨o0, ho0⟩ : ∃ o, w3.cell? ⟨g0, i, none⟩ = some o := ⟨cur[i]'(by omega), by rw [blk_cell H3.out]; exact Array.getElem?_eq_getElem _⟩
     have hf0 : w3.frozen? ⟨g0, i, none⟩ = false := blk_free H3.out _
     clear T3
     go_wp2_with fail
     go_roundg (l.length - (j + 1))
     case measure => omega
     case rel =>
      obtain ⟨cur', q1, q2, q3⟩ := blk_sets [.int .i64 x] i w3 cur H3.out (by simp only [List.length_cons, List.length_nil]; omega)
      refine ⟨i + 1, j + 1, cur', by go_num, by go_num, by omega, by omega, Nat.le_refl _, D.out.keep he hlt PX.out q2 (fun t => ?_), q1, ((TW.out.trans0 TT3.out).fresh (F := fun k => k = g0) (Tch.setCells (F := fun k => k = g0) (b := g0) rfl [.int .i64 x] i w3) (fun k h => by rw [h]; exact Q.out.1))⟩
      rw [q3 t, HX.out, Nat.mul_one]
      rfl
   ·obtain rfl : j = l.length := by omega
    have hii : i < l.length := by omega
    have hic : i < c := by omega
    have hltz : ¬ ((l.length : Int) < (l.length : Int)) := by omega
    obtain ⟨zs, hzs⟩ : ∃ zs, (Builtin.zeroCells (Value.int .i64 0).cells (l.length - i)).toList = zs := ⟨_, rfl⟩
    have hzl : zs.length = (l.length - i) * 1 := by rw [<- hzs, zc_len]; rfl
    have hz1 : Ones zs := by
     rw [<- hzs]
     exact zc_one _ _ (fun q hq => by
      have hq' : q < 1 := hq
      have : q = 0 := by omega
      rcases this with rfl <;> rfl) (by decide)
    have hfit : i * 1 + zs.length <= cur.size := by
     have : i * 1 + (l.length - i) * 1 <= c * 1 := by rw [<- Nat.add_mul]; exact Nat.mul_le_mul_right _ (by omega)
     omega
    have hcl : ∀ ty, (Builtin.clear_ #[31] ty #[.slice (some ⟨g0, i, none⟩) (l.length - i) (c - i)]).run Tryz.prog wr = .ok (.tuple #[]) (wr.setCells g0 i zs) := fun ty =>
     run_clear_many wr _ 3 ty (Value.int .i64 0) eltInt.und (fun w => by kernel_rfl) g0 i _ _ (by omega) zs hzs hz1 (fun q hq => by rw [blk_cell HG.out, Array.getElem?_eq_getElem (by omega)]; rfl) (fun q _ => blk_free HG.out _)
    have ZZ : Hid (i * 1 + zs.length <= cur.size) := hfit
    clear hzs hzl hz1 hfit hsz
    go_wp2
    go_ret
    obtain ⟨cur', q1, q2, q3⟩ := blk_sets zs i wr cur HG.out (by have := ZZ.out; omega)
    exact ⟨_, rfl, ⟨D.out.done he hc1 hc2 q1 q2 (fun t ht => by rw [q3 t, if_neg (by omega)]), fun b hb => by
     have hb' : g0 = b := by simpa [Value.ownBlock] using hb
     have hq := Q.out.1
     omega⟩, TW.out.fresh (F := fun k => k = g0) (Tch.setCells (F := fun k => k = g0) (b := g0) rfl zs i wr) (fun k h => by rw [h]; exact Q.out.1)⟩
end
end Go.Proofs.YtafndmnbnmlklaaGreat
