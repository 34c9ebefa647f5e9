/- Part 20 of what the proof of StoreIds rests on. No condition. -/
import Derived.Test.YtafndmnbnmlklaaGreatPStoreIds10
import Derived.Test.YtafndmnbnmlklaaGreatPStoreIds19
namespace Go.Proofs.YtafndmnbnmlklaaGreat
set_option maxRecDepth 100000
set_option maxHeartbeats 60000000
set_option linter.unusedVariables false
set_option linter.unusedSimpArgs false
set_option linter.unusedSectionVars false
section
open Go.RowKit Go.Maps
theorem own_apart {w : World} {e1 e2 : TypeId} (hne : e1 ≠ e2) {s1 n1 s2 n2 : Nat} {v1 v2 : Value} {x1 x2 : List Value} (h1 : w.ownsRow 0 e1 s1 v1 n1 x1) {k : Nat} (hk : v1.ownBlock = some k) (h2 : w.ownsRow 0 e2 s2 v2 n2 x2) (e : v2.ownBlock = some k) : False := by
 obtain ⟨a1, c1, rfl, _, _⟩ := own_shape h1
 obtain ⟨a2, c2, rfl, _, _⟩ := own_shape h2
 cases a1 with
 | none => cases hk
 | some a1 =>
  cases a2 with
  | none => cases e
  | some a2 =>
   obtain ⟨g1, cur1, rfl, p1, _⟩ := own_get h1
   obtain ⟨g2, cur2, rfl, p2, _⟩ := own_get h2
   have k1 : g1 = k := by simpa [Value.ownBlock] using hk
   have k2 : g2 = k := by simpa [Value.ownBlock] using e
   subst k1; subst k2
   rw [p1] at p2
   injection p2 with p2
   injection p2 with _ p2
   exact hne p2
theorem sapply4 (s : StM) (r : RecM) (hk : r.kind = 4) (ok : AplOk s r) (hf : hasP (·.tid) s.ends r.tid = false) (hin : hasP (·.tid) s.waits r.tid = false) (G : Nat -> Prop) (v vr : Value) (WE : World) (h0 : StW (Tch G WE) v s) (hr0 : RecW (Tch G WE) vr r) :
  Calls Tryz.prog 68 #[v, vr] WE (AplPost G WE (doM s r)) := by
 obtain ⟨w, hwe⟩ : ∃ x, x = WE := ⟨_, rfl⟩
 have te : Tch No w WE := by rw [hwe]; exact Tch.refl _ _
 have HWE := Lib.hid hwe
 obtain ⟨vm, vw, ve, vo, vn, prb, pro, prn, rfl, hmb, hmo, hmn, hst⟩ := h0
 have g0 := hst w (by rw [hwe]; exact Tch.refl _ _)
 have hm := g0.ms
 have hw := brs_pairs.2 ⟨prb, hmb, g0.cb, g0.ib⟩
 have he := g0.en
 have ho := pends_pairs.2 ⟨pro, hmo, g0.co, g0.io⟩
 have hno := pends_pairs.2 ⟨prn, hmn, g0.cn, g0.inn⟩
 obtain ⟨ma, mc, rfl, _, _⟩ := CellsAt.shape hm
 obtain ⟨wa, wk, rfl, _, _⟩ := hw.shape
 obtain ⟨ea, ec, rfl, _, _⟩ := CellsAt.shape he
 obtain ⟨oa, oc, rfl, _, _⟩ := ho.shape
 obtain ⟨na, nc, rfl, _, _⟩ := hno.shape
 obtain ⟨vp, vu, rfl, hpu⟩ := hr0
 obtain ⟨hp, hu⟩ := hpu w (by rw [hwe]; exact Tch.refl _ _)
 obtain ⟨qa, qc, rfl, _, _⟩ := CellsAt.shape hp
 obtain ⟨ua, uc, rfl, _, _⟩ := CellsAt.shape hu
 have OK := Lib.hid ok
 have HM := Lib.hid hm
 have HW := Lib.hid hw
 have HE := Lib.hid he
 have HO := Lib.hid ho
 have HNO := Lib.hid hno
 have HP := Lib.hid hp
 have HU := Lib.hid hu
 have TE := Lib.hid te
 have HST := Lib.hid hst
 have HG0 := Lib.hid g0
 have HMB0 := Lib.hid hmb
 have HMO0 := Lib.hid hmo
 have HMN0 := Lib.hid hmn
 have HPU0 := Lib.hid hpu
 have HSZW : Hid (w.heap.size = WE.heap.size) := by rw [Hid, hwe]
 clear hst g0 hmb hmo hmn hpu hwe
 obtain ⟨brk, nid, nseq, tx, ms, waits, ends, opens, noes⟩ := s
 obtain ⟨kd, tid, rid, yes, parts, puts⟩ := r
 simp only at hk HM HW HE HO HNO HP HU HMB0 HMO0 HMN0 HPU0 hf hin ⊢
 subst hk
 clear hm hw he ho hno hp hu ok
 obtain ⟨bs, hbs⟩ : ∃ x, WE.heap.size = x := ⟨_, rfl⟩
 obtain ⟨bq, hbq⟩ : ∃ x, (WE.alloc (.cells #[.int .i64 brk, .int .i64 nid, .int .i64 nseq, .int .i64 tx, .slice ma ms.length mc, .slice wa waits.length wk, .slice ea ends.length ec, .slice oa opens.length oc, .slice na noes.length nc] 29)).heap.size = x := ⟨_, rfl⟩
 obtain ⟨w1, hw1⟩ : ∃ x, ((WE.alloc (.cells #[.int .i64 brk, .int .i64 nid, .int .i64 nseq, .int .i64 tx, .slice ma ms.length mc, .slice wa waits.length wk, .slice ea ends.length ec, .slice oa opens.length oc, .slice na noes.length nc] 29)).alloc (.cells #[.int .i64 4, .int .i64 tid, .int .i64 rid, .bool yes, .slice qa parts.length qc, .slice ua puts.length uc] 34)).alloc (.cells #[.int .i64 0, .int .i64 0, .int .i64 0, .int .i64 0, .slice none 0 0, .slice none 0 0, .slice none 0 0, .slice none 0 0, .slice none 0 0] 29) = x := ⟨_, rfl⟩
 obtain ⟨bz, hbz⟩ : ∃ x, x = bq + 1 := ⟨_, rfl⟩
 have HB1 : Hid (w1.heap[bs]? = some (.cells #[.int .i64 brk, .int .i64 nid, .int .i64 nseq, .int .i64 tx, .slice ma ms.length mc, .slice wa waits.length wk, .slice ea ends.length ec, .slice oa opens.length oc, .slice na noes.length nc] 29 (0, 0))) := by
  rw [Hid, <- hw1, <- hbs]
  exact blk_tch ((Tch.alloc _ _).trans0 (Tch.alloc _ _)) (blk_new WE _) (fun h => h)
 have HQ1 : Hid (w1.heap[bq]? = some (.cells #[.int .i64 4, .int .i64 tid, .int .i64 rid, .bool yes, .slice qa parts.length qc, .slice ua puts.length uc] 34 (0, 0))) := by
  rw [Hid, <- hw1, <- hbq]
  exact blk_tch (Tch.alloc _ _) (blk_new _ _) (fun h => h)
 have HZ1 : Hid (w1.heap[bz]? = some (.cells #[.int .i64 0, .int .i64 0, .int .i64 0, .int .i64 0, .slice none 0 0, .slice none 0 0, .slice none 0 0, .slice none 0 0, .slice none 0 0] 29 (0, 0))) := by
  rw [Hid, <- hw1, hbz, <- hbq]
  have := blk_new ((WE.alloc (.cells #[.int .i64 brk, .int .i64 nid, .int .i64 nseq, .int .i64 tx, .slice ma ms.length mc, .slice wa waits.length wk, .slice ea ends.length ec, .slice oa opens.length oc, .slice na noes.length nc] 29)).alloc (.cells #[.int .i64 4, .int .i64 tid, .int .i64 rid, .bool yes, .slice qa parts.length qc, .slice ua puts.length uc] 34)) (.cells #[.int .i64 0, .int .i64 0, .int .i64 0, .int .i64 0, .slice none 0 0, .slice none 0 0, .slice none 0 0, .slice none 0 0, .slice none 0 0] 29)
  have e : ((WE.alloc (.cells #[.int .i64 brk, .int .i64 nid, .int .i64 nseq, .int .i64 tx, .slice ma ms.length mc, .slice wa waits.length wk, .slice ea ends.length ec, .slice oa opens.length oc, .slice na noes.length nc] 29)).alloc (.cells #[.int .i64 4, .int .i64 tid, .int .i64 rid, .bool yes, .slice qa parts.length qc, .slice ua puts.length uc] 34)).heap.size = (WE.alloc (.cells #[.int .i64 brk, .int .i64 nid, .int .i64 nseq, .int .i64 tx, .slice ma ms.length mc, .slice wa waits.length wk, .slice ea ends.length ec, .slice oa opens.length oc, .slice na noes.length nc] 29)).heap.size + 1 := by simp
  rwa [e] at this
 have TV1 : Hid (Tch No WE w1) := by rw [Hid, <- hw1]; exact ((Tch.alloc _ _).trans0 (Tch.alloc _ _)).trans0 (Tch.alloc _ _)
 have TW1 : Hid (Tch No w w1) := te.trans0 TV1.out
 have HLT : Hid (w.heap.size <= bs /\ WE.heap.size = bs /\ bq = bs + 1 /\ bz = bs + 2 /\ w1.heap.size = bs + 3) := by
  have e1 : bq = bs + 1 := by rw [<- hbq, <- hbs]; simp
  refine ⟨by rw [<- hbs]; exact te.size, hbs, e1, by omega, ?_⟩
  rw [<- hw1, <- hbs]; simp
 have HBZ := Lib.hid hbz
 clear hbz
 obtain ⟨b0, b1, b2, b3, b4, b5, b6, b7, b8⟩ := kc9 HB1.out
 obtain ⟨c0, c1, c2, c3, c4, c5⟩ := kc6 HQ1.out
 have hnW : waits.length <= 100000 := OK.out.nw
 have hnU : puts.length <= 100000 := OK.out.nputs
 have HWA := Lib.hid (waits_any waits OK.out.risew (by omega) tid (.slice wa waits.length wk) w1 (HW.out.keep TW1.out))
 have hmb := HMB0.out
 have hcb := HG0.out.cb
 have hib := HG0.out.ib
 have hlb : prb.length = waits.length := by rw [<- hmb, List.length_map]
 have HCB : Hid (CellsAt w (.slice wa waits.length wk) waits.length 2 (prb.flatMap (encPr (fun q : BrM => q.tid)))) := by
  rw [Hid, <- hlb]; rw [<- hlb] at hcb; exact hcb
 have HONE : Hid (Ones (prb.flatMap (encPr (fun q : BrM => q.tid)))) := ones_pr (fun p hp => by obtain ⟨_, _, e, _⟩ := CellsAt.shape (hib p hp); rw [e]; rfl)
 have HMB := Lib.hid hmb
 have HIB := Lib.hid hib
 have HLB := Lib.hid hlb
 obtain ⟨k2, hk2⟩ : ∃ k, posP (fun x : BrM => x.tid) waits tid = k := ⟨_, rfl⟩
 have HK2 : Hid (posP (fun x : BrM => x.tid) waits tid = k2 /\ k2 <= waits.length) := ⟨hk2, by rw [<- hk2]; exact posP_le _ _ _⟩
 obtain ⟨b2, hb2⟩ : ∃ b, hasP (fun x : BrM => x.tid) waits tid = b := ⟨_, rfl⟩
 have HNOT := Lib.hid hin
 rw [hk2, hb2] at HWA
 clear hf hin hmb hcb hib hlb hk2 hb2
 go_enter Tryz.func68, Tryz.ntmps68
 go_wp2_with fail
 clear hbs hbq hw1 te
 refine HWA.out.mono ?_
 rintro e w4 ⟨rfl, T4⟩
 have TT4 : Hid (Tch No w1 w4) := T4
 have TW4 : Hid (Tch No w w4) := TW1.out.trans0 T4
 have HB4 := Lib.hid (blk_tch T4 HB1.out (fun h => h))
 have HQ4 := Lib.hid (blk_tch T4 HQ1.out (fun h => h))
 have HZ4 := Lib.hid (blk_tch T4 HZ1.out (fun h => h))
 have HS4 : Hid (w1.heap.size <= w4.heap.size) := T4.size
 clear T4
 go_upto_region 11 with fail
 have B5 : Hid (∀ W, Tch No w4 W -> W.cell? ⟨bs, 5, none⟩ = some (.slice wa waits.length wk)) := fun W t => (blk_cell (blk_tch t HB4.out (fun h => h)) 5).trans rfl
 have Q1 : Hid (∀ W, Tch No w4 W -> W.cell? ⟨bq, 1, none⟩ = some (.int .i64 tid)) := fun W t => (blk_cell (blk_tch t HQ4.out (fun h => h)) 1).trans rfl
 have Q5 : Hid (∀ W, Tch No w4 W -> W.cell? ⟨bq, 5, none⟩ = some (.slice ua puts.length uc)) := fun W t => (blk_cell (blk_tch t HQ4.out (fun h => h)) 5).trans rfl
 have HDIS : Hid (∀ v W vb y, OwnN w4 95 2 waits.length (prb.flatMap (encPr (fun q : BrM => q.tid))) v W -> k2 < waits.length -> v.ownBlock = some vb -> W.heap[vb]? = some (.cells #[.int .i64 tid, y] 95 (0, 0)) -> False) := fun v W vb y hO hlt hv hb => by
  obtain ⟨a, c, rfl, _, _⟩ := own_shape hO.1
  cases a with
  | none => cases hv
  | some a =>
   obtain ⟨g, cur, rfl, q1, q2, q3, q4, q5, q6⟩ := own_get hO.1
   have hv' : g = vb := by simpa [Value.ownBlock] using hv
   subst hv'
   rw [q1] at hb
   have hcur : cur = #[.int .i64 tid, y] := by injection hb with hb; injection hb
   have h0 := q6 0 (by omega)
   rw [hcur] at h0
   have hno := HNOT.out
   rw [<- HMB.out] at hno
   have hl := HLB.out
   cases hprb : prb with
   | nil => rw [hprb] at hl; simp at hl; omega
   | cons e1 er =>
    rw [hprb] at h0 hno
    simp [encPr] at h0
    simp [hasP, h0] at hno
 refine frame_var 159 rfl (fun fr hfr hsz => ?_)
 have h2 : fr.eval (.tmp 2) = .pointer (some ⟨bs, 0, none⟩) := by rw [hfr.out]; rfl
 have h3 : fr.eval (.tmp 3) = .pointer (some ⟨bq, 0, none⟩) := by rw [hfr.out]; rfl
 have h5 : fr.eval (.tmp 5) = .int .i64 ((k2 : Nat) : Int) := by rw [hfr.out]; rfl
 have hlist : ∀ f ∈ ([(fun x _ => x = .pointer (some ⟨bs, 5, none⟩)), (fun x _ => x = .slice wa waits.length wk), (OwnN w4 95 2 waits.length (prb.flatMap (encPr (fun q : BrM => q.tid)))), (fun x _ => x = .int .i64 ((k2 : Nat) : Int)), (fun x _ => x = .pointer (some ⟨bq, 1, none⟩)), (fun x _ => x = .int .i64 tid), (fun x _ => x = .pointer (some ⟨bq, 5, none⟩)), (fun x _ => x = .slice ua puts.length uc), (fun x W => (∃ a c, x = .slice a puts.length c) /\ OwnN w4 45 2 puts.length (puts.flatMap encPut) x W), (fun x W => ∃ a c, x = .agg #[.int .i64 tid, .slice a puts.length c] /\ OwnN w4 45 2 puts.length (puts.flatMap encPut) (.slice a puts.length c) W), (fun x W => ∃ vb a c, x = .slice (some ⟨vb, 0, none⟩) 1 1 /\ W.heap[vb]? = some (.cells #[.int .i64 tid, .slice a puts.length c] 95 (0, 0)) /\ w4.heap.size <= vb /\ OwnN w4 45 2 puts.length (puts.flatMap encPut) (.slice a puts.length c) W), (fun x W => ∃ a c, (OwnN w4 95 2 (waits.length + 1) ((prb.flatMap (encPr (fun q : BrM => q.tid))).take (k2 * 2) ++ (#[Value.int .i64 tid, .slice a puts.length c] : Array Value).toList ++ (prb.flatMap (encPr (fun q : BrM => q.tid))).drop (k2 * 2))) x W /\ OwnN w4 45 2 puts.length (puts.flatMap encPut) (.slice a puts.length c) W), (fun x _ => x = .pointer (some ⟨bs, 5, none⟩)), (fun _ W => ∃ va vn vc a c, (OwnN w4 95 2 (waits.length + 1) ((prb.flatMap (encPr (fun q : BrM => q.tid))).take (k2 * 2) ++ (#[Value.int .i64 tid, .slice a puts.length c] : Array Value).toList ++ (prb.flatMap (encPr (fun q : BrM => q.tid))).drop (k2 * 2))) (.slice va vn vc) W /\ OwnN w4 45 2 puts.length (puts.flatMap encPut) (.slice a puts.length c) W /\ W.heap[bs]? = some (.cells #[.int .i64 brk, .int .i64 nid, .int .i64 nseq, .int .i64 tx, .slice ma ms.length mc, .slice va vn vc, .slice ea ends.length ec, .slice oa opens.length oc, .slice na noes.length nc] 29 (0, 0)))] : List (Value -> World -> Prop)), Stb f :=
  all_mem1 ((pur_eq _).stb) (all_mem1 ((pur_eq _).stb) (all_mem1 (stb_own) (all_mem1 ((pur_eq _).stb) (all_mem1 ((pur_eq _).stb) (all_mem1 ((pur_eq _).stb) (all_mem1 ((pur_eq _).stb) (all_mem1 ((pur_eq _).stb) (all_mem1 ((fun x w w' t h => ⟨h.1, stb_own _ _ _ t h.2⟩)) (all_mem1 ((fun x w w' t h => by obtain ⟨q, c, h1, h2⟩ := h; exact ⟨q, c, h1, stb_own _ _ _ t h2⟩)) (all_mem1 ((fun x w w' t h => by obtain ⟨vb, q, c, h1, h2, h3, h4⟩ := h; exact ⟨vb, q, c, h1, blk_tch t h2 (fun h => h), h3, stb_own _ _ _ t h4⟩)) (all_mem1 ((fun x w w' t h => by obtain ⟨q, c, h1, h2⟩ := h; exact ⟨q, c, stb_own _ _ _ t h1, stb_own _ _ _ t h2⟩)) (all_mem1 ((pur_eq _).stb) (all_mem1 ((fun x w w' t h => by obtain ⟨va, vn, vc, q, c, h1, h2, h3⟩ := h; exact ⟨va, vn, vc, q, c, stb_own _ _ _ t h1, stb_own _ _ _ t h2, blk_tch t h3 (fun h => h)⟩)) (all_mem0))))))))))))))
 refine wp_region_inv2 13 (C0 := fun W => Tch No w4 W) (C1 := fun W => Tch (fun q => q = bs) w4 W) (RL [(fun x _ => x = .pointer (some ⟨bs, 5, none⟩)), (fun x _ => x = .slice wa waits.length wk), (OwnN w4 95 2 waits.length (prb.flatMap (encPr (fun q : BrM => q.tid)))), (fun x _ => x = .int .i64 ((k2 : Nat) : Int)), (fun x _ => x = .pointer (some ⟨bq, 1, none⟩)), (fun x _ => x = .int .i64 tid), (fun x _ => x = .pointer (some ⟨bq, 5, none⟩)), (fun x _ => x = .slice ua puts.length uc), (fun x W => (∃ a c, x = .slice a puts.length c) /\ OwnN w4 45 2 puts.length (puts.flatMap encPut) x W), (fun x W => ∃ a c, x = .agg #[.int .i64 tid, .slice a puts.length c] /\ OwnN w4 45 2 puts.length (puts.flatMap encPut) (.slice a puts.length c) W), (fun x W => ∃ vb a c, x = .slice (some ⟨vb, 0, none⟩) 1 1 /\ W.heap[vb]? = some (.cells #[.int .i64 tid, .slice a puts.length c] 95 (0, 0)) /\ w4.heap.size <= vb /\ OwnN w4 45 2 puts.length (puts.flatMap encPut) (.slice a puts.length c) W), (fun x W => ∃ a c, (OwnN w4 95 2 (waits.length + 1) ((prb.flatMap (encPr (fun q : BrM => q.tid))).take (k2 * 2) ++ (#[Value.int .i64 tid, .slice a puts.length c] : Array Value).toList ++ (prb.flatMap (encPr (fun q : BrM => q.tid))).drop (k2 * 2))) x W /\ OwnN w4 45 2 puts.length (puts.flatMap encPut) (.slice a puts.length c) W), (fun x _ => x = .pointer (some ⟨bs, 5, none⟩)), (fun _ W => ∃ va vn vc a c, (OwnN w4 95 2 (waits.length + 1) ((prb.flatMap (encPr (fun q : BrM => q.tid))).take (k2 * 2) ++ (#[Value.int .i64 tid, .slice a puts.length c] : Array Value).toList ++ (prb.flatMap (encPr (fun q : BrM => q.tid))).drop (k2 * 2))) (.slice va vn vc) W /\ OwnN w4 45 2 puts.length (puts.flatMap encPut) (.slice a puts.length c) W /\ W.heap[bs]? = some (.cells #[.int .i64 brk, .int .i64 nid, .int .i64 nseq, .int .i64 tx, .slice ma ms.length mc, .slice va vn vc, .slice ea ends.length ec, .slice oa opens.length oc, .slice na noes.length nc] 29 (0, 0)))]) [2, 8, 9, 10, 11, 13] [52, 53, 54, 55, 56, 57, 58, 59, 60, 61, 62, 63, 64] [(some 52, [2], []), (some 53, [52], [0]), (some 54, [53], [1]), (some 55, [5], []), (some 56, [3], []), (some 57, [56], [4]), (some 58, [3], []), (some 59, [58], [6]), (some 60, [59], [7, 2]), (some 61, [57, 60], [5, 8]), (some 62, [61], [9]), (some 63, [54, 55, 62], [2, 3, 10, 8]), (some 64, [2], [0, 1, 2, 3, 4, 5, 6, 7, 8, 9, 10, 11]), (none, [64, 63], [12, 11, 11, 0, 1, 2, 3, 4, 5, 6, 7, 8, 9, 10, 11])] (fun i => ([[], [0], [0, 1], [], [], [4], [], [6], [0, 1, 2, 6, 7], [0, 1, 2, 4, 5, 6, 7, 8], [0, 1, 2, 4, 5, 6, 7, 8, 9], [0, 1, 2, 3, 4, 5, 6, 7, 8, 9, 10], [0, 1, 2, 3, 4, 5, 6, 7, 8, 9, 10, 11], [0, 1, 2, 3, 4, 5, 6, 7, 8, 9, 10, 11, 12]][i]?).getD []) (fun i => ([[], [0], [1], [], [], [4], [], [6], [7], [5, 8], [9], [2, 3, 10], [], [11, 12]][i]?).getD []) (fun i => ([[], [], [], [], [], [], [], [], [], [], [], [2, 8, 9, 10], [], [2, 8, 9, 10, 11]][i]?).getD []) (fun i => ([[2, 8, 9, 10, 11, 13], [2, 8, 9, 10, 11, 13], [8, 9, 10, 11, 13], [11, 13], [9, 10, 11, 13], [9, 10, 11, 13], [8, 9, 10, 11, 13], [8, 9, 10, 11, 13], [9, 10, 11, 13], [10, 11, 13], [11, 13], [13], [13], []][i]?).getD []) (by kernel_rfl) (by kernel_rfl) (by kernel_rfl) (by rw [hsz]; kernel_rfl) ?_ [0, 1, 2, 3, 4, 5, 6, 7, 8, 9, 10, 11, 12] [] [] (by kernel_rfl) (rl_pur ?_) ?_ ?_ ?_ ?_
 ·exact Tch.drew _
 ·show ∀ j, j < 14 -> _ ∨ _
  refine all_lt1 (all_lt1 (all_lt1 (all_lt1 (all_lt1 (all_lt1 (all_lt1 (all_lt1 (all_lt1 (all_lt1 (all_lt1 (all_lt1 (all_lt1 (all_lt1 (all_lt0) (Or.inr (pur_eq _))) (Or.inr (pur_eq _))) (Or.inl (by decide))) (Or.inr (pur_eq _))) (Or.inr (pur_eq _))) (Or.inr (pur_eq _))) (Or.inr (pur_eq _))) (Or.inr (pur_eq _))) (Or.inl (by decide))) (Or.inl (by decide))) (Or.inl (by decide))) (Or.inl (by decide))) (Or.inr (pur_eq _))) (Or.inl (by decide))
 ·intro i hi him
  have him2 : i = 0 ∨ i = 1 ∨ i = 2 ∨ i = 3 ∨ i = 4 ∨ i = 5 ∨ i = 6 ∨ i = 7 ∨ i = 8 ∨ i = 9 ∨ i = 10 ∨ i = 11 ∨ i = 12 := by simpa using him
  rcases him2 with rfl | rfl | rfl | rfl | rfl | rfl | rfl | rfl | rfl | rfl | rfl | rfl | rfl
  ·exact istep2_of (iq (d := 52) (.pointer (some ⟨bs, 5, none⟩)) rfl (fun _ _ => rfl) (fun a W hf hC hn => y_faState5 (ρ := a.eval) (.tmp 2) (b := bs) (off := 0) rfl (hf.ev (by kernel_rfl) h2) W))
  ·exact istep2_of (iq (d := 53) (.slice wa waits.length wk) rfl (fun _ _ => rfl) (fun a W hf hC hn => y_ldSBranch (ρ := a.eval) (.tmp 52) (ad := ⟨bs, 5, none⟩) rfl (hn 0 (by decide)) W (B5.out W hC)))
  ·refine istep_w2 ⟨some 54, _, _, _, _, none⟩ rfl (fun a w' hf hC hn => (iwanted_no rfl)) (fun a W hf hk hC hn K hK => ?_)
   refine w_call Tryz.func176 (by kernel_rfl) (by kernel_rfl) [.tmp 53] _ rfl [.slice wa waits.length wk] (map1 (hn 1 (by decide))) (clone_br _ waits.length _ W (HCB.out.keep (TW4.out.trans0 hC)) HONE.out (by omega)) (fun e w' h => ?_)
   obtain ⟨a', c', rfl, hO, hT, _⟩ := h
   exact ⟨_, rfl, hK _ _ (hC.trans0 hT) ⟨hO.1, fun b hb => Nat.le_trans hC.size (hO.2 b hb)⟩ (fun j _ _ _ _ x h => rl_stb hlist j x _ _ hT h)⟩
  ·exact istep2_of (iq (d := 55) (.int .i64 ((k2 : Nat) : Int)) rfl (fun _ _ => rfl) (fun a W hf hC hn => y_move (ρ := a.eval) (.tmp 5) rfl (hf.ev (by kernel_rfl) h5) W))
  ·exact istep2_of (iq (d := 56) (.pointer (some ⟨bq, 1, none⟩)) rfl (fun _ _ => rfl) (fun a W hf hC hn => y_faRecord1 (ρ := a.eval) (.tmp 3) (b := bq) (off := 0) rfl (hf.ev (by kernel_rfl) h3) W))
  ·exact istep2_of (iq (d := 57) (.int .i64 tid) rfl (fun _ _ => rfl) (fun a W hf hC hn => y_ldint64 (ρ := a.eval) (.tmp 56) (ad := ⟨bq, 1, none⟩) rfl (hn 4 (by decide)) W (Q1.out W hC)))
  ·exact istep2_of (iq (d := 58) (.pointer (some ⟨bq, 5, none⟩)) rfl (fun _ _ => rfl) (fun a W hf hC hn => y_faRecord5 (ρ := a.eval) (.tmp 3) (b := bq) (off := 0) rfl (hf.ev (by kernel_rfl) h3) W))
  ·exact istep2_of (iq (d := 59) (.slice ua puts.length uc) rfl (fun _ _ => rfl) (fun a W hf hC hn => y_ldSPut (ρ := a.eval) (.tmp 58) (ad := ⟨bq, 5, none⟩) rfl (hn 6 (by decide)) W (Q5.out W hC)))
  ·refine istep_w2 ⟨some 60, _, _, _, _, none⟩ rfl (fun a w' hf hC hn => (iwanted_no rfl)) (fun a W hf hk hC hn K hK => ?_)
   refine w_call Tryz.func177 (by kernel_rfl) (by kernel_rfl) [.tmp 59] _ rfl [.slice ua puts.length uc] (map1 (hn 7 (by decide))) (clone_put _ puts W (HU.out.keep (TW4.out.trans0 hC)) (ones_flat ones_put puts) (by omega)) (fun e w' h => ?_)
   obtain ⟨a', c', rfl, hO, hT, _⟩ := h
   exact ⟨_, rfl, hK _ _ (hC.trans0 hT) ⟨⟨_, _, rfl⟩, hO.1, fun b hb => Nat.le_trans hC.size (hO.2 b hb)⟩ (fun j _ _ _ _ x h => rl_stb hlist j x _ _ hT h)⟩
  ·refine istep_w2 ⟨some 61, _, _, _, _, none⟩ rfl (fun a w' hf hC hn => (iwanted_no rfl)) (fun a W hf hk hC hn K hK => ?_)
   have g8' : (∃ q c, a.eval (.tmp 60) = .slice q puts.length c) /\ OwnN w4 45 2 puts.length (puts.flatMap encPut) (a.eval (.tmp 60)) W := hn 8 (by decide)
   obtain ⟨⟨q, c, g8⟩, g8o⟩ := g8'
   rw [g8] at g8o
   refine wp_runs (y_bdBranch (ρ := a.eval) (.tmp 57) (.tmp 60) (v0 := .int .i64 tid) (v1 := .slice q puts.length c) rfl (hn 5 (by decide)) g8 rfl rfl W) ?_
   exact hK _ _ hC ⟨q, c, rfl, g8o⟩ (fun j _ _ _ _ x h => h)
  ·refine istep_w2 ⟨some 62, _, _, _, _, none⟩ rfl (fun a w' hf hC hn => (iwanted_no rfl)) (fun a W hf hk hC hn K hK => ?_)
   obtain ⟨q, c, g9, g9o⟩ : ∃ q c, a.eval (.tmp 61) = .agg #[.int .i64 tid, .slice q puts.length c] /\ OwnN w4 45 2 puts.length (puts.flatMap encPut) (.slice q puts.length c) W := hn 9 (by decide)
   refine wp_runs (y_bsBranch (ρ := a.eval) (.tmp 61) (v0 := .int .i64 tid) (v1 := .slice q puts.length c) rfl g9 rfl rfl W) ?_
   exact hK _ _ (hC.trans0 (Tch.alloc _ _)) ⟨W.heap.size, q, c, rfl, blk_new _ _, hC.size, stb_own _ _ _ (Tch.alloc _ _) g9o⟩ (fun j _ _ _ _ x h => rl_stb hlist j x _ _ (Tch.alloc _ _) h)
  ·refine istep_w2 ⟨some 63, _, _, _, _, none⟩ rfl (fun a w' hf hC hn => (iwanted_no rfl)) (fun a W hf hk hC hn K hK => ?_)
   have g2 : OwnN w4 95 2 waits.length (prb.flatMap (encPr (fun q : BrM => q.tid))) (a.eval (.tmp 54)) W := hn 2 (by decide)
   obtain ⟨vb, q, c, g10, g10b, g10c, g10o⟩ : ∃ vb q c, a.eval (.tmp 62) = .slice (some ⟨vb, 0, none⟩) 1 1 /\ W.heap[vb]? = some (.cells #[.int .i64 tid, .slice q puts.length c] 95 (0, 0)) /\ w4.heap.size <= vb /\ OwnN w4 45 2 puts.length (puts.flatMap encPut) (.slice q puts.length c) W := hn 10 (by decide)
   refine w_call Tryz.func175 (by kernel_rfl) (by kernel_rfl) [.tmp 54, .tmp 55, .tmp 62] _ rfl [a.eval (.tmp 54), .int .i64 ((k2 : Nat) : Int), .slice (some ⟨vb, 0, none⟩) 1 1] (map3 rfl (hn 3 (by decide)) g10) (ins_br w4 waits.length k2 (prb.flatMap (encPr (fun q : BrM => q.tid))) vb #[.int .i64 tid, .slice q puts.length c] W _ HK2.out.2 hC g2 (by omega) HONE.out g10b rfl (fun u hu => by
    simp only [List.mem_cons, List.not_mem_nil, or_false] at hu
    rcases hu with rfl | rfl <;> rfl) (fun hlt e => HDIS.out _ W vb _ g2 hlt e g10b)) (fun e w' h => ?_)
   obtain ⟨v', rfl, hO, hT, hU⟩ := h
   refine ⟨_, rfl, hK _ _ hT ⟨q, c, hO, ?_⟩ (by intro j hj h1 h2 h3; exfalso; revert j; decide)⟩
   exact ⟨own_tch g10o.1 hU (fun k hk e => own_apart (by decide) g10o.1 hk g2.1 e), g10o.2⟩
  ·exact istep2_of (iq (d := 64) (.pointer (some ⟨bs, 5, none⟩)) rfl (fun _ _ => rfl) (fun a W hf hC hn => y_faState5 (ρ := a.eval) (.tmp 2) (b := bs) (off := 0) rfl (hf.ev (by kernel_rfl) h2) W))
 ·intro i hi him
  cases him
 ·refine istep_w2 ⟨none, _, _, _, _, none⟩ rfl (fun a w' hf hC hn => (iwanted_no rfl)) (fun a W hf hk hC hn K hK => ?_)
  have g12 : a.eval (.tmp 64) = .pointer (some ⟨bs, 5, none⟩) := hn 12 (by decide)
  obtain ⟨q, c, g11, g11o⟩ : ∃ q c, (OwnN w4 95 2 (waits.length + 1) ((prb.flatMap (encPr (fun q : BrM => q.tid))).take (k2 * 2) ++ (#[Value.int .i64 tid, .slice q puts.length c] : Array Value).toList ++ (prb.flatMap (encPr (fun q : BrM => q.tid))).drop (k2 * 2))) (a.eval (.tmp 63)) W /\ OwnN w4 45 2 puts.length (puts.flatMap encPut) (.slice q puts.length c) W := hn 11 (by decide)
  obtain ⟨va, vc, hva, _, _⟩ := own_shape g11.1
  have gB := blk_tch hC HB4.out (fun h => h)
  have tS := Tch.setCell (F := (fun q => q = bs)) W ⟨bs, 5, none⟩ (a.eval (.tmp 63)) (fun _ => rfl)
  refine w_stSBranch (.tmp 64) (.tmp 63) rfl rfl g12 rfl (by rw [hva]; rfl) ((blk_cell gB 5).trans rfl) (blk_free gB 5) (fun z => ?_)
  have gB2 := blk_set gB 5 (a.eval (.tmp 63))
  rw [hva] at g11 tS gB2 ⊢
  refine hK _ _ (hC.no.trans tS (fun _ _ h => h)) ⟨va, _, vc, q, c, ⟨own_tch g11.1 tS (fun k hk e => by have g2 := g11.2 k hk; have g3 := HLT.out; have g4 := HS4.out; omega), g11.2⟩, ⟨own_tch g11o.1 tS (fun k hk e => by have g2 := g11o.2 k hk; have g3 := HLT.out; have g4 := HS4.out; omega), g11o.2⟩, gB2⟩ (by intro j hj h1 h2 h3; exfalso; revert j; decide)
 ·intro af wf hf hC hR
  obtain ⟨vs, hl, rfl⟩ := hf
  have hl : vs.length = 13 := hl
  obtain ⟨u0, vs0, hv0, hl⟩ := vs_cons hl
  obtain ⟨u1, vs1, hv1, hl⟩ := vs_cons hl
  obtain ⟨u2, vs2, hv2, hl⟩ := vs_cons hl
  obtain ⟨u3, vs3, hv3, hl⟩ := vs_cons hl
  obtain ⟨u4, vs4, hv4, hl⟩ := vs_cons hl
  obtain ⟨u5, vs5, hv5, hl⟩ := vs_cons hl
  obtain ⟨u6, vs6, hv6, hl⟩ := vs_cons hl
  obtain ⟨u7, vs7, hv7, hl⟩ := vs_cons hl
  obtain ⟨u8, vs8, hv8, hl⟩ := vs_cons hl
  obtain ⟨u9, vs9, hv9, hl⟩ := vs_cons hl
  obtain ⟨u10, vs10, hv10, hl⟩ := vs_cons hl
  obtain ⟨u11, vs11, hv11, hl⟩ := vs_cons hl
  obtain ⟨u12, vs12, hv12, hl⟩ := vs_cons hl
  have hvn := vs_nil hl
  have hvs : vs = [u0, u1, u2, u3, u4, u5, u6, u7, u8, u9, u10, u11, u12] := by rw [hv0, hv1, hv2, hv3, hv4, hv5, hv6, hv7, hv8, hv9, hv10, hv11, hv12, hvn]
  clear hvn hl hv0 hv1 hv2 hv3 hv4 hv5 hv6 hv7 hv8 hv9 hv10 hv11 hv12
  subst hvs
  have hfr2 := hfr.out
  subst hfr2
  simp only [putAll, Act.put, List.setIfInBounds_toArray, List.set_cons_succ, List.set_cons_zero]
  have r13 : ∃ va vn vc a c, (OwnN w4 95 2 (waits.length + 1) ((prb.flatMap (encPr (fun q : BrM => q.tid))).take (k2 * 2) ++ (#[Value.int .i64 tid, .slice a puts.length c] : Array Value).toList ++ (prb.flatMap (encPr (fun q : BrM => q.tid))).drop (k2 * 2))) (.slice va vn vc) wf /\ OwnN w4 45 2 puts.length (puts.flatMap encPut) (.slice a puts.length c) wf /\ wf.heap[bs]? = some (.cells #[.int .i64 brk, .int .i64 nid, .int .i64 nseq, .int .i64 tx, .slice ma ms.length mc, .slice va vn vc, .slice ea ends.length ec, .slice oa opens.length oc, .slice na noes.length nc] 29 (0, 0)) := hR 13 (by decide) (by decide)
  clear hR hlist hsz
  obtain ⟨va, vn, vc, ya, yc, gE0, gU0, gB⟩ := r13
  have GE := Lib.hid gE0
  have GU := Lib.hid gU0
  have Tf : Hid (Tch (fun q => q = bs) w4 wf) := hC
  have HBX : Hid (wf.heap[bs]? = some (.cells #[.int .i64 brk, .int .i64 nid, .int .i64 nseq, .int .i64 tx, .slice ma ms.length mc, .slice va vn vc, .slice ea ends.length ec, .slice oa opens.length oc, .slice na noes.length nc] 29 (0, 0))) := gB
  have HZX := Lib.hid (blk_tch hC HZ4.out (by have := HLT.out; show ¬ bz = bs; omega))
  clear gE0 gU0 gB hC
  obtain ⟨wz, hwz, HRZ, TZ⟩ := kx9 (W := wf) (b := bz) (T := 29) (.int .i64 brk) (.int .i64 nid) (.int .i64 nseq) (.int .i64 tx) (.slice ma ms.length mc) (.slice va vn vc) (.slice ea ends.length ec) (.slice oa opens.length oc) (.slice na noes.length nc) HZX.out
  rw [HBZ.out] at hwz
  obtain ⟨l0, l1, l2, l3, l4, l5, l6, l7, l8⟩ := kc9 HBX.out
  obtain ⟨r0, r1, r2, r3, r4, r5, r6, r7, r8⟩ := kc9 (W := wf) (b := bq + 1) (by rw [<- HBZ.out]; exact HZX.out)
  obtain ⟨fr0, fr1, fr2, fr3, fr4, fr5, fr6, fr7, fr8⟩ := kf9 (W := wf) (b := bq + 1) (by rw [<- HBZ.out]; exact HZX.out)
  go_wp2_with fail
  obtain ⟨q0, q1, q2, q3, q4, q5, q6, q7, q8⟩ := kc9 (W := wz) (b := bq + 1) (by rw [<- HBZ.out]; exact HRZ.out)
  refine bodyPost_ret (v := .agg #[.int .i64 brk, .int .i64 nid, .int .i64 nseq, .int .i64 tx, .slice ma ms.length mc, .slice va vn vc, .slice ea ends.length ec, .slice oa opens.length oc, .slice na noes.length nc]) (by simp [results, Tryz.results68, go_sem, q0, q1, q2, q3, q4, q5, q6, q7, q8]) rfl ?_
  have glt := HLT.out
  have tX : Tch (fun q => q = bs) w1 wf := TT4.out.no.trans Tf.out (fun _ _ h => h)
  have tz1 : Tch (fun q => q = bs ∨ q = bz) w1 wz := (tX.mono (G := fun q => q = bs ∨ q = bz) (fun _ _ h => .inl h)).trans (TZ.out.mono (G := fun q => q = bs ∨ q = bz) (fun _ _ h => .inr h)) (fun _ _ h => h)
  have e : doM ⟨brk, nid, nseq, tx, ms, waits, ends, opens, noes⟩ ⟨4, tid, rid, yes, parts, puts⟩ = ⟨brk, nid, nseq, tx, ms, insP (·.tid) waits ⟨tid, puts⟩, ends, opens, noes⟩ := by simp [doM]
  have tail : Tch No WE wz := TV1.out.fresh tz1 (fun q h => by omega)
  refine ⟨_, rfl, ?_, tail⟩
  rw [e]
  have mpb : (prb.take k2 ++ ((⟨tid, puts⟩ : BrM), .slice ya puts.length yc) :: prb.drop k2).map Prod.fst = insP (fun q : BrM => q.tid) waits ⟨tid, puts⟩ := by
   have h9 := insP_prs (fun q : BrM => q.tid) prb ⟨tid, puts⟩ (.slice ya puts.length yc)
   rw [HMB.out] at h9
   simp only [HK2.out.1] at h9
   exact h9
  refine ⟨_, _, _, _, _, (prb.take k2 ++ ((⟨tid, puts⟩ : BrM), .slice ya puts.length yc) :: prb.drop k2), pro, prn, rfl, mpb, HMO0.out, HMN0.out, fun W2 t2 => ?_⟩
  have gst := HST.out W2 (tail.no.trans t2 (fun i hi h => h.1))
  have tfA : Tch (fun q => q = bs ∨ q = bz ∨ q < WE.heap.size) wf W2 := (TZ.out.mono (G := (fun q => q = bs ∨ q = bz ∨ q < WE.heap.size)) (fun q _ h => .inr (.inl h))).trans (t2.mono (G := (fun q => q = bs ∨ q = bz ∨ q < WE.heap.size)) (fun q _ h => .inr (.inr h.2))) (fun _ _ h => h)
  have hs4 := HS4.out
  have o1 := own_tch GE.out.1 tfA (fun q hq e => by have g1 := GE.out.2 q hq; omega)
  have o2 := own_tch GU.out.1 tfA (fun q hq e => by have g1 := GU.out.2 q hq; omega)
  refine ⟨gst.ms, ?_, fun p hp => ?_, gst.en, gst.co, gst.io, gst.cn, gst.inn⟩
  ·obtain ⟨_, _, hsl, _, _⟩ := own_shape o1
   injection hsl with _ hvn _
   subst hvn
   have hcc := CellsAt.ofRow o1
   unfold IsL
   rw [len_ins2, HLB.out, List.flatMap_append, List.flatMap_cons]
   rw [flat_take (m := 2) (fun _ => rfl), flat_drop (m := 2) (fun _ => rfl), List.append_assoc] at hcc
   exact hcc
  ·rcases mem_ins2 hp with rfl | hp
   ·exact CellsAt.ofRow o2
   ·exact gst.ib p hp
end
end Go.Proofs.YtafndmnbnmlklaaGreat
