/- Part 18 of what the proof of StoreIds rests on. No condition. -/
import Derived.Test.YtafndmnbnmlklaaGreatPStoreIds14
namespace Go.Proofs.YtafndmnbnmlklaaGreat
set_option maxRecDepth 100000
set_option maxHeartbeats 60000000
set_option linter.unusedVariables false
set_option linter.unusedSimpArgs false
set_option linter.unusedSectionVars false
section
open Go.RowKit Go.Maps
structure AplOk (s : StM) (r : RecM) : Prop where
 risee : strictB (s.ends.map (·.tid)) = true
 risew : strictB (s.waits.map (·.tid)) = true
 riseo : strictB (s.opens.map (·.tid)) = true
 risen : strictB (s.noes.map (·.tid)) = true
 nms : s.ms.length <= 100000
 nw : s.waits.length <= 100000
 ne : s.ends.length <= 100000
 no : s.opens.length <= 100000
 nn : s.noes.length <= 100000
 nparts : r.parts.length <= 100000
 nputs : r.puts.length <= 100000
 wputs : ∀ b ∈ s.waits, b.puts.length <= 100000
 nparts2 : ∀ p ∈ s.noes, p.parts.length <= 100000
 brk : I64 s.broker
 nid : 0 <= s.nid /\ s.nid <= 4611686018427387904
 nseq : 0 <= s.nseq /\ s.nseq <= 4611686018427387904
 tx : 0 <= s.tx /\ s.tx <= 4611686018427387904
 cnt : ∀ m ∈ s.ms, 0 <= m.cnt /\ m.cnt <= 4611686018427387904
 ids : I64 r.id /\ ∀ m ∈ s.ms, I64 m.id
theorem AplOk.endOk {s : StM} {r : RecM} (h : AplOk s r) (hf : hasP (·.tid) s.ends r.tid = false) (puts : List PutM) (hp : puts.length <= 100000) : EndOk s r.tid puts :=
 ⟨h.risee, h.nms, h.nw, h.ne, h.no, hp, h.brk, h.nid, h.nseq, fun t e => by rw [e]; exact hf, h.cnt⟩
theorem IsSt.vals {w : World} {v : Value} {s : StM} (h : IsSt w v s) : ∃ am cm aw cw ae ce ao co an cn, v = .agg #[.int .i64 s.broker, .int .i64 s.nid, .int .i64 s.nseq, .int .i64 s.tx, .slice am s.ms.length cm, .slice aw s.waits.length cw, .slice ae s.ends.length ce, .slice ao s.opens.length co, .slice an s.noes.length cn] := by
 obtain ⟨vm, vw, ve, vo, vn, rfl, h1, h2, h3, h4, h5⟩ := h
 obtain ⟨am, cm, rfl, _, _⟩ := CellsAt.shape h1
 obtain ⟨aw, cw, rfl, _, _⟩ := h2.shape
 obtain ⟨ae, ce, rfl, _, _⟩ := CellsAt.shape h3
 obtain ⟨ao, co, rfl, _, _⟩ := h4.shape
 obtain ⟨an, cn, rfl, _, _⟩ := h5.shape
 exact ⟨am, cm, aw, cw, ae, ce, ao, co, an, cn, rfl⟩
theorem IsSt.noes {W : World} {a b c d vm vw ve vo vn vx : Value} {s : StM} {l : List PendM} (h : IsSt W (.agg #[a, b, c, d, vm, vw, ve, vo, vn]) s) (hl : IsPends W vx l) : IsSt W (.agg #[a, b, c, d, vm, vw, ve, vo, vx]) { s with noes := l } := by
 obtain ⟨xm, xw, xe, xo, xn, hv, h1, h2, h3, h4, h5⟩ := h
 injection hv with hv; injection hv with hv
 simp only [List.cons.injEq, and_true] at hv
 obtain ⟨rfl, rfl, rfl, rfl, rfl, rfl, rfl, rfl, rfl⟩ := hv
 exact ⟨_, _, _, _, _, rfl, h1, h2, h3, h4, hl⟩
theorem with_read {w0 wx W2 : World} {F : Nat -> Prop} {prs : List (PendM × Value)} {l : List PendM} {t : Int} {ps : List Int} {vq : Value} {ax : Option Addr} {nx cx : Nat} (hm : prs.map Prod.fst = l)
  (hO : OwnN w0 75 2 (prs.length + 1) ((prs.take (posP (·.tid) (prs.map Prod.fst) t) ++ ((⟨t, ps⟩ : PendM), vq) :: prs.drop (posP (·.tid) (prs.map Prod.fst) t)).flatMap (encPr (fun q : PendM => q.tid))) (.slice ax nx cx) wx) (hn : nx = prs.length + 1)
  (hI : OwnN w0 3 1 ps.length (ps.map (fun x => .int .i64 x)) vq wx) (t2 : Tch F wx W2) (hF : ∀ q, F q -> q < w0.heap.size) (hi : ∀ p ∈ prs, IsInts W2 p.2 p.1.parts) : (prs.take (posP (·.tid) (prs.map Prod.fst) t) ++ ((⟨t, ps⟩ : PendM), vq) :: prs.drop (posP (·.tid) (prs.map Prod.fst) t)).map Prod.fst = insP (·.tid) l ⟨t, ps⟩ /\ IsL (encPr (fun q : PendM => q.tid)) 2 W2 (.slice ax nx cx) (prs.take (posP (·.tid) (prs.map Prod.fst) t) ++ ((⟨t, ps⟩ : PendM), vq) :: prs.drop (posP (·.tid) (prs.map Prod.fst) t)) /\ ∀ p ∈ prs.take (posP (·.tid) (prs.map Prod.fst) t) ++ ((⟨t, ps⟩ : PendM), vq) :: prs.drop (posP (·.tid) (prs.map Prod.fst) t), IsInts W2 p.2 p.1.parts := by
 subst hn; subst hm
 have h1 := own_tch hO.1 t2 (fun q hq e => by have g1 := hO.2 q hq; have g2 := hF q e; omega)
 have h2 := own_tch hI.1 t2 (fun q hq e => by have g1 := hI.2 q hq; have g2 := hF q e; omega)
 refine ⟨insP_prs (fun q : PendM => q.tid) prs ⟨t, ps⟩ vq, ?_, fun p hp => ?_⟩
 ·unfold IsL
  rw [len_ins2]
  exact CellsAt.ofRow h1
 ·rcases mem_ins2 hp with rfl | hp
  ·exact CellsAt.ofRow h2
  ·exact hi p hp
theorem tch_we {w WE W X : World} {G : Nat -> Prop} (hwe : w = WE) (tw : Tch No w W) (t : Tch (fun k => G k ∨ WE.heap.size <= k) W X) : Tch G WE X := by
 subst hwe
 exact tw.no.trans t (fun i hi h => h.elim id (fun e => absurd hi (Nat.not_lt_of_le e)))
def AplPost (G : Nat -> Prop) (WE : World) (s : StM) (e : Ending) (w' : World) : Prop := ∃ v', e = .returned v' /\ StW (Tch (fun k => G k /\ k < WE.heap.size) w') v' s /\ Tch No WE w'
def RecW (Al : World -> Prop) (v : Value) (r : RecM) : Prop := ∃ vp vu, v = .agg #[.int .i64 r.kind, .int .i64 r.tid, .int .i64 r.id, .bool r.yes, vp, vu] /\ ∀ W, Al W -> IsInts W vp r.parts /\ IsPuts W vu r.puts
theorem RecW.of {v : Value} {r : RecM} {w : World} (h : IsRec w v r) : RecW (Tch No w) v r := by
 obtain ⟨vp, vu, e, h1, h2⟩ := h
 exact ⟨vp, vu, e, fun W t => ⟨h1.keep t, h2.keep t⟩⟩
theorem RecW.mono {Al Al' : World -> Prop} {v : Value} {r : RecM} (h : RecW Al v r) (hA : ∀ W, Al' W -> Al W) : RecW Al' v r := by
 obtain ⟨vp, vu, e, h1⟩ := h
 exact ⟨vp, vu, e, fun W hW => h1 W (hA W hW)⟩
theorem RecW.is {Al : World -> Prop} {v : Value} {r : RecM} (h : RecW Al v r) {W : World} (hW : Al W) : IsRec W v r := by
 obtain ⟨vp, vu, e, h1⟩ := h
 exact ⟨vp, vu, e, (h1 W hW).1, (h1 W hW).2⟩
theorem sapply1 (s : StM) (r : RecM) (hk : r.kind = 1) (ok : AplOk s r) (G : Nat -> Prop) (v vr : Value) (WE : World) (h0 : StW (Tch G WE) v s) (hr0 : RecW (Tch G WE) vr r) :
  Calls Tryz.prog 68 #[v, vr] WE (AplPost G WE (doM s r)) := by
 obtain ⟨w, hwe⟩ : ∃ x, x = WE := ⟨_, rfl⟩
 have te : Tch No w WE := by rw [hwe]; exact Tch.refl _ _
 have HWE := Lib.hid hwe
 obtain ⟨vm, vw, ve, vo, vn, prb, pro, prn, rfl, hmb, hmo, hmn, hst⟩ := h0
 have g0 := hst w (by rw [hwe]; exact Tch.refl _ _)
 have hm := g0.ms
 have hw := brs_pairs.2 ⟨prb, hmb, g0.cb, g0.ib⟩
 have he := g0.en
 have ho := pends_pairs.2 ⟨pro, hmo, g0.co, g0.io⟩
 have hno := pends_pairs.2 ⟨prn, hmn, g0.cn, g0.inn⟩
 obtain ⟨ma, mc, rfl, _, _⟩ := CellsAt.shape hm
 obtain ⟨wa, wk, rfl, _, _⟩ := hw.shape
 obtain ⟨ea, ec, rfl, _, _⟩ := CellsAt.shape he
 obtain ⟨oa, oc, rfl, _, _⟩ := ho.shape
 obtain ⟨na, nc, rfl, _, _⟩ := hno.shape
 obtain ⟨vp, vu, rfl, hpu⟩ := hr0
 obtain ⟨hp, hu⟩ := hpu w (by rw [hwe]; exact Tch.refl _ _)
 obtain ⟨qa, qc, rfl, _, _⟩ := CellsAt.shape hp
 obtain ⟨ua, uc, rfl, _, _⟩ := CellsAt.shape hu
 have OK := Lib.hid ok
 have HM := Lib.hid hm
 have HW := Lib.hid hw
 have HE := Lib.hid he
 have HO := Lib.hid ho
 have HNO := Lib.hid hno
 have HP := Lib.hid hp
 have HU := Lib.hid hu
 have TE := Lib.hid te
 have HST := Lib.hid hst
 have HG0 := Lib.hid g0
 have HMB0 := Lib.hid hmb
 have HMO0 := Lib.hid hmo
 have HMN0 := Lib.hid hmn
 have HPU0 := Lib.hid hpu
 have HSZW : Hid (w.heap.size = WE.heap.size) := by rw [Hid, hwe]
 clear hst g0 hmb hmo hmn hpu hwe
 obtain ⟨brk, nid, nseq, tx, ms, waits, ends, opens, noes⟩ := s
 obtain ⟨kd, tid, rid, yes, parts, puts⟩ := r
 simp only at hk HM HW HE HO HNO HP HU HMB0 HMO0 HMN0 HPU0 ⊢
 subst hk
 clear hm hw he ho hno hp hu ok
 obtain ⟨bs, hbs⟩ : ∃ x, WE.heap.size = x := ⟨_, rfl⟩
 obtain ⟨bq, hbq⟩ : ∃ x, (WE.alloc (.cells #[.int .i64 brk, .int .i64 nid, .int .i64 nseq, .int .i64 tx, .slice ma ms.length mc, .slice wa waits.length wk, .slice ea ends.length ec, .slice oa opens.length oc, .slice na noes.length nc] 29)).heap.size = x := ⟨_, rfl⟩
 obtain ⟨w1, hw1⟩ : ∃ x, ((WE.alloc (.cells #[.int .i64 brk, .int .i64 nid, .int .i64 nseq, .int .i64 tx, .slice ma ms.length mc, .slice wa waits.length wk, .slice ea ends.length ec, .slice oa opens.length oc, .slice na noes.length nc] 29)).alloc (.cells #[.int .i64 1, .int .i64 tid, .int .i64 rid, .bool yes, .slice qa parts.length qc, .slice ua puts.length uc] 34)).alloc (.cells #[.int .i64 0, .int .i64 0, .int .i64 0, .int .i64 0, .slice none 0 0, .slice none 0 0, .slice none 0 0, .slice none 0 0, .slice none 0 0] 29) = x := ⟨_, rfl⟩
 obtain ⟨bz, hbz⟩ : ∃ x, x = bq + 1 := ⟨_, rfl⟩
 have HB1 : Hid (w1.heap[bs]? = some (.cells #[.int .i64 brk, .int .i64 nid, .int .i64 nseq, .int .i64 tx, .slice ma ms.length mc, .slice wa waits.length wk, .slice ea ends.length ec, .slice oa opens.length oc, .slice na noes.length nc] 29 (0, 0))) := by
  rw [Hid, <- hw1, <- hbs]
  exact blk_tch ((Tch.alloc _ _).trans0 (Tch.alloc _ _)) (blk_new WE _) (fun h => h)
 have HQ1 : Hid (w1.heap[bq]? = some (.cells #[.int .i64 1, .int .i64 tid, .int .i64 rid, .bool yes, .slice qa parts.length qc, .slice ua puts.length uc] 34 (0, 0))) := by
  rw [Hid, <- hw1, <- hbq]
  exact blk_tch (Tch.alloc _ _) (blk_new _ _) (fun h => h)
 have HZ1 : Hid (w1.heap[bz]? = some (.cells #[.int .i64 0, .int .i64 0, .int .i64 0, .int .i64 0, .slice none 0 0, .slice none 0 0, .slice none 0 0, .slice none 0 0, .slice none 0 0] 29 (0, 0))) := by
  rw [Hid, <- hw1, hbz, <- hbq]
  have := blk_new ((WE.alloc (.cells #[.int .i64 brk, .int .i64 nid, .int .i64 nseq, .int .i64 tx, .slice ma ms.length mc, .slice wa waits.length wk, .slice ea ends.length ec, .slice oa opens.length oc, .slice na noes.length nc] 29)).alloc (.cells #[.int .i64 1, .int .i64 tid, .int .i64 rid, .bool yes, .slice qa parts.length qc, .slice ua puts.length uc] 34)) (.cells #[.int .i64 0, .int .i64 0, .int .i64 0, .int .i64 0, .slice none 0 0, .slice none 0 0, .slice none 0 0, .slice none 0 0, .slice none 0 0] 29)
  have e : ((WE.alloc (.cells #[.int .i64 brk, .int .i64 nid, .int .i64 nseq, .int .i64 tx, .slice ma ms.length mc, .slice wa waits.length wk, .slice ea ends.length ec, .slice oa opens.length oc, .slice na noes.length nc] 29)).alloc (.cells #[.int .i64 1, .int .i64 tid, .int .i64 rid, .bool yes, .slice qa parts.length qc, .slice ua puts.length uc] 34)).heap.size = (WE.alloc (.cells #[.int .i64 brk, .int .i64 nid, .int .i64 nseq, .int .i64 tx, .slice ma ms.length mc, .slice wa waits.length wk, .slice ea ends.length ec, .slice oa opens.length oc, .slice na noes.length nc] 29)).heap.size + 1 := by simp
  rwa [e] at this
 have TV1 : Hid (Tch No WE w1) := by rw [Hid, <- hw1]; exact ((Tch.alloc _ _).trans0 (Tch.alloc _ _)).trans0 (Tch.alloc _ _)
 have TW1 : Hid (Tch No w w1) := te.trans0 TV1.out
 have HLT : Hid (w.heap.size <= bs /\ WE.heap.size = bs /\ bq = bs + 1 /\ bz = bs + 2 /\ w1.heap.size = bs + 3) := by
  have e1 : bq = bs + 1 := by rw [<- hbq, <- hbs]; simp
  refine ⟨by rw [<- hbs]; exact te.size, hbs, e1, by omega, ?_⟩
  rw [<- hw1, <- hbs]; simp
 have HBZ := Lib.hid hbz
 clear hbz
 obtain ⟨b0, b1, b2, b3, b4, b5, b6, b7, b8⟩ := kc9 HB1.out
 obtain ⟨c0, c1, c2, c3, c4, c5⟩ := kc6 HQ1.out
 have htx : 0 <= tx /\ tx <= 4611686018427387904 := OK.out.tx
 obtain ⟨WX, hWX⟩ : ∃ x, w1.setCell ⟨bs, 3, none⟩ (.int .i64 (tx + 1)) = x := ⟨_, rfl⟩
 have TX : Hid (Tch (fun q => q = bs) w1 WX) := by rw [Hid, <- hWX]; exact Tch.setCell (F := (fun q => q = bs)) _ _ _ (fun _ => rfl)
 have HBX : Hid (WX.heap[bs]? = some (.cells #[.int .i64 brk, .int .i64 nid, .int .i64 nseq, .int .i64 (tx + 1), .slice ma ms.length mc, .slice wa waits.length wk, .slice ea ends.length ec, .slice oa opens.length oc, .slice na noes.length nc] 29 (0, 0))) := by rw [Hid, <- hWX]; exact blk_set HB1.out 3 _
 have HZX := Lib.hid (blk_tch TX.out HZ1.out (by have := HLT.out; show ¬ bz = bs; omega))
 have f3 := blk_free HB1.out 3
 obtain ⟨wz, hwz, HRZ, TZ⟩ := kx9 (W := WX) (b := bz) (T := 29) (.int .i64 brk) (.int .i64 nid) (.int .i64 nseq) (.int .i64 (tx + 1)) (.slice ma ms.length mc) (.slice wa waits.length wk) (.slice ea ends.length ec) (.slice oa opens.length oc) (.slice na noes.length nc) HZX.out
 rw [HBZ.out] at hwz
 obtain ⟨l0, l1, l2, l3, l4, l5, l6, l7, l8⟩ := kc9 HBX.out
 obtain ⟨r0, r1, r2, r3, r4, r5, r6, r7, r8⟩ := kc9 (W := WX) (b := bq + 1) (by rw [<- HBZ.out]; exact HZX.out)
 obtain ⟨fr0, fr1, fr2, fr3, fr4, fr5, fr6, fr7, fr8⟩ := kf9 (W := WX) (b := bq + 1) (by rw [<- HBZ.out]; exact HZX.out)
 go_enter Tryz.func68, Tryz.ntmps68
 go_wp2_with fail
 obtain ⟨q0, q1, q2, q3, q4, q5, q6, q7, q8⟩ := kc9 (W := wz) (b := bq + 1) (by rw [<- HBZ.out]; exact HRZ.out)
 refine bodyPost_ret (v := .agg #[.int .i64 brk, .int .i64 nid, .int .i64 nseq, .int .i64 (tx + 1), .slice ma ms.length mc, .slice wa waits.length wk, .slice ea ends.length ec, .slice oa opens.length oc, .slice na noes.length nc]) (by simp [results, Tryz.results68, go_sem, q0, q1, q2, q3, q4, q5, q6, q7, q8]) rfl ?_
 have glt := HLT.out
 have tX : Tch (fun q => q = bs) w1 WX := TX.out
 have tz1 : Tch (fun q => q = bs ∨ q = bz) w1 wz := (tX.mono (G := fun q => q = bs ∨ q = bz) (fun _ _ h => .inl h)).trans (TZ.out.mono (G := fun q => q = bs ∨ q = bz) (fun _ _ h => .inr h)) (fun _ _ h => h)
 have e : doM ⟨brk, nid, nseq, tx, ms, waits, ends, opens, noes⟩ ⟨1, tid, rid, yes, parts, puts⟩ = ⟨brk, nid, nseq, tx + 1, ms, waits, ends, opens, noes⟩ := by simp [doM]
 have tail : Tch No WE wz := TV1.out.fresh tz1 (fun q h => by omega)
 refine ⟨_, rfl, ?_, tail⟩
 rw [e]
 refine ⟨_, _, _, _, _, prb, pro, prn, rfl, HMB0.out, HMO0.out, HMN0.out, fun W2 t2 => ?_⟩
 have gst := HST.out W2 (tail.no.trans t2 (fun i hi h => h.1))
 refine ⟨gst.ms, gst.cb, gst.ib, gst.en, gst.co, gst.io, gst.cn, gst.inn⟩
theorem sapply3 (s : StM) (r : RecM) (hk : r.kind = 3) (ok : AplOk s r) (hf : hasP (·.tid) s.ends r.tid = false) (G : Nat -> Prop) (v vr : Value) (WE : World) (h0 : StW (Tch G WE) v s) (hr0 : RecW (Tch G WE) vr r) :
  Calls Tryz.prog 68 #[v, vr] WE (AplPost G WE (doM s r)) := by
 obtain ⟨w, hwe⟩ : ∃ x, x = WE := ⟨_, rfl⟩
 have te : Tch No w WE := by rw [hwe]; exact Tch.refl _ _
 have HWE := Lib.hid hwe
 obtain ⟨vm, vw, ve, vo, vn, prb, pro, prn, rfl, hmb, hmo, hmn, hst⟩ := h0
 have g0 := hst w (by rw [hwe]; exact Tch.refl _ _)
 have hm := g0.ms
 have hw := brs_pairs.2 ⟨prb, hmb, g0.cb, g0.ib⟩
 have he := g0.en
 have ho := pends_pairs.2 ⟨pro, hmo, g0.co, g0.io⟩
 have hno := pends_pairs.2 ⟨prn, hmn, g0.cn, g0.inn⟩
 obtain ⟨ma, mc, rfl, _, _⟩ := CellsAt.shape hm
 obtain ⟨wa, wk, rfl, _, _⟩ := hw.shape
 obtain ⟨ea, ec, rfl, _, _⟩ := CellsAt.shape he
 obtain ⟨oa, oc, rfl, _, _⟩ := ho.shape
 obtain ⟨na, nc, rfl, _, _⟩ := hno.shape
 obtain ⟨vp, vu, rfl, hpu⟩ := hr0
 obtain ⟨hp, hu⟩ := hpu w (by rw [hwe]; exact Tch.refl _ _)
 obtain ⟨qa, qc, rfl, _, _⟩ := CellsAt.shape hp
 obtain ⟨ua, uc, rfl, _, _⟩ := CellsAt.shape hu
 have OK := Lib.hid ok
 have HM := Lib.hid hm
 have HW := Lib.hid hw
 have HE := Lib.hid he
 have HO := Lib.hid ho
 have HNO := Lib.hid hno
 have HP := Lib.hid hp
 have HU := Lib.hid hu
 have TE := Lib.hid te
 have HST := Lib.hid hst
 have HG0 := Lib.hid g0
 have HMB0 := Lib.hid hmb
 have HMO0 := Lib.hid hmo
 have HMN0 := Lib.hid hmn
 have HPU0 := Lib.hid hpu
 have HSZW : Hid (w.heap.size = WE.heap.size) := by rw [Hid, hwe]
 clear hst g0 hmb hmo hmn hpu hwe
 obtain ⟨brk, nid, nseq, tx, ms, waits, ends, opens, noes⟩ := s
 obtain ⟨kd, tid, rid, yes, parts, puts⟩ := r
 simp only at hk HM HW HE HO HNO HP HU HMB0 HMO0 HMN0 HPU0 hf ⊢
 subst hk
 clear hm hw he ho hno hp hu ok
 obtain ⟨bs, hbs⟩ : ∃ x, WE.heap.size = x := ⟨_, rfl⟩
 obtain ⟨bq, hbq⟩ : ∃ x, (WE.alloc (.cells #[.int .i64 brk, .int .i64 nid, .int .i64 nseq, .int .i64 tx, .slice ma ms.length mc, .slice wa waits.length wk, .slice ea ends.length ec, .slice oa opens.length oc, .slice na noes.length nc] 29)).heap.size = x := ⟨_, rfl⟩
 obtain ⟨w1, hw1⟩ : ∃ x, ((WE.alloc (.cells #[.int .i64 brk, .int .i64 nid, .int .i64 nseq, .int .i64 tx, .slice ma ms.length mc, .slice wa waits.length wk, .slice ea ends.length ec, .slice oa opens.length oc, .slice na noes.length nc] 29)).alloc (.cells #[.int .i64 3, .int .i64 tid, .int .i64 rid, .bool yes, .slice qa parts.length qc, .slice ua puts.length uc] 34)).alloc (.cells #[.int .i64 0, .int .i64 0, .int .i64 0, .int .i64 0, .slice none 0 0, .slice none 0 0, .slice none 0 0, .slice none 0 0, .slice none 0 0] 29) = x := ⟨_, rfl⟩
 obtain ⟨bz, hbz⟩ : ∃ x, x = bq + 1 := ⟨_, rfl⟩
 have HB1 : Hid (w1.heap[bs]? = some (.cells #[.int .i64 brk, .int .i64 nid, .int .i64 nseq, .int .i64 tx, .slice ma ms.length mc, .slice wa waits.length wk, .slice ea ends.length ec, .slice oa opens.length oc, .slice na noes.length nc] 29 (0, 0))) := by
  rw [Hid, <- hw1, <- hbs]
  exact blk_tch ((Tch.alloc _ _).trans0 (Tch.alloc _ _)) (blk_new WE _) (fun h => h)
 have HQ1 : Hid (w1.heap[bq]? = some (.cells #[.int .i64 3, .int .i64 tid, .int .i64 rid, .bool yes, .slice qa parts.length qc, .slice ua puts.length uc] 34 (0, 0))) := by
  rw [Hid, <- hw1, <- hbq]
  exact blk_tch (Tch.alloc _ _) (blk_new _ _) (fun h => h)
 have HZ1 : Hid (w1.heap[bz]? = some (.cells #[.int .i64 0, .int .i64 0, .int .i64 0, .int .i64 0, .slice none 0 0, .slice none 0 0, .slice none 0 0, .slice none 0 0, .slice none 0 0] 29 (0, 0))) := by
  rw [Hid, <- hw1, hbz, <- hbq]
  have := blk_new ((WE.alloc (.cells #[.int .i64 brk, .int .i64 nid, .int .i64 nseq, .int .i64 tx, .slice ma ms.length mc, .slice wa waits.length wk, .slice ea ends.length ec, .slice oa opens.length oc, .slice na noes.length nc] 29)).alloc (.cells #[.int .i64 3, .int .i64 tid, .int .i64 rid, .bool yes, .slice qa parts.length qc, .slice ua puts.length uc] 34)) (.cells #[.int .i64 0, .int .i64 0, .int .i64 0, .int .i64 0, .slice none 0 0, .slice none 0 0, .slice none 0 0, .slice none 0 0, .slice none 0 0] 29)
  have e : ((WE.alloc (.cells #[.int .i64 brk, .int .i64 nid, .int .i64 nseq, .int .i64 tx, .slice ma ms.length mc, .slice wa waits.length wk, .slice ea ends.length ec, .slice oa opens.length oc, .slice na noes.length nc] 29)).alloc (.cells #[.int .i64 3, .int .i64 tid, .int .i64 rid, .bool yes, .slice qa parts.length qc, .slice ua puts.length uc] 34)).heap.size = (WE.alloc (.cells #[.int .i64 brk, .int .i64 nid, .int .i64 nseq, .int .i64 tx, .slice ma ms.length mc, .slice wa waits.length wk, .slice ea ends.length ec, .slice oa opens.length oc, .slice na noes.length nc] 29)).heap.size + 1 := by simp
  rwa [e] at this
 have TV1 : Hid (Tch No WE w1) := by rw [Hid, <- hw1]; exact ((Tch.alloc _ _).trans0 (Tch.alloc _ _)).trans0 (Tch.alloc _ _)
 have TW1 : Hid (Tch No w w1) := te.trans0 TV1.out
 have HLT : Hid (w.heap.size <= bs /\ WE.heap.size = bs /\ bq = bs + 1 /\ bz = bs + 2 /\ w1.heap.size = bs + 3) := by
  have e1 : bq = bs + 1 := by rw [<- hbq, <- hbs]; simp
  refine ⟨by rw [<- hbs]; exact te.size, hbs, e1, by omega, ?_⟩
  rw [<- hw1, <- hbs]; simp
 have HBZ := Lib.hid hbz
 clear hbz
 obtain ⟨b0, b1, b2, b3, b4, b5, b6, b7, b8⟩ := kc9 HB1.out
 obtain ⟨c0, c1, c2, c3, c4, c5⟩ := kc6 HQ1.out
 have HEND := Lib.hid (send_any (fun k => G k ∨ WE.heap.size <= k) ⟨brk, nid, nseq, tx, ms, waits, ends, opens, noes⟩ tid false ([]) (OK.out.endOk hf ([]) (by simp)) (.agg #[.int .i64 brk, .int .i64 nid, .int .i64 nseq, .int .i64 tx, .slice ma ms.length mc, .slice wa waits.length wk, .slice ea ends.length ec, .slice oa opens.length oc, .slice na noes.length nc]) (.slice none 0 0) w1 ⟨_, _, _, _, _, prb, pro, prn, rfl, HMB0.out, HMO0.out, HMN0.out, fun W t => HST.out W (TV1.out.no.trans t (fun i hi h => h.elim id (fun e => by omega)))⟩ (fun W t => CellsAt.nil _ _))
 clear hf
 go_enter Tryz.func68, Tryz.ntmps68
 go_wp2_with fail
 clear hbs hbq hw1 te
 refine HEND.out.mono ?_
 rintro e w5 ⟨v', rfl, h5, hz, T5⟩
 obtain ⟨e0, e1, e2, e3, am, nm, cm, aw, nw, cw, ae, ne, ce, ao, no, co, rfl⟩ : ∃ e0 e1 e2 e3 am nm cm aw nw cw ae ne ce ao no co, v' = .agg #[.int .i64 e0, .int .i64 e1, .int .i64 e2, .int .i64 e3, .slice am nm cm, .slice aw nw cw, .slice ae ne ce, .slice ao no co, .slice na noes.length nc] := by
  obtain ⟨x0, x1, x2, x3, x4, x5, x6, x7, y0, y1, y2, y3, y4, y5, y6, y7, z, hz1, hz2⟩ := hz
  obtain ⟨am, cm, aw, cw, ae, ce, ao, co, an, cn, hv⟩ := (h5.is (Tch.refl _ _)).vals
  have hzn : z = .slice na noes.length nc := by
   injection hz1 with hz1; injection hz1 with hz1
   simp only [List.cons.injEq, and_true] at hz1
   exact hz1.2.2.2.2.2.2.2.2.symm
  have hzm := hz2.symm.trans hv
  injection hzm with hzm; injection hzm with hzm
  simp only [List.cons.injEq, and_true] at hzm
  rw [<- hzm.2.2.2.2.2.2.2.2, hzn] at hv
  exact ⟨_, _, _, _, am, _, cm, aw, _, cw, ae, _, ce, ao, _, co, hv⟩
 have H5 := Lib.hid h5
 have TT5 : Hid (Tch No w1 w5) := T5
 clear h5 T5 hz
 have HB5 := Lib.hid (blk_tch TT5.out HB1.out (fun h => h))
 have HQ5 := Lib.hid (blk_tch TT5.out HQ1.out (fun h => h))
 have HZ5 := Lib.hid (blk_tch TT5.out HZ1.out (fun h => h))
 obtain ⟨w6, hw6, HB6, T6⟩ : ∃ W, (((((((((w5.setCell ⟨bs, 0, none⟩ (.int .i64 e0)).setCell ⟨bs, 1, none⟩ (.int .i64 e1)).setCell ⟨bs, 2, none⟩ (.int .i64 e2)).setCell ⟨bs, 3, none⟩ (.int .i64 e3)).setCell ⟨bs, 4, none⟩ (.slice am nm cm)).setCell ⟨bs, 5, none⟩ (.slice aw nw cw)).setCell ⟨bs, 6, none⟩ (.slice ae ne ce)).setCell ⟨bs, 7, none⟩ (.slice ao no co)).setCell ⟨bs, 8, none⟩ (.slice na noes.length nc)) = W /\ Hid (W.heap[bs]? = some (.cells #[.int .i64 e0, .int .i64 e1, .int .i64 e2, .int .i64 e3, .slice am nm cm, .slice aw nw cw, .slice ae ne ce, .slice ao no co, .slice na noes.length nc] 29 (0, 0))) /\ Hid (Tch (fun q => q = bs) w5 W) := by
  obtain ⟨g1, g2⟩ := set9e (W := w5) (b := bs) (T := 29) (.int .i64 e0) (.int .i64 e1) (.int .i64 e2) (.int .i64 e3) (.slice am nm cm) (.slice aw nw cw) (.slice ae ne ce) (.slice ao no co) (.slice na noes.length nc) HB5.out
  exact ⟨_, rfl, g1, g2⟩
 have HQ6 := Lib.hid (blk_tch T6.out HQ5.out (by have := HLT.out; show ¬ bq = bs; omega))
 have HZ6 := Lib.hid (blk_tch T6.out HZ5.out (by have := HLT.out; show ¬ bz = bs; omega))
 have z0 : w5.cell? ⟨bs, 0, none⟩ = some (.int .i64 brk) := (blk_cell HB5.out 0).trans rfl
 have zf0 := blk_free HB5.out 0
 have z1 : w5.cell? ⟨bs, 1, none⟩ = some (.int .i64 nid) := (blk_cell HB5.out 1).trans rfl
 have zf1 := blk_free HB5.out 1
 have z2 : w5.cell? ⟨bs, 2, none⟩ = some (.int .i64 nseq) := (blk_cell HB5.out 2).trans rfl
 have zf2 := blk_free HB5.out 2
 have z3 : w5.cell? ⟨bs, 3, none⟩ = some (.int .i64 tx) := (blk_cell HB5.out 3).trans rfl
 have zf3 := blk_free HB5.out 3
 have z4 : w5.cell? ⟨bs, 4, none⟩ = some (.slice ma ms.length mc) := (blk_cell HB5.out 4).trans rfl
 have zf4 := blk_free HB5.out 4
 have z5 : w5.cell? ⟨bs, 5, none⟩ = some (.slice wa waits.length wk) := (blk_cell HB5.out 5).trans rfl
 have zf5 := blk_free HB5.out 5
 have z6 : w5.cell? ⟨bs, 6, none⟩ = some (.slice ea ends.length ec) := (blk_cell HB5.out 6).trans rfl
 have zf6 := blk_free HB5.out 6
 have z7 : w5.cell? ⟨bs, 7, none⟩ = some (.slice oa opens.length oc) := (blk_cell HB5.out 7).trans rfl
 have zf7 := blk_free HB5.out 7
 have z8 : w5.cell? ⟨bs, 8, none⟩ = some (.slice na noes.length nc) := (blk_cell HB5.out 8).trans rfl
 have zf8 := blk_free HB5.out 8
 have HBX := HB6
 have HZX := HZ6
 obtain ⟨wz, hwz, HRZ, TZ⟩ := kx9 (W := w6) (b := bz) (T := 29) (.int .i64 e0) (.int .i64 e1) (.int .i64 e2) (.int .i64 e3) (.slice am nm cm) (.slice aw nw cw) (.slice ae ne ce) (.slice ao no co) (.slice na noes.length nc) HZX.out
 rw [HBZ.out] at hwz
 obtain ⟨l0, l1, l2, l3, l4, l5, l6, l7, l8⟩ := kc9 HBX.out
 obtain ⟨r0, r1, r2, r3, r4, r5, r6, r7, r8⟩ := kc9 (W := w6) (b := bq + 1) (by rw [<- HBZ.out]; exact HZX.out)
 obtain ⟨fr0, fr1, fr2, fr3, fr4, fr5, fr6, fr7, fr8⟩ := kf9 (W := w6) (b := bq + 1) (by rw [<- HBZ.out]; exact HZX.out)
 go_wp2_with fail
 obtain ⟨q0, q1, q2, q3, q4, q5, q6, q7, q8⟩ := kc9 (W := wz) (b := bq + 1) (by rw [<- HBZ.out]; exact HRZ.out)
 refine bodyPost_ret (v := .agg #[.int .i64 e0, .int .i64 e1, .int .i64 e2, .int .i64 e3, .slice am nm cm, .slice aw nw cw, .slice ae ne ce, .slice ao no co, .slice na noes.length nc]) (by simp [results, Tryz.results68, go_sem, q0, q1, q2, q3, q4, q5, q6, q7, q8]) rfl ?_
 have glt := HLT.out
 have tX : Tch (fun q => q = bs) w1 w6 := TT5.out.no.trans T6.out (fun _ _ h => h)
 have tz1 : Tch (fun q => q = bs ∨ q = bz) w1 wz := (tX.mono (G := fun q => q = bs ∨ q = bz) (fun _ _ h => .inl h)).trans (TZ.out.mono (G := fun q => q = bs ∨ q = bz) (fun _ _ h => .inr h)) (fun _ _ h => h)
 refine ⟨_, rfl, ?_, TV1.out.fresh tz1 (fun q h => by omega)⟩
 have t5w : ∀ W2, Tch (fun k => G k /\ k < WE.heap.size) wz W2 -> Tch (fun q => (G q ∨ WE.heap.size <= q) /\ q < w1.heap.size) w5 W2 := fun W2 t2 => ((T6.out.mono (G := (fun q => (G q ∨ WE.heap.size <= q) /\ q < w1.heap.size)) (fun q _ h => ⟨.inr (by omega), by omega⟩)).trans (TZ.out.mono (G := (fun q => (G q ∨ WE.heap.size <= q) /\ q < w1.heap.size)) (fun q _ h => ⟨.inr (by omega), by omega⟩)) (fun _ _ h => h)).trans (t2.mono (G := (fun q => (G q ∨ WE.heap.size <= q) /\ q < w1.heap.size)) (fun q _ h => ⟨.inl h.1, by have := h.2; omega⟩)) (fun _ _ h => h)
 have e : doM ⟨brk, nid, nseq, tx, ms, waits, ends, opens, noes⟩ ⟨3, tid, rid, yes, parts, puts⟩ = endM ⟨brk, nid, nseq, tx, ms, waits, ends, opens, noes⟩ tid false ([]) := by simp [doM]
 rw [e]
 exact H5.out.mono t5w
theorem sapply7 (s : StM) (r : RecM) (hk : r.kind = 7) (ok : AplOk s r) (hf : hasP (·.tid) s.ends r.tid = false) (G : Nat -> Prop) (v vr : Value) (WE : World) (h0 : StW (Tch G WE) v s) (hr0 : RecW (Tch G WE) vr r) :
  Calls Tryz.prog 68 #[v, vr] WE (AplPost G WE (doM s r)) := by
 obtain ⟨w, hwe⟩ : ∃ x, x = WE := ⟨_, rfl⟩
 have te : Tch No w WE := by rw [hwe]; exact Tch.refl _ _
 have HWE := Lib.hid hwe
 obtain ⟨vm, vw, ve, vo, vn, prb, pro, prn, rfl, hmb, hmo, hmn, hst⟩ := h0
 have g0 := hst w (by rw [hwe]; exact Tch.refl _ _)
 have hm := g0.ms
 have hw := brs_pairs.2 ⟨prb, hmb, g0.cb, g0.ib⟩
 have he := g0.en
 have ho := pends_pairs.2 ⟨pro, hmo, g0.co, g0.io⟩
 have hno := pends_pairs.2 ⟨prn, hmn, g0.cn, g0.inn⟩
 obtain ⟨ma, mc, rfl, _, _⟩ := CellsAt.shape hm
 obtain ⟨wa, wk, rfl, _, _⟩ := hw.shape
 obtain ⟨ea, ec, rfl, _, _⟩ := CellsAt.shape he
 obtain ⟨oa, oc, rfl, _, _⟩ := ho.shape
 obtain ⟨na, nc, rfl, _, _⟩ := hno.shape
 obtain ⟨vp, vu, rfl, hpu⟩ := hr0
 obtain ⟨hp, hu⟩ := hpu w (by rw [hwe]; exact Tch.refl _ _)
 obtain ⟨qa, qc, rfl, _, _⟩ := CellsAt.shape hp
 obtain ⟨ua, uc, rfl, _, _⟩ := CellsAt.shape hu
 have OK := Lib.hid ok
 have HM := Lib.hid hm
 have HW := Lib.hid hw
 have HE := Lib.hid he
 have HO := Lib.hid ho
 have HNO := Lib.hid hno
 have HP := Lib.hid hp
 have HU := Lib.hid hu
 have TE := Lib.hid te
 have HST := Lib.hid hst
 have HG0 := Lib.hid g0
 have HMB0 := Lib.hid hmb
 have HMO0 := Lib.hid hmo
 have HMN0 := Lib.hid hmn
 have HPU0 := Lib.hid hpu
 have HSZW : Hid (w.heap.size = WE.heap.size) := by rw [Hid, hwe]
 clear hst g0 hmb hmo hmn hpu hwe
 obtain ⟨brk, nid, nseq, tx, ms, waits, ends, opens, noes⟩ := s
 obtain ⟨kd, tid, rid, yes, parts, puts⟩ := r
 simp only at hk HM HW HE HO HNO HP HU HMB0 HMO0 HMN0 HPU0 hf ⊢
 subst hk
 clear hm hw he ho hno hp hu ok
 obtain ⟨bs, hbs⟩ : ∃ x, WE.heap.size = x := ⟨_, rfl⟩
 obtain ⟨bq, hbq⟩ : ∃ x, (WE.alloc (.cells #[.int .i64 brk, .int .i64 nid, .int .i64 nseq, .int .i64 tx, .slice ma ms.length mc, .slice wa waits.length wk, .slice ea ends.length ec, .slice oa opens.length oc, .slice na noes.length nc] 29)).heap.size = x := ⟨_, rfl⟩
 obtain ⟨w1, hw1⟩ : ∃ x, ((WE.alloc (.cells #[.int .i64 brk, .int .i64 nid, .int .i64 nseq, .int .i64 tx, .slice ma ms.length mc, .slice wa waits.length wk, .slice ea ends.length ec, .slice oa opens.length oc, .slice na noes.length nc] 29)).alloc (.cells #[.int .i64 7, .int .i64 tid, .int .i64 rid, .bool yes, .slice qa parts.length qc, .slice ua puts.length uc] 34)).alloc (.cells #[.int .i64 0, .int .i64 0, .int .i64 0, .int .i64 0, .slice none 0 0, .slice none 0 0, .slice none 0 0, .slice none 0 0, .slice none 0 0] 29) = x := ⟨_, rfl⟩
 obtain ⟨bz, hbz⟩ : ∃ x, x = bq + 1 := ⟨_, rfl⟩
 have HB1 : Hid (w1.heap[bs]? = some (.cells #[.int .i64 brk, .int .i64 nid, .int .i64 nseq, .int .i64 tx, .slice ma ms.length mc, .slice wa waits.length wk, .slice ea ends.length ec, .slice oa opens.length oc, .slice na noes.length nc] 29 (0, 0))) := by
  rw [Hid, <- hw1, <- hbs]
  exact blk_tch ((Tch.alloc _ _).trans0 (Tch.alloc _ _)) (blk_new WE _) (fun h => h)
 have HQ1 : Hid (w1.heap[bq]? = some (.cells #[.int .i64 7, .int .i64 tid, .int .i64 rid, .bool yes, .slice qa parts.length qc, .slice ua puts.length uc] 34 (0, 0))) := by
  rw [Hid, <- hw1, <- hbq]
  exact blk_tch (Tch.alloc _ _) (blk_new _ _) (fun h => h)
 have HZ1 : Hid (w1.heap[bz]? = some (.cells #[.int .i64 0, .int .i64 0, .int .i64 0, .int .i64 0, .slice none 0 0, .slice none 0 0, .slice none 0 0, .slice none 0 0, .slice none 0 0] 29 (0, 0))) := by
  rw [Hid, <- hw1, hbz, <- hbq]
  have := blk_new ((WE.alloc (.cells #[.int .i64 brk, .int .i64 nid, .int .i64 nseq, .int .i64 tx, .slice ma ms.length mc, .slice wa waits.length wk, .slice ea ends.length ec, .slice oa opens.length oc, .slice na noes.length nc] 29)).alloc (.cells #[.int .i64 7, .int .i64 tid, .int .i64 rid, .bool yes, .slice qa parts.length qc, .slice ua puts.length uc] 34)) (.cells #[.int .i64 0, .int .i64 0, .int .i64 0, .int .i64 0, .slice none 0 0, .slice none 0 0, .slice none 0 0, .slice none 0 0, .slice none 0 0] 29)
  have e : ((WE.alloc (.cells #[.int .i64 brk, .int .i64 nid, .int .i64 nseq, .int .i64 tx, .slice ma ms.length mc, .slice wa waits.length wk, .slice ea ends.length ec, .slice oa opens.length oc, .slice na noes.length nc] 29)).alloc (.cells #[.int .i64 7, .int .i64 tid, .int .i64 rid, .bool yes, .slice qa parts.length qc, .slice ua puts.length uc] 34)).heap.size = (WE.alloc (.cells #[.int .i64 brk, .int .i64 nid, .int .i64 nseq, .int .i64 tx, .slice ma ms.length mc, .slice wa waits.length wk, .slice ea ends.length ec, .slice oa opens.length oc, .slice na noes.length nc] 29)).heap.size + 1 := by simp
  rwa [e] at this
 have TV1 : Hid (Tch No WE w1) := by rw [Hid, <- hw1]; exact ((Tch.alloc _ _).trans0 (Tch.alloc _ _)).trans0 (Tch.alloc _ _)
 have TW1 : Hid (Tch No w w1) := te.trans0 TV1.out
 have HLT : Hid (w.heap.size <= bs /\ WE.heap.size = bs /\ bq = bs + 1 /\ bz = bs + 2 /\ w1.heap.size = bs + 3) := by
  have e1 : bq = bs + 1 := by rw [<- hbq, <- hbs]; simp
  refine ⟨by rw [<- hbs]; exact te.size, hbs, e1, by omega, ?_⟩
  rw [<- hw1, <- hbs]; simp
 have HBZ := Lib.hid hbz
 clear hbz
 obtain ⟨b0, b1, b2, b3, b4, b5, b6, b7, b8⟩ := kc9 HB1.out
 obtain ⟨c0, c1, c2, c3, c4, c5⟩ := kc6 HQ1.out
 have HEND := Lib.hid (send_any (fun k => G k ∨ WE.heap.size <= k) ⟨brk, nid, nseq, tx, ms, waits, ends, opens, noes⟩ tid true (puts) (OK.out.endOk hf (puts) (OK.out.nputs)) (.agg #[.int .i64 brk, .int .i64 nid, .int .i64 nseq, .int .i64 tx, .slice ma ms.length mc, .slice wa waits.length wk, .slice ea ends.length ec, .slice oa opens.length oc, .slice na noes.length nc]) (.slice ua puts.length uc) w1 ⟨_, _, _, _, _, prb, pro, prn, rfl, HMB0.out, HMO0.out, HMN0.out, fun W t => HST.out W (TV1.out.no.trans t (fun i hi h => h.elim id (fun e => by omega)))⟩ (fun W t => (HPU0.out W (TV1.out.no.trans t (fun i hi h => h.elim id (fun e => by omega)))).2))
 clear hf
 go_enter Tryz.func68, Tryz.ntmps68
 go_wp2_with fail
 clear hbs hbq hw1 te
 refine HEND.out.mono ?_
 rintro e w5 ⟨v', rfl, h5, hz, T5⟩
 obtain ⟨e0, e1, e2, e3, am, nm, cm, aw, nw, cw, ae, ne, ce, ao, no, co, rfl⟩ : ∃ e0 e1 e2 e3 am nm cm aw nw cw ae ne ce ao no co, v' = .agg #[.int .i64 e0, .int .i64 e1, .int .i64 e2, .int .i64 e3, .slice am nm cm, .slice aw nw cw, .slice ae ne ce, .slice ao no co, .slice na noes.length nc] := by
  obtain ⟨x0, x1, x2, x3, x4, x5, x6, x7, y0, y1, y2, y3, y4, y5, y6, y7, z, hz1, hz2⟩ := hz
  obtain ⟨am, cm, aw, cw, ae, ce, ao, co, an, cn, hv⟩ := (h5.is (Tch.refl _ _)).vals
  have hzn : z = .slice na noes.length nc := by
   injection hz1 with hz1; injection hz1 with hz1
   simp only [List.cons.injEq, and_true] at hz1
   exact hz1.2.2.2.2.2.2.2.2.symm
  have hzm := hz2.symm.trans hv
  injection hzm with hzm; injection hzm with hzm
  simp only [List.cons.injEq, and_true] at hzm
  rw [<- hzm.2.2.2.2.2.2.2.2, hzn] at hv
  exact ⟨_, _, _, _, am, _, cm, aw, _, cw, ae, _, ce, ao, _, co, hv⟩
 have H5 := Lib.hid h5
 have TT5 : Hid (Tch No w1 w5) := T5
 clear h5 T5 hz
 have HB5 := Lib.hid (blk_tch TT5.out HB1.out (fun h => h))
 have HQ5 := Lib.hid (blk_tch TT5.out HQ1.out (fun h => h))
 have HZ5 := Lib.hid (blk_tch TT5.out HZ1.out (fun h => h))
 obtain ⟨w6, hw6, HB6, T6⟩ : ∃ W, (((((((((w5.setCell ⟨bs, 0, none⟩ (.int .i64 e0)).setCell ⟨bs, 1, none⟩ (.int .i64 e1)).setCell ⟨bs, 2, none⟩ (.int .i64 e2)).setCell ⟨bs, 3, none⟩ (.int .i64 e3)).setCell ⟨bs, 4, none⟩ (.slice am nm cm)).setCell ⟨bs, 5, none⟩ (.slice aw nw cw)).setCell ⟨bs, 6, none⟩ (.slice ae ne ce)).setCell ⟨bs, 7, none⟩ (.slice ao no co)).setCell ⟨bs, 8, none⟩ (.slice na noes.length nc)) = W /\ Hid (W.heap[bs]? = some (.cells #[.int .i64 e0, .int .i64 e1, .int .i64 e2, .int .i64 e3, .slice am nm cm, .slice aw nw cw, .slice ae ne ce, .slice ao no co, .slice na noes.length nc] 29 (0, 0))) /\ Hid (Tch (fun q => q = bs) w5 W) := by
  obtain ⟨g1, g2⟩ := set9e (W := w5) (b := bs) (T := 29) (.int .i64 e0) (.int .i64 e1) (.int .i64 e2) (.int .i64 e3) (.slice am nm cm) (.slice aw nw cw) (.slice ae ne ce) (.slice ao no co) (.slice na noes.length nc) HB5.out
  exact ⟨_, rfl, g1, g2⟩
 have HQ6 := Lib.hid (blk_tch T6.out HQ5.out (by have := HLT.out; show ¬ bq = bs; omega))
 have HZ6 := Lib.hid (blk_tch T6.out HZ5.out (by have := HLT.out; show ¬ bz = bs; omega))
 have z0 : w5.cell? ⟨bs, 0, none⟩ = some (.int .i64 brk) := (blk_cell HB5.out 0).trans rfl
 have zf0 := blk_free HB5.out 0
 have z1 : w5.cell? ⟨bs, 1, none⟩ = some (.int .i64 nid) := (blk_cell HB5.out 1).trans rfl
 have zf1 := blk_free HB5.out 1
 have z2 : w5.cell? ⟨bs, 2, none⟩ = some (.int .i64 nseq) := (blk_cell HB5.out 2).trans rfl
 have zf2 := blk_free HB5.out 2
 have z3 : w5.cell? ⟨bs, 3, none⟩ = some (.int .i64 tx) := (blk_cell HB5.out 3).trans rfl
 have zf3 := blk_free HB5.out 3
 have z4 : w5.cell? ⟨bs, 4, none⟩ = some (.slice ma ms.length mc) := (blk_cell HB5.out 4).trans rfl
 have zf4 := blk_free HB5.out 4
 have z5 : w5.cell? ⟨bs, 5, none⟩ = some (.slice wa waits.length wk) := (blk_cell HB5.out 5).trans rfl
 have zf5 := blk_free HB5.out 5
 have z6 : w5.cell? ⟨bs, 6, none⟩ = some (.slice ea ends.length ec) := (blk_cell HB5.out 6).trans rfl
 have zf6 := blk_free HB5.out 6
 have z7 : w5.cell? ⟨bs, 7, none⟩ = some (.slice oa opens.length oc) := (blk_cell HB5.out 7).trans rfl
 have zf7 := blk_free HB5.out 7
 have z8 : w5.cell? ⟨bs, 8, none⟩ = some (.slice na noes.length nc) := (blk_cell HB5.out 8).trans rfl
 have zf8 := blk_free HB5.out 8
 have HBX := HB6
 have HZX := HZ6
 obtain ⟨wz, hwz, HRZ, TZ⟩ := kx9 (W := w6) (b := bz) (T := 29) (.int .i64 e0) (.int .i64 e1) (.int .i64 e2) (.int .i64 e3) (.slice am nm cm) (.slice aw nw cw) (.slice ae ne ce) (.slice ao no co) (.slice na noes.length nc) HZX.out
 rw [HBZ.out] at hwz
 obtain ⟨l0, l1, l2, l3, l4, l5, l6, l7, l8⟩ := kc9 HBX.out
 obtain ⟨r0, r1, r2, r3, r4, r5, r6, r7, r8⟩ := kc9 (W := w6) (b := bq + 1) (by rw [<- HBZ.out]; exact HZX.out)
 obtain ⟨fr0, fr1, fr2, fr3, fr4, fr5, fr6, fr7, fr8⟩ := kf9 (W := w6) (b := bq + 1) (by rw [<- HBZ.out]; exact HZX.out)
 go_wp2_with fail
 obtain ⟨q0, q1, q2, q3, q4, q5, q6, q7, q8⟩ := kc9 (W := wz) (b := bq + 1) (by rw [<- HBZ.out]; exact HRZ.out)
 refine bodyPost_ret (v := .agg #[.int .i64 e0, .int .i64 e1, .int .i64 e2, .int .i64 e3, .slice am nm cm, .slice aw nw cw, .slice ae ne ce, .slice ao no co, .slice na noes.length nc]) (by simp [results, Tryz.results68, go_sem, q0, q1, q2, q3, q4, q5, q6, q7, q8]) rfl ?_
 have glt := HLT.out
 have tX : Tch (fun q => q = bs) w1 w6 := TT5.out.no.trans T6.out (fun _ _ h => h)
 have tz1 : Tch (fun q => q = bs ∨ q = bz) w1 wz := (tX.mono (G := fun q => q = bs ∨ q = bz) (fun _ _ h => .inl h)).trans (TZ.out.mono (G := fun q => q = bs ∨ q = bz) (fun _ _ h => .inr h)) (fun _ _ h => h)
 refine ⟨_, rfl, ?_, TV1.out.fresh tz1 (fun q h => by omega)⟩
 have t5w : ∀ W2, Tch (fun k => G k /\ k < WE.heap.size) wz W2 -> Tch (fun q => (G q ∨ WE.heap.size <= q) /\ q < w1.heap.size) w5 W2 := fun W2 t2 => ((T6.out.mono (G := (fun q => (G q ∨ WE.heap.size <= q) /\ q < w1.heap.size)) (fun q _ h => ⟨.inr (by omega), by omega⟩)).trans (TZ.out.mono (G := (fun q => (G q ∨ WE.heap.size <= q) /\ q < w1.heap.size)) (fun q _ h => ⟨.inr (by omega), by omega⟩)) (fun _ _ h => h)).trans (t2.mono (G := (fun q => (G q ∨ WE.heap.size <= q) /\ q < w1.heap.size)) (fun q _ h => ⟨.inl h.1, by have := h.2; omega⟩)) (fun _ _ h => h)
 have e : doM ⟨brk, nid, nseq, tx, ms, waits, ends, opens, noes⟩ ⟨7, tid, rid, yes, parts, puts⟩ = endM ⟨brk, nid, nseq, tx, ms, waits, ends, opens, noes⟩ tid true (puts) := by simp [doM]
 rw [e]
 exact H5.out.mono t5w
theorem sapply6 (s : StM) (r : RecM) (hk : r.kind = 6) (ok : AplOk s r) (G : Nat -> Prop) (v vr : Value) (WE : World) (h0 : StW (Tch G WE) v s) (hr0 : RecW (Tch G WE) vr r) :
  Calls Tryz.prog 68 #[v, vr] WE (AplPost G WE (doM s r)) := by
 obtain ⟨w, hwe⟩ : ∃ x, x = WE := ⟨_, rfl⟩
 have te : Tch No w WE := by rw [hwe]; exact Tch.refl _ _
 have HWE := Lib.hid hwe
 obtain ⟨vm, vw, ve, vo, vn, prb, pro, prn, rfl, hmb, hmo, hmn, hst⟩ := h0
 have g0 := hst w (by rw [hwe]; exact Tch.refl _ _)
 have hm := g0.ms
 have hw := brs_pairs.2 ⟨prb, hmb, g0.cb, g0.ib⟩
 have he := g0.en
 have ho := pends_pairs.2 ⟨pro, hmo, g0.co, g0.io⟩
 have hno := pends_pairs.2 ⟨prn, hmn, g0.cn, g0.inn⟩
 obtain ⟨ma, mc, rfl, _, _⟩ := CellsAt.shape hm
 obtain ⟨wa, wk, rfl, _, _⟩ := hw.shape
 obtain ⟨ea, ec, rfl, _, _⟩ := CellsAt.shape he
 obtain ⟨oa, oc, rfl, _, _⟩ := ho.shape
 obtain ⟨na, nc, rfl, _, _⟩ := hno.shape
 obtain ⟨vp, vu, rfl, hpu⟩ := hr0
 obtain ⟨hp, hu⟩ := hpu w (by rw [hwe]; exact Tch.refl _ _)
 obtain ⟨qa, qc, rfl, _, _⟩ := CellsAt.shape hp
 obtain ⟨ua, uc, rfl, _, _⟩ := CellsAt.shape hu
 have OK := Lib.hid ok
 have HM := Lib.hid hm
 have HW := Lib.hid hw
 have HE := Lib.hid he
 have HO := Lib.hid ho
 have HNO := Lib.hid hno
 have HP := Lib.hid hp
 have HU := Lib.hid hu
 have TE := Lib.hid te
 have HST := Lib.hid hst
 have HG0 := Lib.hid g0
 have HMB0 := Lib.hid hmb
 have HMO0 := Lib.hid hmo
 have HMN0 := Lib.hid hmn
 have HPU0 := Lib.hid hpu
 have HSZW : Hid (w.heap.size = WE.heap.size) := by rw [Hid, hwe]
 clear hst g0 hmb hmo hmn hpu hwe
 obtain ⟨brk, nid, nseq, tx, ms, waits, ends, opens, noes⟩ := s
 obtain ⟨kd, tid, rid, yes, parts, puts⟩ := r
 simp only at hk HM HW HE HO HNO HP HU HMB0 HMO0 HMN0 HPU0 ⊢
 subst hk
 clear hm hw he ho hno hp hu ok
 obtain ⟨bs, hbs⟩ : ∃ x, WE.heap.size = x := ⟨_, rfl⟩
 obtain ⟨bq, hbq⟩ : ∃ x, (WE.alloc (.cells #[.int .i64 brk, .int .i64 nid, .int .i64 nseq, .int .i64 tx, .slice ma ms.length mc, .slice wa waits.length wk, .slice ea ends.length ec, .slice oa opens.length oc, .slice na noes.length nc] 29)).heap.size = x := ⟨_, rfl⟩
 obtain ⟨w1, hw1⟩ : ∃ x, ((WE.alloc (.cells #[.int .i64 brk, .int .i64 nid, .int .i64 nseq, .int .i64 tx, .slice ma ms.length mc, .slice wa waits.length wk, .slice ea ends.length ec, .slice oa opens.length oc, .slice na noes.length nc] 29)).alloc (.cells #[.int .i64 6, .int .i64 tid, .int .i64 rid, .bool yes, .slice qa parts.length qc, .slice ua puts.length uc] 34)).alloc (.cells #[.int .i64 0, .int .i64 0, .int .i64 0, .int .i64 0, .slice none 0 0, .slice none 0 0, .slice none 0 0, .slice none 0 0, .slice none 0 0] 29) = x := ⟨_, rfl⟩
 obtain ⟨bz, hbz⟩ : ∃ x, x = bq + 1 := ⟨_, rfl⟩
 have HB1 : Hid (w1.heap[bs]? = some (.cells #[.int .i64 brk, .int .i64 nid, .int .i64 nseq, .int .i64 tx, .slice ma ms.length mc, .slice wa waits.length wk, .slice ea ends.length ec, .slice oa opens.length oc, .slice na noes.length nc] 29 (0, 0))) := by
  rw [Hid, <- hw1, <- hbs]
  exact blk_tch ((Tch.alloc _ _).trans0 (Tch.alloc _ _)) (blk_new WE _) (fun h => h)
 have HQ1 : Hid (w1.heap[bq]? = some (.cells #[.int .i64 6, .int .i64 tid, .int .i64 rid, .bool yes, .slice qa parts.length qc, .slice ua puts.length uc] 34 (0, 0))) := by
  rw [Hid, <- hw1, <- hbq]
  exact blk_tch (Tch.alloc _ _) (blk_new _ _) (fun h => h)
 have HZ1 : Hid (w1.heap[bz]? = some (.cells #[.int .i64 0, .int .i64 0, .int .i64 0, .int .i64 0, .slice none 0 0, .slice none 0 0, .slice none 0 0, .slice none 0 0, .slice none 0 0] 29 (0, 0))) := by
  rw [Hid, <- hw1, hbz, <- hbq]
  have := blk_new ((WE.alloc (.cells #[.int .i64 brk, .int .i64 nid, .int .i64 nseq, .int .i64 tx, .slice ma ms.length mc, .slice wa waits.length wk, .slice ea ends.length ec, .slice oa opens.length oc, .slice na noes.length nc] 29)).alloc (.cells #[.int .i64 6, .int .i64 tid, .int .i64 rid, .bool yes, .slice qa parts.length qc, .slice ua puts.length uc] 34)) (.cells #[.int .i64 0, .int .i64 0, .int .i64 0, .int .i64 0, .slice none 0 0, .slice none 0 0, .slice none 0 0, .slice none 0 0, .slice none 0 0] 29)
  have e : ((WE.alloc (.cells #[.int .i64 brk, .int .i64 nid, .int .i64 nseq, .int .i64 tx, .slice ma ms.length mc, .slice wa waits.length wk, .slice ea ends.length ec, .slice oa opens.length oc, .slice na noes.length nc] 29)).alloc (.cells #[.int .i64 6, .int .i64 tid, .int .i64 rid, .bool yes, .slice qa parts.length qc, .slice ua puts.length uc] 34)).heap.size = (WE.alloc (.cells #[.int .i64 brk, .int .i64 nid, .int .i64 nseq, .int .i64 tx, .slice ma ms.length mc, .slice wa waits.length wk, .slice ea ends.length ec, .slice oa opens.length oc, .slice na noes.length nc] 29)).heap.size + 1 := by simp
  rwa [e] at this
 have TV1 : Hid (Tch No WE w1) := by rw [Hid, <- hw1]; exact ((Tch.alloc _ _).trans0 (Tch.alloc _ _)).trans0 (Tch.alloc _ _)
 have TW1 : Hid (Tch No w w1) := te.trans0 TV1.out
 have HLT : Hid (w.heap.size <= bs /\ WE.heap.size = bs /\ bq = bs + 1 /\ bz = bs + 2 /\ w1.heap.size = bs + 3) := by
  have e1 : bq = bs + 1 := by rw [<- hbq, <- hbs]; simp
  refine ⟨by rw [<- hbs]; exact te.size, hbs, e1, by omega, ?_⟩
  rw [<- hw1, <- hbs]; simp
 have HBZ := Lib.hid hbz
 clear hbz
 obtain ⟨b0, b1, b2, b3, b4, b5, b6, b7, b8⟩ := kc9 HB1.out
 obtain ⟨c0, c1, c2, c3, c4, c5⟩ := kc6 HQ1.out
 have hmo := HMO0.out
 have hco := HG0.out.co
 have hio := HG0.out.io
 have hlo : pro.length = opens.length := by rw [<- hmo, List.length_map]
 have hnO : opens.length <= 100000 := OK.out.no
 have hnP : parts.length <= 100000 := OK.out.nparts
 have HWITH := Lib.hid (swith_own pro (by rw [hmo]; exact OK.out.riseo) (by omega) tid parts (by omega) (.slice oa opens.length oc) (.slice qa parts.length qc) w1 (hco.keep TW1.out) (fun p hp => (hio p hp).keep TW1.out) (HP.out.keep TW1.out))
 have HMO := Lib.hid hmo
 have HIO := Lib.hid hio
 clear hmo hco hio hlo hnO hnP
 go_enter Tryz.func68, Tryz.ntmps68
 go_wp2_with fail
 clear hbs hbq hw1 te
 refine HWITH.out.mono ?_
 rintro e w5 ⟨v', vq, rfl, O5, I5, T5⟩
 obtain ⟨ax, nx, cx, rfl, hnx⟩ := own_shape' O5.1
 have OO5 := Lib.hid O5
 have II5 := Lib.hid I5
 have TT5 := Lib.hid T5
 have HNX : Hid (nx = pro.length + 1) := hnx
 clear O5 I5 T5 hnx
 have HB5 := Lib.hid (blk_tch TT5.out HB1.out (fun h => h))
 have HZ5 := Lib.hid (blk_tch TT5.out HZ1.out (fun h => h))
 obtain ⟨w6, hw6⟩ : ∃ x, w5.setCell ⟨bs, 7, none⟩ (.slice ax nx cx) = x := ⟨_, rfl⟩
 have T6 : Hid (Tch (fun q => q = bs) w5 w6) := by rw [Hid, <- hw6]; exact Tch.setCell (F := (fun q => q = bs)) _ _ _ (fun _ => rfl)
 have HBX : Hid (w6.heap[bs]? = some (.cells #[.int .i64 brk, .int .i64 nid, .int .i64 nseq, .int .i64 tx, .slice ma ms.length mc, .slice wa waits.length wk, .slice ea ends.length ec, .slice ax nx cx, .slice na noes.length nc] 29 (0, 0))) := by rw [Hid, <- hw6]; exact blk_set HB5.out 7 _
 have HZX := Lib.hid (blk_tch T6.out HZ5.out (by have := HLT.out; show ¬ bz = bs; omega))
 have z7 : w5.cell? ⟨bs, 7, none⟩ = some (.slice oa opens.length oc) := (blk_cell HB5.out 7).trans rfl
 have zf7 := blk_free HB5.out 7
 obtain ⟨wz, hwz, HRZ, TZ⟩ := kx9 (W := w6) (b := bz) (T := 29) (.int .i64 brk) (.int .i64 nid) (.int .i64 nseq) (.int .i64 tx) (.slice ma ms.length mc) (.slice wa waits.length wk) (.slice ea ends.length ec) (.slice ax nx cx) (.slice na noes.length nc) HZX.out
 rw [HBZ.out] at hwz
 obtain ⟨l0, l1, l2, l3, l4, l5, l6, l7, l8⟩ := kc9 HBX.out
 obtain ⟨r0, r1, r2, r3, r4, r5, r6, r7, r8⟩ := kc9 (W := w6) (b := bq + 1) (by rw [<- HBZ.out]; exact HZX.out)
 obtain ⟨fr0, fr1, fr2, fr3, fr4, fr5, fr6, fr7, fr8⟩ := kf9 (W := w6) (b := bq + 1) (by rw [<- HBZ.out]; exact HZX.out)
 go_wp2_with fail
 obtain ⟨q0, q1, q2, q3, q4, q5, q6, q7, q8⟩ := kc9 (W := wz) (b := bq + 1) (by rw [<- HBZ.out]; exact HRZ.out)
 refine bodyPost_ret (v := .agg #[.int .i64 brk, .int .i64 nid, .int .i64 nseq, .int .i64 tx, .slice ma ms.length mc, .slice wa waits.length wk, .slice ea ends.length ec, .slice ax nx cx, .slice na noes.length nc]) (by simp [results, Tryz.results68, go_sem, q0, q1, q2, q3, q4, q5, q6, q7, q8]) rfl ?_
 have glt := HLT.out
 have tX : Tch (fun q => q = bs) w1 w6 := TT5.out.no.trans T6.out (fun _ _ h => h)
 have tz1 : Tch (fun q => q = bs ∨ q = bz) w1 wz := (tX.mono (G := fun q => q = bs ∨ q = bz) (fun _ _ h => .inl h)).trans (TZ.out.mono (G := fun q => q = bs ∨ q = bz) (fun _ _ h => .inr h)) (fun _ _ h => h)
 have e : doM ⟨brk, nid, nseq, tx, ms, waits, ends, opens, noes⟩ ⟨6, tid, rid, yes, parts, puts⟩ = ⟨brk, nid, nseq, tx, ms, waits, ends, insP (·.tid) opens ⟨tid, parts⟩, noes⟩ := by simp [doM]
 have tail : Tch No WE wz := TV1.out.fresh tz1 (fun q h => by omega)
 refine ⟨_, rfl, ?_, tail⟩
 rw [e]
 refine ⟨_, _, _, _, _, prb, (pro.take (posP (·.tid) (pro.map Prod.fst) tid) ++ ((⟨tid, parts⟩ : PendM), vq) :: pro.drop (posP (·.tid) (pro.map Prod.fst) tid)), prn, rfl, HMB0.out, by have h9 := insP_prs (fun q : PendM => q.tid) pro ⟨tid, parts⟩ vq; rw [HMO.out] at h9 ⊢; exact h9, HMN0.out, fun W2 t2 => ?_⟩
 have gst := HST.out W2 (tail.no.trans t2 (fun i hi h => h.1))
 have t5A : Tch (fun q => q = bs ∨ q = bz ∨ q < WE.heap.size) w5 W2 := ((T6.out.mono (G := (fun q => q = bs ∨ q = bz ∨ q < WE.heap.size)) (fun q _ h => .inl h)).trans (TZ.out.mono (G := (fun q => q = bs ∨ q = bz ∨ q < WE.heap.size)) (fun q _ h => .inr (.inl h))) (fun _ _ h => h)).trans (t2.mono (G := (fun q => q = bs ∨ q = bz ∨ q < WE.heap.size)) (fun q _ h => .inr (.inr h.2))) (fun _ _ h => h)
 have gw := with_read HMO.out (OO5.out) HNX.out II5.out t5A (fun q hq => by omega) gst.io
 refine ⟨gst.ms, gst.cb, gst.ib, gst.en, gw.2.1, gw.2.2, gst.cn, gst.inn⟩
theorem sapply8 (s : StM) (r : RecM) (hk : r.kind = 8) (ok : AplOk s r) (hf : hasP (·.tid) s.ends r.tid = false) (G : Nat -> Prop) (v vr : Value) (WE : World) (h0 : StW (Tch G WE) v s) (hr0 : RecW (Tch G WE) vr r) :
  Calls Tryz.prog 68 #[v, vr] WE (AplPost G WE (doM s r)) := by
 obtain ⟨w, hwe⟩ : ∃ x, x = WE := ⟨_, rfl⟩
 have te : Tch No w WE := by rw [hwe]; exact Tch.refl _ _
 have HWE := Lib.hid hwe
 obtain ⟨vm, vw, ve, vo, vn, prb, pro, prn, rfl, hmb, hmo, hmn, hst⟩ := h0
 have g0 := hst w (by rw [hwe]; exact Tch.refl _ _)
 have hm := g0.ms
 have hw := brs_pairs.2 ⟨prb, hmb, g0.cb, g0.ib⟩
 have he := g0.en
 have ho := pends_pairs.2 ⟨pro, hmo, g0.co, g0.io⟩
 have hno := pends_pairs.2 ⟨prn, hmn, g0.cn, g0.inn⟩
 obtain ⟨ma, mc, rfl, _, _⟩ := CellsAt.shape hm
 obtain ⟨wa, wk, rfl, _, _⟩ := hw.shape
 obtain ⟨ea, ec, rfl, _, _⟩ := CellsAt.shape he
 obtain ⟨oa, oc, rfl, _, _⟩ := ho.shape
 obtain ⟨na, nc, rfl, _, _⟩ := hno.shape
 obtain ⟨vp, vu, rfl, hpu⟩ := hr0
 obtain ⟨hp, hu⟩ := hpu w (by rw [hwe]; exact Tch.refl _ _)
 obtain ⟨qa, qc, rfl, _, _⟩ := CellsAt.shape hp
 obtain ⟨ua, uc, rfl, _, _⟩ := CellsAt.shape hu
 have OK := Lib.hid ok
 have HM := Lib.hid hm
 have HW := Lib.hid hw
 have HE := Lib.hid he
 have HO := Lib.hid ho
 have HNO := Lib.hid hno
 have HP := Lib.hid hp
 have HU := Lib.hid hu
 have TE := Lib.hid te
 have HST := Lib.hid hst
 have HG0 := Lib.hid g0
 have HMB0 := Lib.hid hmb
 have HMO0 := Lib.hid hmo
 have HMN0 := Lib.hid hmn
 have HPU0 := Lib.hid hpu
 have HSZW : Hid (w.heap.size = WE.heap.size) := by rw [Hid, hwe]
 clear hst g0 hmb hmo hmn hpu hwe
 obtain ⟨brk, nid, nseq, tx, ms, waits, ends, opens, noes⟩ := s
 obtain ⟨kd, tid, rid, yes, parts, puts⟩ := r
 simp only at hk HM HW HE HO HNO HP HU HMB0 HMO0 HMN0 HPU0 hf ⊢
 subst hk
 clear hm hw he ho hno hp hu ok
 obtain ⟨bs, hbs⟩ : ∃ x, WE.heap.size = x := ⟨_, rfl⟩
 obtain ⟨bq, hbq⟩ : ∃ x, (WE.alloc (.cells #[.int .i64 brk, .int .i64 nid, .int .i64 nseq, .int .i64 tx, .slice ma ms.length mc, .slice wa waits.length wk, .slice ea ends.length ec, .slice oa opens.length oc, .slice na noes.length nc] 29)).heap.size = x := ⟨_, rfl⟩
 obtain ⟨w1, hw1⟩ : ∃ x, ((WE.alloc (.cells #[.int .i64 brk, .int .i64 nid, .int .i64 nseq, .int .i64 tx, .slice ma ms.length mc, .slice wa waits.length wk, .slice ea ends.length ec, .slice oa opens.length oc, .slice na noes.length nc] 29)).alloc (.cells #[.int .i64 8, .int .i64 tid, .int .i64 rid, .bool yes, .slice qa parts.length qc, .slice ua puts.length uc] 34)).alloc (.cells #[.int .i64 0, .int .i64 0, .int .i64 0, .int .i64 0, .slice none 0 0, .slice none 0 0, .slice none 0 0, .slice none 0 0, .slice none 0 0] 29) = x := ⟨_, rfl⟩
 obtain ⟨bz, hbz⟩ : ∃ x, x = bq + 1 := ⟨_, rfl⟩
 have HB1 : Hid (w1.heap[bs]? = some (.cells #[.int .i64 brk, .int .i64 nid, .int .i64 nseq, .int .i64 tx, .slice ma ms.length mc, .slice wa waits.length wk, .slice ea ends.length ec, .slice oa opens.length oc, .slice na noes.length nc] 29 (0, 0))) := by
  rw [Hid, <- hw1, <- hbs]
  exact blk_tch ((Tch.alloc _ _).trans0 (Tch.alloc _ _)) (blk_new WE _) (fun h => h)
 have HQ1 : Hid (w1.heap[bq]? = some (.cells #[.int .i64 8, .int .i64 tid, .int .i64 rid, .bool yes, .slice qa parts.length qc, .slice ua puts.length uc] 34 (0, 0))) := by
  rw [Hid, <- hw1, <- hbq]
  exact blk_tch (Tch.alloc _ _) (blk_new _ _) (fun h => h)
 have HZ1 : Hid (w1.heap[bz]? = some (.cells #[.int .i64 0, .int .i64 0, .int .i64 0, .int .i64 0, .slice none 0 0, .slice none 0 0, .slice none 0 0, .slice none 0 0, .slice none 0 0] 29 (0, 0))) := by
  rw [Hid, <- hw1, hbz, <- hbq]
  have := blk_new ((WE.alloc (.cells #[.int .i64 brk, .int .i64 nid, .int .i64 nseq, .int .i64 tx, .slice ma ms.length mc, .slice wa waits.length wk, .slice ea ends.length ec, .slice oa opens.length oc, .slice na noes.length nc] 29)).alloc (.cells #[.int .i64 8, .int .i64 tid, .int .i64 rid, .bool yes, .slice qa parts.length qc, .slice ua puts.length uc] 34)) (.cells #[.int .i64 0, .int .i64 0, .int .i64 0, .int .i64 0, .slice none 0 0, .slice none 0 0, .slice none 0 0, .slice none 0 0, .slice none 0 0] 29)
  have e : ((WE.alloc (.cells #[.int .i64 brk, .int .i64 nid, .int .i64 nseq, .int .i64 tx, .slice ma ms.length mc, .slice wa waits.length wk, .slice ea ends.length ec, .slice oa opens.length oc, .slice na noes.length nc] 29)).alloc (.cells #[.int .i64 8, .int .i64 tid, .int .i64 rid, .bool yes, .slice qa parts.length qc, .slice ua puts.length uc] 34)).heap.size = (WE.alloc (.cells #[.int .i64 brk, .int .i64 nid, .int .i64 nseq, .int .i64 tx, .slice ma ms.length mc, .slice wa waits.length wk, .slice ea ends.length ec, .slice oa opens.length oc, .slice na noes.length nc] 29)).heap.size + 1 := by simp
  rwa [e] at this
 have TV1 : Hid (Tch No WE w1) := by rw [Hid, <- hw1]; exact ((Tch.alloc _ _).trans0 (Tch.alloc _ _)).trans0 (Tch.alloc _ _)
 have TW1 : Hid (Tch No w w1) := te.trans0 TV1.out
 have HLT : Hid (w.heap.size <= bs /\ WE.heap.size = bs /\ bq = bs + 1 /\ bz = bs + 2 /\ w1.heap.size = bs + 3) := by
  have e1 : bq = bs + 1 := by rw [<- hbq, <- hbs]; simp
  refine ⟨by rw [<- hbs]; exact te.size, hbs, e1, by omega, ?_⟩
  rw [<- hw1, <- hbs]; simp
 have HBZ := Lib.hid hbz
 clear hbz
 obtain ⟨b0, b1, b2, b3, b4, b5, b6, b7, b8⟩ := kc9 HB1.out
 obtain ⟨c0, c1, c2, c3, c4, c5⟩ := kc6 HQ1.out
 have HEND := Lib.hid (send_any (fun k => G k ∨ WE.heap.size <= k) ⟨brk, nid, nseq, tx, ms, waits, ends, opens, noes⟩ tid false ([]) (OK.out.endOk hf ([]) (by simp)) (.agg #[.int .i64 brk, .int .i64 nid, .int .i64 nseq, .int .i64 tx, .slice ma ms.length mc, .slice wa waits.length wk, .slice ea ends.length ec, .slice oa opens.length oc, .slice na noes.length nc]) (.slice none 0 0) w1 ⟨_, _, _, _, _, prb, pro, prn, rfl, HMB0.out, HMO0.out, HMN0.out, fun W t => HST.out W (TV1.out.no.trans t (fun i hi h => h.elim id (fun e => by omega)))⟩ (fun W t => CellsAt.nil _ _))
 clear hf
 go_enter Tryz.func68, Tryz.ntmps68
 go_wp2_with fail
 clear hbs hbq hw1 te
 refine HEND.out.mono ?_
 rintro e w5 ⟨v', rfl, h5, hz, T5⟩
 obtain ⟨e0, e1, e2, e3, am, nm, cm, aw, nw, cw, ae, ne, ce, ao, no, co, rfl⟩ : ∃ e0 e1 e2 e3 am nm cm aw nw cw ae ne ce ao no co, v' = .agg #[.int .i64 e0, .int .i64 e1, .int .i64 e2, .int .i64 e3, .slice am nm cm, .slice aw nw cw, .slice ae ne ce, .slice ao no co, .slice na noes.length nc] := by
  obtain ⟨x0, x1, x2, x3, x4, x5, x6, x7, y0, y1, y2, y3, y4, y5, y6, y7, z, hz1, hz2⟩ := hz
  obtain ⟨am, cm, aw, cw, ae, ce, ao, co, an, cn, hv⟩ := (h5.is (Tch.refl _ _)).vals
  have hzn : z = .slice na noes.length nc := by
   injection hz1 with hz1; injection hz1 with hz1
   simp only [List.cons.injEq, and_true] at hz1
   exact hz1.2.2.2.2.2.2.2.2.symm
  have hzm := hz2.symm.trans hv
  injection hzm with hzm; injection hzm with hzm
  simp only [List.cons.injEq, and_true] at hzm
  rw [<- hzm.2.2.2.2.2.2.2.2, hzn] at hv
  exact ⟨_, _, _, _, am, _, cm, aw, _, cw, ae, _, ce, ao, _, co, hv⟩
 have H5 := Lib.hid h5
 have TT5 : Hid (Tch No w1 w5) := T5
 clear h5 T5 hz
 have HB5 := Lib.hid (blk_tch TT5.out HB1.out (fun h => h))
 have HQ5 := Lib.hid (blk_tch TT5.out HQ1.out (fun h => h))
 have HZ5 := Lib.hid (blk_tch TT5.out HZ1.out (fun h => h))
 obtain ⟨w6, hw6, HB6, T6⟩ : ∃ W, (((((((((w5.setCell ⟨bs, 0, none⟩ (.int .i64 e0)).setCell ⟨bs, 1, none⟩ (.int .i64 e1)).setCell ⟨bs, 2, none⟩ (.int .i64 e2)).setCell ⟨bs, 3, none⟩ (.int .i64 e3)).setCell ⟨bs, 4, none⟩ (.slice am nm cm)).setCell ⟨bs, 5, none⟩ (.slice aw nw cw)).setCell ⟨bs, 6, none⟩ (.slice ae ne ce)).setCell ⟨bs, 7, none⟩ (.slice ao no co)).setCell ⟨bs, 8, none⟩ (.slice na noes.length nc)) = W /\ Hid (W.heap[bs]? = some (.cells #[.int .i64 e0, .int .i64 e1, .int .i64 e2, .int .i64 e3, .slice am nm cm, .slice aw nw cw, .slice ae ne ce, .slice ao no co, .slice na noes.length nc] 29 (0, 0))) /\ Hid (Tch (fun q => q = bs) w5 W) := by
  obtain ⟨g1, g2⟩ := set9e (W := w5) (b := bs) (T := 29) (.int .i64 e0) (.int .i64 e1) (.int .i64 e2) (.int .i64 e3) (.slice am nm cm) (.slice aw nw cw) (.slice ae ne ce) (.slice ao no co) (.slice na noes.length nc) HB5.out
  exact ⟨_, rfl, g1, g2⟩
 have HQ6 := Lib.hid (blk_tch T6.out HQ5.out (by have := HLT.out; show ¬ bq = bs; omega))
 have HZ6 := Lib.hid (blk_tch T6.out HZ5.out (by have := HLT.out; show ¬ bz = bs; omega))
 have z0 : w5.cell? ⟨bs, 0, none⟩ = some (.int .i64 brk) := (blk_cell HB5.out 0).trans rfl
 have zf0 := blk_free HB5.out 0
 have z1 : w5.cell? ⟨bs, 1, none⟩ = some (.int .i64 nid) := (blk_cell HB5.out 1).trans rfl
 have zf1 := blk_free HB5.out 1
 have z2 : w5.cell? ⟨bs, 2, none⟩ = some (.int .i64 nseq) := (blk_cell HB5.out 2).trans rfl
 have zf2 := blk_free HB5.out 2
 have z3 : w5.cell? ⟨bs, 3, none⟩ = some (.int .i64 tx) := (blk_cell HB5.out 3).trans rfl
 have zf3 := blk_free HB5.out 3
 have z4 : w5.cell? ⟨bs, 4, none⟩ = some (.slice ma ms.length mc) := (blk_cell HB5.out 4).trans rfl
 have zf4 := blk_free HB5.out 4
 have z5 : w5.cell? ⟨bs, 5, none⟩ = some (.slice wa waits.length wk) := (blk_cell HB5.out 5).trans rfl
 have zf5 := blk_free HB5.out 5
 have z6 : w5.cell? ⟨bs, 6, none⟩ = some (.slice ea ends.length ec) := (blk_cell HB5.out 6).trans rfl
 have zf6 := blk_free HB5.out 6
 have z7 : w5.cell? ⟨bs, 7, none⟩ = some (.slice oa opens.length oc) := (blk_cell HB5.out 7).trans rfl
 have zf7 := blk_free HB5.out 7
 have z8 : w5.cell? ⟨bs, 8, none⟩ = some (.slice na noes.length nc) := (blk_cell HB5.out 8).trans rfl
 have zf8 := blk_free HB5.out 8
 have b64 : w6.cell? ⟨bq, 4, none⟩ = some (.slice qa parts.length qc) := (blk_cell HQ6.out 4).trans rfl
 by_cases hpp : parts = []
 ·subst hpp
  have HBX := HB6
  have HZX := HZ6
  obtain ⟨wz, hwz, HRZ, TZ⟩ := kx9 (W := w6) (b := bz) (T := 29) (.int .i64 e0) (.int .i64 e1) (.int .i64 e2) (.int .i64 e3) (.slice am nm cm) (.slice aw nw cw) (.slice ae ne ce) (.slice ao no co) (.slice na noes.length nc) HZX.out
  rw [HBZ.out] at hwz
  obtain ⟨l0, l1, l2, l3, l4, l5, l6, l7, l8⟩ := kc9 HBX.out
  obtain ⟨r0, r1, r2, r3, r4, r5, r6, r7, r8⟩ := kc9 (W := w6) (b := bq + 1) (by rw [<- HBZ.out]; exact HZX.out)
  obtain ⟨fr0, fr1, fr2, fr3, fr4, fr5, fr6, fr7, fr8⟩ := kf9 (W := w6) (b := bq + 1) (by rw [<- HBZ.out]; exact HZX.out)
  go_wp2_with fail
  obtain ⟨q0, q1, q2, q3, q4, q5, q6, q7, q8⟩ := kc9 (W := wz) (b := bq + 1) (by rw [<- HBZ.out]; exact HRZ.out)
  refine bodyPost_ret (v := .agg #[.int .i64 e0, .int .i64 e1, .int .i64 e2, .int .i64 e3, .slice am nm cm, .slice aw nw cw, .slice ae ne ce, .slice ao no co, .slice na noes.length nc]) (by simp [results, Tryz.results68, go_sem, q0, q1, q2, q3, q4, q5, q6, q7, q8]) rfl ?_
  have glt := HLT.out
  have tX : Tch (fun q => q = bs) w1 w6 := TT5.out.no.trans T6.out (fun _ _ h => h)
  have tz1 : Tch (fun q => q = bs ∨ q = bz) w1 wz := (tX.mono (G := fun q => q = bs ∨ q = bz) (fun _ _ h => .inl h)).trans (TZ.out.mono (G := fun q => q = bs ∨ q = bz) (fun _ _ h => .inr h)) (fun _ _ h => h)
  refine ⟨_, rfl, ?_, TV1.out.fresh tz1 (fun q h => by omega)⟩
  have t5w : ∀ W2, Tch (fun k => G k /\ k < WE.heap.size) wz W2 -> Tch (fun q => (G q ∨ WE.heap.size <= q) /\ q < w1.heap.size) w5 W2 := fun W2 t2 => ((T6.out.mono (G := (fun q => (G q ∨ WE.heap.size <= q) /\ q < w1.heap.size)) (fun q _ h => ⟨.inr (by omega), by omega⟩)).trans (TZ.out.mono (G := (fun q => (G q ∨ WE.heap.size <= q) /\ q < w1.heap.size)) (fun q _ h => ⟨.inr (by omega), by omega⟩)) (fun _ _ h => h)).trans (t2.mono (G := (fun q => (G q ∨ WE.heap.size <= q) /\ q < w1.heap.size)) (fun q _ h => ⟨.inl h.1, by have := h.2; omega⟩)) (fun _ _ h => h)
  have e : doM ⟨brk, nid, nseq, tx, ms, waits, ends, opens, noes⟩ ⟨8, tid, rid, yes, [], puts⟩ = endM ⟨brk, nid, nseq, tx, ms, waits, ends, opens, noes⟩ tid false [] := by simp [doM]
  rw [e]
  exact H5.out.mono t5w
 ·have hpl : 0 < parts.length := List.length_pos_iff.2 hpp
  have HPP := Lib.hid hpp
  clear hpp
  have hmn := HMN0.out
  have hcn := HG0.out.cn
  have hin := HG0.out.inn
  have hln : prn.length = noes.length := by rw [<- hmn, List.length_map]
  have hnN : noes.length <= 100000 := OK.out.nn
  have hnP : parts.length <= 100000 := OK.out.nparts
  have TW6 : Hid (Tch No w w6) := (TW1.out.trans0 TT5.out).fresh T6.out (fun q h => by have := HLT.out; omega)
  have HWITH := Lib.hid (swith_own prn (by rw [hmn]; exact OK.out.risen) (by omega) tid parts (by omega) (.slice na noes.length nc) (.slice qa parts.length qc) w6 (hcn.keep TW6.out) (fun p hp => (hin p hp).keep TW6.out) (HP.out.keep TW6.out))
  have HMN := Lib.hid hmn
  have HIN := Lib.hid hin
  have y8 : w6.cell? ⟨bs, 8, none⟩ = some (.slice na noes.length nc) := (blk_cell HB6.out 8).trans rfl
  have y1 : w6.cell? ⟨bq, 1, none⟩ = some (.int .i64 tid) := (blk_cell HQ6.out 1).trans rfl
  clear hmn hcn hin hln hnN hnP
  go_wp2_with fail
  refine HWITH.out.mono ?_
  rintro e w7 ⟨v', vq, rfl, O7, I7, T7⟩
  obtain ⟨ax, nx, cx, rfl, hnx⟩ := own_shape' O7.1
  have OO7 := Lib.hid O7
  have II7 := Lib.hid I7
  have TT7 := Lib.hid T7
  have HNX : Hid (nx = prn.length + 1) := hnx
  clear O7 I7 T7 hnx
  have HB7 := Lib.hid (blk_tch TT7.out HB6.out (fun h => h))
  have HZ7 := Lib.hid (blk_tch TT7.out HZ6.out (fun h => h))
  obtain ⟨w8, hw8⟩ : ∃ x, w7.setCell ⟨bs, 8, none⟩ (.slice ax nx cx) = x := ⟨_, rfl⟩
  have T8 : Hid (Tch (fun q => q = bs) w7 w8) := by rw [Hid, <- hw8]; exact Tch.setCell (F := (fun q => q = bs)) _ _ _ (fun _ => rfl)
  have HBX : Hid (w8.heap[bs]? = some (.cells #[.int .i64 e0, .int .i64 e1, .int .i64 e2, .int .i64 e3, .slice am nm cm, .slice aw nw cw, .slice ae ne ce, .slice ao no co, .slice ax nx cx] 29 (0, 0))) := by rw [Hid, <- hw8]; exact blk_set HB7.out 8 _
  have HZX := Lib.hid (blk_tch T8.out HZ7.out (by have := HLT.out; show ¬ bz = bs; omega))
  have zz8 : w7.cell? ⟨bs, 8, none⟩ = some (.slice na noes.length nc) := (blk_cell HB7.out 8).trans rfl
  have zzf8 := blk_free HB7.out 8
  obtain ⟨wz, hwz, HRZ, TZ⟩ := kx9 (W := w8) (b := bz) (T := 29) (.int .i64 e0) (.int .i64 e1) (.int .i64 e2) (.int .i64 e3) (.slice am nm cm) (.slice aw nw cw) (.slice ae ne ce) (.slice ao no co) (.slice ax nx cx) HZX.out
  rw [HBZ.out] at hwz
  obtain ⟨l0, l1, l2, l3, l4, l5, l6, l7, l8⟩ := kc9 HBX.out
  obtain ⟨r0, r1, r2, r3, r4, r5, r6, r7, r8⟩ := kc9 (W := w8) (b := bq + 1) (by rw [<- HBZ.out]; exact HZX.out)
  obtain ⟨fr0, fr1, fr2, fr3, fr4, fr5, fr6, fr7, fr8⟩ := kf9 (W := w8) (b := bq + 1) (by rw [<- HBZ.out]; exact HZX.out)
  go_wp2_with fail
  obtain ⟨q0, q1, q2, q3, q4, q5, q6, q7, q8⟩ := kc9 (W := wz) (b := bq + 1) (by rw [<- HBZ.out]; exact HRZ.out)
  refine bodyPost_ret (v := .agg #[.int .i64 e0, .int .i64 e1, .int .i64 e2, .int .i64 e3, .slice am nm cm, .slice aw nw cw, .slice ae ne ce, .slice ao no co, .slice ax nx cx]) (by simp [results, Tryz.results68, go_sem, q0, q1, q2, q3, q4, q5, q6, q7, q8]) rfl ?_
  have glt := HLT.out
  have tX : Tch (fun q => q = bs) w1 w8 := (TT5.out.no.trans T6.out (fun _ _ h => h)).trans (TT7.out.no.trans T8.out (fun _ _ h => h)) (fun _ _ h => h)
  have tz1 : Tch (fun q => q = bs ∨ q = bz) w1 wz := (tX.mono (G := fun q => q = bs ∨ q = bz) (fun _ _ h => .inl h)).trans (TZ.out.mono (G := fun q => q = bs ∨ q = bz) (fun _ _ h => .inr h)) (fun _ _ h => h)
  have e : doM ⟨brk, nid, nseq, tx, ms, waits, ends, opens, noes⟩ ⟨8, tid, rid, yes, parts, puts⟩ = { endM ⟨brk, nid, nseq, tx, ms, waits, ends, opens, noes⟩ tid false [] with noes := insP (·.tid) noes ⟨tid, parts⟩ } := by
   simp [doM, HPP.out, endM]
  have tail : Tch No WE wz := TV1.out.fresh tz1 (fun q h => by omega)
  refine ⟨_, rfl, ?_, tail⟩
  rw [e]
  obtain ⟨ym, yw, ye, yo, yn, ypb, ypo, ypn, hyv, ymb, ymo, ymn, hyst⟩ := H5.out
  injection hyv with hyv; injection hyv with hyv
  simp only [List.cons.injEq, and_true, Value.int.injEq, true_and] at hyv
  obtain ⟨rfl, rfl, rfl, rfl, rfl, rfl, rfl, rfl, rfl⟩ := hyv
  refine ⟨_, _, _, _, _, ypb, ypo, (prn.take (posP (·.tid) (prn.map Prod.fst) tid) ++ ((⟨tid, parts⟩ : PendM), vq) :: prn.drop (posP (·.tid) (prn.map Prod.fst) tid)), rfl, ymb, ymo, by have h9 := insP_prs (fun q : PendM => q.tid) prn ⟨tid, parts⟩ vq; rw [HMN.out] at h9 ⊢; exact h9, fun W2 t2 => ?_⟩
  have gst := HST.out W2 (tail.no.trans t2 (fun i hi h => h.1))
  have t7A : Tch (fun q => q = bs ∨ q = bz ∨ q < WE.heap.size) w7 W2 := ((T8.out.mono (G := (fun q => q = bs ∨ q = bz ∨ q < WE.heap.size)) (fun q _ h => .inl h)).trans (TZ.out.mono (G := (fun q => q = bs ∨ q = bz ∨ q < WE.heap.size)) (fun q _ h => .inr (.inl h))) (fun _ _ h => h)).trans (t2.mono (G := (fun q => q = bs ∨ q = bz ∨ q < WE.heap.size)) (fun q _ h => .inr (.inr h.2))) (fun _ _ h => h)
  have hs6 : w1.heap.size <= w6.heap.size := Nat.le_trans TT5.out.size T6.out.size
  have t5w : Tch (fun q => (G q ∨ WE.heap.size <= q) /\ q < w1.heap.size) w5 W2 := (((T6.out.mono (G := (fun q => (G q ∨ WE.heap.size <= q) /\ q < w1.heap.size)) (fun q _ h => ⟨.inr (by omega), by omega⟩)).trans0 TT7.out).trans (T8.out.mono (G := (fun q => (G q ∨ WE.heap.size <= q) /\ q < w1.heap.size)) (fun q _ h => ⟨.inr (by omega), by omega⟩)) (fun _ _ h => h)).trans ((TZ.out.mono (G := (fun q => (G q ∨ WE.heap.size <= q) /\ q < w1.heap.size)) (fun q _ h => ⟨.inr (by omega), by omega⟩)).trans (t2.mono (G := (fun q => (G q ∨ WE.heap.size <= q) /\ q < w1.heap.size)) (fun q _ h => ⟨.inl h.1, by have := h.2; omega⟩)) (fun _ _ h => h)) (fun _ _ h => h)
  have hst := hyst W2 t5w
  have gw := with_read HMN.out OO7.out HNX.out II7.out t7A (fun q hq => by omega) gst.inn
  exact ⟨hst.ms, hst.cb, hst.ib, hst.en, hst.co, hst.io, gw.2.1, gw.2.2⟩
end
end Go.Proofs.YtafndmnbnmlklaaGreat
