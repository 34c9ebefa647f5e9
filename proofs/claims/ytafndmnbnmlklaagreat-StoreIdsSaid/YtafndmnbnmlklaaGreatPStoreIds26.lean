/- Part 26 of what the proof of StoreIds rests on. No condition. -/
import Derived.Test.YtafndmnbnmlklaaGreatPStoreIds01
import Derived.Test.YtafndmnbnmlklaaGreatPStoreIds22
import Derived.Test.YtafndmnbnmlklaaGreatPStoreIds23
import Derived.Test.YtafndmnbnmlklaaGreatPStoreIds25
namespace Go.Proofs.YtafndmnbnmlklaaGreat
set_option maxRecDepth 100000
set_option maxHeartbeats 60000000
set_option linter.unusedVariables false
set_option linter.unusedSimpArgs false
set_option linter.unusedSectionVars false
section
open Go.RowKit Go.Maps
theorem can0 {s : StM} {r : RecM} (h : canM s r = 0) : recB r = true /\ (r.kind ≠ 9 -> hasP (·.tid) s.ends r.tid = false) /\ (r.kind = 2 -> hasP (·.id) s.ms r.id = true) /\ (r.kind = 4 -> hasP (·.tid) s.waits r.tid = false) /\ (r.kind = 5 -> hasP (·.tid) s.waits r.tid = true) /\ (r.kind = 9 -> hasP (·.tid) s.noes r.tid = true) := by
 unfold canM at h
 by_cases h1 : recB r = false
 ·rw [if_pos h1] at h; cases h
 rw [if_neg h1] at h
 by_cases h2 : r.kind ≠ 9 /\ hasP (·.tid) s.ends r.tid = true
 ·rw [if_pos h2] at h; cases h
 rw [if_neg h2] at h
 simp only at h
 refine ⟨by simpa using h1, fun hk => ?_, fun hk => ?_, fun hk => ?_, fun hk => ?_, fun hk => ?_⟩
 ·cases hh : hasP (fun x : EndM => x.tid) s.ends r.tid with
  | false => rfl
  | true => exact absurd ⟨hk, hh⟩ h2
 ·rw [if_pos hk] at h
  cases hf : s.ms.find? (fun m => decide (m.id = r.id)) with
  | none => rw [hf] at h; cases h
  | some m => exact hasP_iff.2 ⟨m, List.mem_of_find?_eq_some hf, by simpa using List.find?_some hf⟩
 ·rw [if_neg (by omega), if_neg (by omega), if_neg (by omega), if_neg (by omega), if_neg (by omega), if_pos hk] at h
  cases hh : hasP (fun x : BrM => x.tid) s.waits r.tid with
  | false => rfl
  | true => rw [if_pos (.inl hh)] at h; cases h
 ·rw [if_neg (by omega), if_pos hk] at h
  cases hh : hasP (fun x : BrM => x.tid) s.waits r.tid with
  | false => rw [if_pos hh] at h; cases h
  | true => rfl
 ·rw [if_neg (by omega), if_neg (by omega), if_pos hk] at h
  cases hf : s.noes.find? (fun p => decide (p.tid = r.tid)) with
  | none => rw [hf] at h; cases h
  | some p => exact hasP_iff.2 ⟨p, List.mem_of_find?_eq_some hf, by simpa using List.find?_some hf⟩
theorem rec_len {r : RecM} (h : recB r = true) : (1 <= r.kind /\ r.kind <= 9) /\ r.parts.length <= 7 /\ r.puts.length <= 10 /\ (r.kind = 9 -> r.parts.length = 1) := by
 unfold recB at h
 simp only [Bool.and_eq_true, decide_eq_true_eq] at h
 obtain ⟨⟨⟨⟨⟨h1, h2⟩, h3⟩, h4⟩, h5⟩, h6⟩ := h
 refine ⟨h1, ?_, ?_, fun hk => ?_⟩
 ·split at h6
  ·simp at h6; omega
  ·split at h6
   ·simp at h6; omega
   ·split at h6
    ·simp at h6; omega
    ·simp at h6; simp [h6]
 ·split at h5
  ·simp at h5; omega
  ·simp at h5; simp [h5]
 ·rw [if_neg (by omega), if_neg (by omega), if_pos hk] at h6
  simp at h6
  exact h6.1
theorem aplOk {s : StM} {r : RecM} (hs : OkSt s) (hm : MayP s) (hr : OkRec r) (hb : recB r = true) : AplOk s r := by
 obtain ⟨l1, l2, l3, l4⟩ := rec_len hb
 have h1 := hm.lms; have h2 := hm.lw; have h3 := hm.le; have h4 := hm.lo; have h5 := hm.ln
 have n1 := hm.nid; have n2 := hm.nseq; have n3 := hm.tx
 exact ⟨hm.ends2, hm.waits2, hm.opens2, hm.noes2, by omega, by omega, by omega, by omega, by omega, by omega, by omega,
  fun b hb => by have := (hm.waits b hb).len; omega, fun p hp => by have := (hm.noes p hp).1.len; omega, hs.broker, by omega, by omega, by omega,
  fun m hm' => by have := (hm.ms m hm').cnt; omega, hr.id, fun m hm' => (hs.ms m hm').1⟩
theorem sapply_any (s : StM) (hs : OkSt s) (hm : MayP s) (r : RecM) (hor : OkRec r) (hc : canM s r = 0) (G : Nat -> Prop) (v vr : Value) (WE : World) (h : StW (Tch G WE) v s) (hr : RecW (Tch G WE) vr r) :
  Calls Tryz.prog 68 #[v, vr] WE (AplPost G WE (doM s r)) := by
 obtain ⟨hb, c1, c2, c3, c4, c5⟩ := can0 hc
 obtain ⟨l1, l2, l3, l4⟩ := rec_len hb
 have ok := aplOk hs hm hor hb
 have hk : r.kind = 1 ∨ r.kind = 2 ∨ r.kind = 3 ∨ r.kind = 4 ∨ r.kind = 5 ∨ r.kind = 6 ∨ r.kind = 7 ∨ r.kind = 8 ∨ r.kind = 9 := by omega
 rcases hk with k | k | k | k | k | k | k | k | k
 ·exact sapply1 s r k ok G v vr WE h hr
 ·exact sapply2 s r k ok (c2 k) hm.mids G v vr WE h hr
 ·exact sapply3 s r k ok (c1 (by omega)) G v vr WE h hr
 ·exact sapply4 s r k ok (c1 (by omega)) (c3 k) G v vr WE h hr
 ·exact sapply5 s r k ok (c1 (by omega)) (c4 k) G v vr WE h hr
 ·exact sapply6 s r k ok G v vr WE h hr
 ·exact sapply7 s r k ok (c1 (by omega)) G v vr WE h hr
 ·exact sapply8 s r k ok (c1 (by omega)) G v vr WE h hr
 ·exact sapply9 s r k ok (c5 k) (l4 k) G v vr WE h hr
theorem sApply_any (s : StM) (r : RecM) (hs : OkSt s) (hor : OkRec r) (G : Nat -> Prop) (v vr : Value) (WE : World) (h0 : StW (Tch G WE) v s) (hr0 : RecW (Tch G WE) vr r) :
  Calls Tryz.prog 23 #[v, vr] WE (AplPost G WE (applyM s r)) := by
 obtain ⟨w, hwe⟩ : ∃ x, x = WE := ⟨_, rfl⟩
 have te : Tch No w WE := by rw [hwe]; exact Tch.refl _ _
 have HWE := Lib.hid hwe
 obtain ⟨vm, vw, ve, vo, vn, prb, pro, prn, rfl, hmb, hmo, hmn, hst⟩ := h0
 have g0 := hst w (by rw [hwe]; exact Tch.refl _ _)
 have hm := g0.ms
 have hw := brs_pairs.2 ⟨prb, hmb, g0.cb, g0.ib⟩
 have he := g0.en
 have ho := pends_pairs.2 ⟨pro, hmo, g0.co, g0.io⟩
 have hno := pends_pairs.2 ⟨prn, hmn, g0.cn, g0.inn⟩
 obtain ⟨ma, mc, rfl, _, _⟩ := CellsAt.shape hm
 obtain ⟨wa, wk, rfl, _, _⟩ := hw.shape
 obtain ⟨ea, ec, rfl, _, _⟩ := CellsAt.shape he
 obtain ⟨oa, oc, rfl, _, _⟩ := ho.shape
 obtain ⟨na, nc, rfl, _, _⟩ := hno.shape
 obtain ⟨vp, vu, rfl, hpu⟩ := hr0
 obtain ⟨hp, hu⟩ := hpu w (by rw [hwe]; exact Tch.refl _ _)
 obtain ⟨qa, qc, rfl, _, _⟩ := CellsAt.shape hp
 obtain ⟨ua, uc, rfl, _, _⟩ := CellsAt.shape hu
 have HM := Lib.hid hm
 have HW := Lib.hid hw
 have HE := Lib.hid he
 have HO := Lib.hid ho
 have HNO := Lib.hid hno
 have HP := Lib.hid hp
 have HU := Lib.hid hu
 have TE := Lib.hid te
 have HST := Lib.hid hst
 have HG0 := Lib.hid g0
 have HMB0 := Lib.hid hmb
 have HMO0 := Lib.hid hmo
 have HMN0 := Lib.hid hmn
 have HPU0 := Lib.hid hpu
 have HSZW : Hid (w.heap.size = WE.heap.size) := by rw [Hid, hwe]
 clear hst g0 hmb hmo hmn hpu hwe
 obtain ⟨brk, nid, nseq, tx, ms, waits, ends, opens, noes⟩ := s
 obtain ⟨kd, tid, rid, yes, parts, puts⟩ := r
 simp only at HM HW HE HO HNO HP HU HMB0 HMO0 HMN0 HPU0 ⊢
 clear hm hw he ho hno hp hu
 obtain ⟨bs, hbs⟩ : ∃ x, WE.heap.size = x := ⟨_, rfl⟩
 obtain ⟨bq, hbq⟩ : ∃ x, (WE.alloc (.cells #[.int .i64 brk, .int .i64 nid, .int .i64 nseq, .int .i64 tx, .slice ma ms.length mc, .slice wa waits.length wk, .slice ea ends.length ec, .slice oa opens.length oc, .slice na noes.length nc] 29)).heap.size = x := ⟨_, rfl⟩
 obtain ⟨w1, hw1⟩ : ∃ x, ((WE.alloc (.cells #[.int .i64 brk, .int .i64 nid, .int .i64 nseq, .int .i64 tx, .slice ma ms.length mc, .slice wa waits.length wk, .slice ea ends.length ec, .slice oa opens.length oc, .slice na noes.length nc] 29)).alloc (.cells #[.int .i64 kd, .int .i64 tid, .int .i64 rid, .bool yes, .slice qa parts.length qc, .slice ua puts.length uc] 34)).alloc (.cells #[.int .i64 0, .int .i64 0, .int .i64 0, .int .i64 0, .slice none 0 0, .slice none 0 0, .slice none 0 0, .slice none 0 0, .slice none 0 0] 29) = x := ⟨_, rfl⟩
 obtain ⟨bz, hbz⟩ : ∃ x, x = bq + 1 := ⟨_, rfl⟩
 have HB1 : Hid (w1.heap[bs]? = some (.cells #[.int .i64 brk, .int .i64 nid, .int .i64 nseq, .int .i64 tx, .slice ma ms.length mc, .slice wa waits.length wk, .slice ea ends.length ec, .slice oa opens.length oc, .slice na noes.length nc] 29 (0, 0))) := by
  rw [Hid, <- hw1, <- hbs]
  exact blk_tch ((Tch.alloc _ _).trans0 (Tch.alloc _ _)) (blk_new WE _) (fun h => h)
 have HQ1 : Hid (w1.heap[bq]? = some (.cells #[.int .i64 kd, .int .i64 tid, .int .i64 rid, .bool yes, .slice qa parts.length qc, .slice ua puts.length uc] 34 (0, 0))) := by
  rw [Hid, <- hw1, <- hbq]
  exact blk_tch (Tch.alloc _ _) (blk_new _ _) (fun h => h)
 have HZ1 : Hid (w1.heap[bz]? = some (.cells #[.int .i64 0, .int .i64 0, .int .i64 0, .int .i64 0, .slice none 0 0, .slice none 0 0, .slice none 0 0, .slice none 0 0, .slice none 0 0] 29 (0, 0))) := by
  rw [Hid, <- hw1, hbz, <- hbq]
  have := blk_new ((WE.alloc (.cells #[.int .i64 brk, .int .i64 nid, .int .i64 nseq, .int .i64 tx, .slice ma ms.length mc, .slice wa waits.length wk, .slice ea ends.length ec, .slice oa opens.length oc, .slice na noes.length nc] 29)).alloc (.cells #[.int .i64 kd, .int .i64 tid, .int .i64 rid, .bool yes, .slice qa parts.length qc, .slice ua puts.length uc] 34)) (.cells #[.int .i64 0, .int .i64 0, .int .i64 0, .int .i64 0, .slice none 0 0, .slice none 0 0, .slice none 0 0, .slice none 0 0, .slice none 0 0] 29)
  have e : ((WE.alloc (.cells #[.int .i64 brk, .int .i64 nid, .int .i64 nseq, .int .i64 tx, .slice ma ms.length mc, .slice wa waits.length wk, .slice ea ends.length ec, .slice oa opens.length oc, .slice na noes.length nc] 29)).alloc (.cells #[.int .i64 kd, .int .i64 tid, .int .i64 rid, .bool yes, .slice qa parts.length qc, .slice ua puts.length uc] 34)).heap.size = (WE.alloc (.cells #[.int .i64 brk, .int .i64 nid, .int .i64 nseq, .int .i64 tx, .slice ma ms.length mc, .slice wa waits.length wk, .slice ea ends.length ec, .slice oa opens.length oc, .slice na noes.length nc] 29)).heap.size + 1 := by simp
  rwa [e] at this
 have TV1 : Hid (Tch No WE w1) := by rw [Hid, <- hw1]; exact ((Tch.alloc _ _).trans0 (Tch.alloc _ _)).trans0 (Tch.alloc _ _)
 have TW1 : Hid (Tch No w w1) := te.trans0 TV1.out
 have HLT : Hid (w.heap.size <= bs /\ WE.heap.size = bs /\ bq = bs + 1 /\ bz = bs + 2 /\ w1.heap.size = bs + 3) := by
  have e1 : bq = bs + 1 := by rw [<- hbq, <- hbs]; simp
  refine ⟨by rw [<- hbs]; exact te.size, hbs, e1, by omega, ?_⟩
  rw [<- hw1, <- hbs]; simp
 have HBZ := Lib.hid hbz
 clear hbz
 obtain ⟨b0, b1, b2, b3, b4, b5, b6, b7, b8⟩ := kc9 HB1.out
 obtain ⟨c0, c1, c2, c3, c4, c5⟩ := kc6 HQ1.out
 have HMAY : Hid (∀ W, Tch No w W -> Calls Tryz.prog 26 #[.agg #[.int .i64 brk, .int .i64 nid, .int .i64 nseq, .int .i64 tx, .slice ma ms.length mc, .slice wa waits.length wk, .slice ea ends.length ec, .slice oa opens.length oc, .slice na noes.length nc]] W fun e w' => e = .returned (.bool (mayM ⟨brk, nid, nseq, tx, ms, waits, ends, opens, noes⟩)) /\ Tch No W w') := fun W t => may_any ⟨brk, nid, nseq, tx, ms, waits, ends, opens, noes⟩ hs _ W ⟨_, _, _, _, _, rfl, HM.out.keep t, HW.out.keep t, HE.out.keep t, HO.out.keep t, HNO.out.keep t⟩
 have HCAN : Hid (mayM ⟨brk, nid, nseq, tx, ms, waits, ends, opens, noes⟩ = true -> ∀ W, Tch No w W -> Calls Tryz.prog 21 #[.agg #[.int .i64 brk, .int .i64 nid, .int .i64 nseq, .int .i64 tx, .slice ma ms.length mc, .slice wa waits.length wk, .slice ea ends.length ec, .slice oa opens.length oc, .slice na noes.length nc], .agg #[.int .i64 kd, .int .i64 tid, .int .i64 rid, .bool yes, .slice qa parts.length qc, .slice ua puts.length uc]] W fun e w' => e = .returned (.int .i64 (canM ⟨brk, nid, nseq, tx, ms, waits, ends, opens, noes⟩ ⟨kd, tid, rid, yes, parts, puts⟩ : Nat)) /\ Tch No W w') := fun hmay W t => scan_any ⟨brk, nid, nseq, tx, ms, waits, ends, opens, noes⟩ hs ((may_iff _).1 hmay) ⟨kd, tid, rid, yes, parts, puts⟩ hor _ _ W ⟨_, _, _, _, _, rfl, HM.out.keep t, HW.out.keep t, HE.out.keep t, HO.out.keep t, HNO.out.keep t⟩ ⟨_, _, rfl, HP.out.keep t, HU.out.keep t⟩
 have HAPL : Hid (mayM ⟨brk, nid, nseq, tx, ms, waits, ends, opens, noes⟩ = true -> canM ⟨brk, nid, nseq, tx, ms, waits, ends, opens, noes⟩ ⟨kd, tid, rid, yes, parts, puts⟩ = 0 -> ∀ W, Tch No w W -> Calls Tryz.prog 68 #[.agg #[.int .i64 brk, .int .i64 nid, .int .i64 nseq, .int .i64 tx, .slice ma ms.length mc, .slice wa waits.length wk, .slice ea ends.length ec, .slice oa opens.length oc, .slice na noes.length nc], .agg #[.int .i64 kd, .int .i64 tid, .int .i64 rid, .bool yes, .slice qa parts.length qc, .slice ua puts.length uc]] W (AplPost (fun k => G k ∨ WE.heap.size <= k) W (doM ⟨brk, nid, nseq, tx, ms, waits, ends, opens, noes⟩ ⟨kd, tid, rid, yes, parts, puts⟩))) := fun hmay hcan W t => sapply_any ⟨brk, nid, nseq, tx, ms, waits, ends, opens, noes⟩ hs ((may_iff _).1 hmay) ⟨kd, tid, rid, yes, parts, puts⟩ hor hcan (fun k => G k ∨ WE.heap.size <= k) _ _ W ⟨_, _, _, _, _, prb, pro, prn, rfl, HMB0.out, HMO0.out, HMN0.out, fun X t2 => HST.out X (tch_we HWE.out t t2)⟩ ⟨_, _, rfl, fun X t2 => HPU0.out X (tch_we HWE.out t t2)⟩
 have HDEF : Hid (applyM ⟨brk, nid, nseq, tx, ms, waits, ends, opens, noes⟩ ⟨kd, tid, rid, yes, parts, puts⟩ = if mayM ⟨brk, nid, nseq, tx, ms, waits, ends, opens, noes⟩ = true /\ canM ⟨brk, nid, nseq, tx, ms, waits, ends, opens, noes⟩ ⟨kd, tid, rid, yes, parts, puts⟩ = 0 then doM ⟨brk, nid, nseq, tx, ms, waits, ends, opens, noes⟩ ⟨kd, tid, rid, yes, parts, puts⟩ else ⟨brk, nid, nseq, tx, ms, waits, ends, opens, noes⟩) := rfl
 clear hs hor
 generalize hmay : mayM ⟨brk, nid, nseq, tx, ms, waits, ends, opens, noes⟩ = my at HMAY HCAN HAPL HDEF
 generalize hcan : canM ⟨brk, nid, nseq, tx, ms, waits, ends, opens, noes⟩ ⟨kd, tid, rid, yes, parts, puts⟩ = cc at HCAN HAPL HDEF
 clear hmay hcan
 go_enter Tryz.func23, Tryz.ntmps23
 go_wp2_with fail
 clear hbs hbq hw1 te
 refine (HMAY.out _ TW1.out).mono ?_
 rintro e w3 ⟨rfl, T3⟩
 cases my with
 | false =>
  have HSAME : applyM ⟨brk, nid, nseq, tx, ms, waits, ends, opens, noes⟩ ⟨kd, tid, rid, yes, parts, puts⟩ = ⟨brk, nid, nseq, tx, ms, waits, ends, opens, noes⟩ := by rw [HDEF.out]; simp
  have TT := Lib.hid T3
  have HBX := Lib.hid (blk_tch TT.out HB1.out (fun h => h))
  have HZX := Lib.hid (blk_tch TT.out HZ1.out (fun h => h))
  have HQX := Lib.hid (blk_tch TT.out HQ1.out (fun h => h))
  clear T3
  obtain ⟨wz, hwz, HRZ, TZ⟩ := kx9 (W := w3) (b := bz) (T := 29) (.int .i64 brk) (.int .i64 nid) (.int .i64 nseq) (.int .i64 tx) (.slice ma ms.length mc) (.slice wa waits.length wk) (.slice ea ends.length ec) (.slice oa opens.length oc) (.slice na noes.length nc) HZX.out
  rw [HBZ.out] at hwz
  obtain ⟨l0, l1, l2, l3, l4, l5, l6, l7, l8⟩ := kc9 HBX.out
  obtain ⟨r0, r1, r2, r3, r4, r5, r6, r7, r8⟩ := kc9 (W := w3) (b := bq + 1) (by rw [<- HBZ.out]; exact HZX.out)
  obtain ⟨fr0, fr1, fr2, fr3, fr4, fr5, fr6, fr7, fr8⟩ := kf9 (W := w3) (b := bq + 1) (by rw [<- HBZ.out]; exact HZX.out)
  go_wp2_with fail
  obtain ⟨q0, q1, q2, q3, q4, q5, q6, q7, q8⟩ := kc9 (W := wz) (b := bq + 1) (by rw [<- HBZ.out]; exact HRZ.out)
  refine bodyPost_ret (v := .agg #[.int .i64 brk, .int .i64 nid, .int .i64 nseq, .int .i64 tx, .slice ma ms.length mc, .slice wa waits.length wk, .slice ea ends.length ec, .slice oa opens.length oc, .slice na noes.length nc]) (by simp [results, Tryz.results23, go_sem, q0, q1, q2, q3, q4, q5, q6, q7, q8]) rfl ?_
  have glt := HLT.out
  have e : applyM ⟨brk, nid, nseq, tx, ms, waits, ends, opens, noes⟩ ⟨kd, tid, rid, yes, parts, puts⟩ = ⟨brk, nid, nseq, tx, ms, waits, ends, opens, noes⟩ := HSAME
  have tail : Tch No WE wz := (TV1.out.trans0 TT.out).fresh TZ.out (fun q h => by omega)
  refine ⟨_, rfl, ?_, tail⟩
  rw [e]
  refine ⟨_, _, _, _, _, prb, pro, prn, rfl, HMB0.out, HMO0.out, HMN0.out, fun W2 t2 => ?_⟩
  have gst := HST.out W2 (tail.no.trans t2 (fun i hi h => h.1))
  refine ⟨gst.ms, gst.cb, gst.ib, gst.en, gst.co, gst.io, gst.cn, gst.inn⟩
 | true =>
  have TT := Lib.hid T3
  have HBX := Lib.hid (blk_tch TT.out HB1.out (fun h => h))
  have HZX := Lib.hid (blk_tch TT.out HZ1.out (fun h => h))
  have HQX := Lib.hid (blk_tch TT.out HQ1.out (fun h => h))
  obtain ⟨u0w3, u1w3, u2w3, u3w3, u4w3, u5w3, u6w3, u7w3, u8w3⟩ := kc9 HBX.out
  obtain ⟨k0w3, k1w3, k2w3, k3w3, k4w3, k5w3⟩ := kc6 HQX.out
  clear T3
  go_wp2_with fail
  refine (HCAN.out (by trivial) _ (TW1.out.trans0 TT.out)).mono ?_
  rintro e w4 ⟨rfl, T4⟩
  have TT4 := Lib.hid (TT.out.trans0 T4)
  clear TT HBX HZX HQX
  cases cc with
  | succ cn =>
   have HSAME : applyM ⟨brk, nid, nseq, tx, ms, waits, ends, opens, noes⟩ ⟨kd, tid, rid, yes, parts, puts⟩ = ⟨brk, nid, nseq, tx, ms, waits, ends, opens, noes⟩ := by rw [HDEF.out]; simp
   have hcz : (((cn + 1 : Nat) : Int) == 0) = false := beq_eq_false_iff_ne.2 (by omega)
   have hcz2 : (((cn + 1 : Nat) : Int) != 0) = true := by rw [bne, hcz]; rfl
   have TT := Lib.hid TT4.out
   have HBX := Lib.hid (blk_tch TT.out HB1.out (fun h => h))
   have HZX := Lib.hid (blk_tch TT.out HZ1.out (fun h => h))
   have HQX := Lib.hid (blk_tch TT.out HQ1.out (fun h => h))
   obtain ⟨wz, hwz, HRZ, TZ⟩ := kx9 (W := w4) (b := bz) (T := 29) (.int .i64 brk) (.int .i64 nid) (.int .i64 nseq) (.int .i64 tx) (.slice ma ms.length mc) (.slice wa waits.length wk) (.slice ea ends.length ec) (.slice oa opens.length oc) (.slice na noes.length nc) HZX.out
   rw [HBZ.out] at hwz
   obtain ⟨l0, l1, l2, l3, l4, l5, l6, l7, l8⟩ := kc9 HBX.out
   obtain ⟨r0, r1, r2, r3, r4, r5, r6, r7, r8⟩ := kc9 (W := w4) (b := bq + 1) (by rw [<- HBZ.out]; exact HZX.out)
   obtain ⟨fr0, fr1, fr2, fr3, fr4, fr5, fr6, fr7, fr8⟩ := kf9 (W := w4) (b := bq + 1) (by rw [<- HBZ.out]; exact HZX.out)
   go_wp2_with fail
   obtain ⟨q0, q1, q2, q3, q4, q5, q6, q7, q8⟩ := kc9 (W := wz) (b := bq + 1) (by rw [<- HBZ.out]; exact HRZ.out)
   refine bodyPost_ret (v := .agg #[.int .i64 brk, .int .i64 nid, .int .i64 nseq, .int .i64 tx, .slice ma ms.length mc, .slice wa waits.length wk, .slice ea ends.length ec, .slice oa opens.length oc, .slice na noes.length nc]) (by simp [results, Tryz.results23, go_sem, q0, q1, q2, q3, q4, q5, q6, q7, q8]) rfl ?_
   have glt := HLT.out
   have e : applyM ⟨brk, nid, nseq, tx, ms, waits, ends, opens, noes⟩ ⟨kd, tid, rid, yes, parts, puts⟩ = ⟨brk, nid, nseq, tx, ms, waits, ends, opens, noes⟩ := HSAME
   have tail : Tch No WE wz := (TV1.out.trans0 TT.out).fresh TZ.out (fun q h => by omega)
   refine ⟨_, rfl, ?_, tail⟩
   rw [e]
   refine ⟨_, _, _, _, _, prb, pro, prn, rfl, HMB0.out, HMO0.out, HMN0.out, fun W2 t2 => ?_⟩
   have gst := HST.out W2 (tail.no.trans t2 (fun i hi h => h.1))
   refine ⟨gst.ms, gst.cb, gst.ib, gst.en, gst.co, gst.io, gst.cn, gst.inn⟩
  | zero =>
   have TT := Lib.hid TT4.out
   have HBX := Lib.hid (blk_tch TT.out HB1.out (fun h => h))
   have HZX := Lib.hid (blk_tch TT.out HZ1.out (fun h => h))
   have HQX := Lib.hid (blk_tch TT.out HQ1.out (fun h => h))
   obtain ⟨u0w4, u1w4, u2w4, u3w4, u4w4, u5w4, u6w4, u7w4, u8w4⟩ := kc9 HBX.out
   obtain ⟨k0w4, k1w4, k2w4, k3w4, k4w4, k5w4⟩ := kc6 HQX.out
   go_wp2_with fail
   refine (HAPL.out (by trivial) (by trivial) _ (TW1.out.trans0 TT.out)).mono ?_
   rintro e w5 ⟨v', rfl, h5, T5⟩
   obtain ⟨e0, e1, e2, e3, am, nm, cm, aw, nw, cw, ae, ne, ce, ao, no, co, an, nn, cn, rfl⟩ : ∃ e0 e1 e2 e3 am nm cm aw nw cw ae ne ce ao no co an nn cn, v' = .agg #[.int .i64 e0, .int .i64 e1, .int .i64 e2, .int .i64 e3, .slice am nm cm, .slice aw nw cw, .slice ae ne ce, .slice ao no co, .slice an nn cn] := by
    obtain ⟨am, cm, aw, cw, ae, ce, ao, co, an, cn, hv⟩ := (h5.is (Tch.refl _ _)).vals
    exact ⟨_, _, _, _, am, _, cm, aw, _, cw, ae, _, ce, ao, _, co, an, _, cn, hv⟩
   have H5 := Lib.hid h5
   have TT5 := Lib.hid T5
   have HZ5 := Lib.hid (blk_tch T5 HZX.out (fun h => h))
   clear h5 T5
   obtain ⟨wz, hwz, HRZ, TZ⟩ := kx9 (W := w5) (b := bz) (T := 29) (.int .i64 e0) (.int .i64 e1) (.int .i64 e2) (.int .i64 e3) (.slice am nm cm) (.slice aw nw cw) (.slice ae ne ce) (.slice ao no co) (.slice an nn cn) HZ5.out
   rw [HBZ.out] at hwz
   obtain ⟨r0, r1, r2, r3, r4, r5, r6, r7, r8⟩ := kc9 (W := w5) (b := bq + 1) (by rw [<- HBZ.out]; exact HZ5.out)
   obtain ⟨fr0, fr1, fr2, fr3, fr4, fr5, fr6, fr7, fr8⟩ := kf9 (W := w5) (b := bq + 1) (by rw [<- HBZ.out]; exact HZ5.out)
   go_wp2_with fail
   obtain ⟨q0, q1, q2, q3, q4, q5, q6, q7, q8⟩ := kc9 (W := wz) (b := bq + 1) (by rw [<- HBZ.out]; exact HRZ.out)
   refine bodyPost_ret (v := .agg #[.int .i64 e0, .int .i64 e1, .int .i64 e2, .int .i64 e3, .slice am nm cm, .slice aw nw cw, .slice ae ne ce, .slice ao no co, .slice an nn cn]) (by simp [results, Tryz.results23, go_sem, q0, q1, q2, q3, q4, q5, q6, q7, q8]) rfl ?_
   have glt := HLT.out
   have s4 := TT.out.size
   refine ⟨_, rfl, ?_, ((TV1.out.trans0 TT.out).trans0 TT5.out).fresh TZ.out (fun q h => by omega)⟩
   have e : applyM ⟨brk, nid, nseq, tx, ms, waits, ends, opens, noes⟩ ⟨kd, tid, rid, yes, parts, puts⟩ = doM ⟨brk, nid, nseq, tx, ms, waits, ends, opens, noes⟩ ⟨kd, tid, rid, yes, parts, puts⟩ := by rw [HDEF.out]; simp
   rw [e]
   exact H5.out.mono (fun W2 t2 => (TZ.out.mono (G := fun k => (G k ∨ WE.heap.size <= k) /\ k < w4.heap.size) (fun q _ h => ⟨.inr (by omega), by omega⟩)).trans (t2.mono (G := fun k => (G k ∨ WE.heap.size <= k) /\ k < w4.heap.size) (fun q _ h => ⟨.inl h.1, by have := h.2; omega⟩)) (fun _ _ h => h))
end
namespace Ev
open Go Go.RowKit Go.Maps
inductive Cp | ex (c : Nat) | op (sz : Nat)
inductive C
 | bool (b : Bool) | int (k : IntKind) (n : Int) | str (s : List UInt8)
 | ptr (i off : Nat) | nilp | sl (i off len : Nat) (c : Cp) | snil | se
 | fn (f : FuncId) (cap : List (Nat × Nat)) | nilf | map (i : Nat) | mapn | nilI
inductive V | c (x : C) | agg (l : List C)
inductive S | v (x : V) | tup (l : List V) | un
structure Blk where
 b : Nat
 t : Nat
inductive Kd | ok | rd | mp (es : List (C × V))
structure AO where
 ty : TypeId
 cs : List C
 opn : Bool
 k : Kd
def AO.fz (o : AO) : Bool := match o.k with | .ok => false | _ => true
abbrev Heap := Nat -> Option AO
def adr (k : Blk) (off : Nat) : Addr := ⟨k.b, off, none⟩
def RC (σ : Nat -> Blk) (D : Nat -> Prop) : C -> Value -> Prop
 | .bool b, v => v = .bool b
 | .int k n, v => v = .int k n
 | .str s, v => v = .string ⟨s.toArray⟩
 | .ptr i off, v => D i /\ v = .pointer (some (adr (σ i) off))
 | .nilp, v => v = .pointer none
 | .sl i off len (.ex c), v => D i /\ v = .slice (some (adr (σ i) off)) len c
 | .sl i off len (.op sz), v => D i /\ ∃ c, v = .slice (some (adr (σ i) off)) len c /\ len <= c /\ c <= maxLen /\ off + c * sz = (σ i).t
 | .snil, v => v = .slice none 0 0
 | .se, v => ∃ a c, v = .slice a 0 c
 | .fn f cap, v => (∀ p ∈ cap, D p.1) /\ v = .func (.func f) #[] ((cap.map fun p => Value.pointer (some (adr (σ p.1) p.2))).toArray)
 | .nilf, v => v = .nilFunc
 | .map i, v => D i /\ v = .map (some (σ i).b)
 | .mapn, v => v = .map none
 | .nilI, v => v = .nilIface
def RL (σ : Nat -> Blk) (D : Nat -> Prop) : List C -> List Value -> Prop
 | [], [] => True
 | c :: l, v :: m => RC σ D c v /\ RL σ D l m
 | _, _ => False
def RV (σ : Nat -> Blk) (D : Nat -> Prop) : V -> Value -> Prop
 | .c x, v => RC σ D x v
 | .agg l, v => ∃ m, RL σ D l m /\ v = .agg m.toArray
def RVL (σ : Nat -> Blk) (D : Nat -> Prop) : List V -> List Value -> Prop
 | [], [] => True
 | c :: l, v :: m => RV σ D c v /\ RVL σ D l m
 | _, _ => False
def RS (σ : Nat -> Blk) (D : Nat -> Prop) : S -> Value -> Prop
 | .v x, v => RV σ D x v
 | .tup l, v => ∃ m, RVL σ D l m /\ v = .tuple m.toArray
 | .un, v => v = undef
section
variable {σ σ' : Nat -> Blk} {D D' : Nat -> Prop}
theorem RC.ext {c : C} {v : Value} (h : RC σ D c v) (hs : ∀ i, D i -> σ' i = σ i) (hD : ∀ i, D i -> D' i) : RC σ' D' c v := by
 cases c with
 | ptr i off => obtain ⟨h1, h2⟩ := h; exact ⟨hD i h1, by rw [hs i h1]; exact h2⟩
 | map i => obtain ⟨h1, h2⟩ := h; exact ⟨hD i h1, by rw [hs i h1]; exact h2⟩
 | sl i off len cp =>
  cases cp with
  | ex c => obtain ⟨h1, h2⟩ := h; exact ⟨hD i h1, by rw [hs i h1]; exact h2⟩
  | op sz => obtain ⟨h1, h2⟩ := h; exact ⟨hD i h1, by rw [hs i h1]; exact h2⟩
 | fn f cap =>
  obtain ⟨h1, h2⟩ := h
  refine ⟨fun p hp => hD _ (h1 p hp), ?_⟩
  rw [h2]
  congr 2
  apply List.map_congr_left
  intro p hp
  rw [hs _ (h1 p hp)]
 | _ => exact h
theorem RL.ext : ∀ {l : List C} {m : List Value}, RL σ D l m -> (∀ i, D i -> σ' i = σ i) -> (∀ i, D i -> D' i) -> RL σ' D' l m
 | [], [], _, _, _ => trivial
 | _ :: _, _ :: _, h, hs, hD => ⟨h.1.ext hs hD, h.2.ext hs hD⟩
theorem RV.ext {x : V} {v : Value} (h : RV σ D x v) (hs : ∀ i, D i -> σ' i = σ i) (hD : ∀ i, D i -> D' i) : RV σ' D' x v := by
 cases x with
 | c x => exact RC.ext h hs hD
 | agg l => obtain ⟨m, h1, h2⟩ := h; exact ⟨m, h1.ext hs hD, h2⟩
theorem RVL.ext : ∀ {l : List V} {m : List Value}, RVL σ D l m -> (∀ i, D i -> σ' i = σ i) -> (∀ i, D i -> D' i) -> RVL σ' D' l m
 | [], [], _, _, _ => trivial
 | _ :: _, _ :: _, h, hs, hD => ⟨h.1.ext hs hD, h.2.ext hs hD⟩
theorem RS.ext {x : S} {v : Value} (h : RS σ D x v) (hs : ∀ i, D i -> σ' i = σ i) (hD : ∀ i, D i -> D' i) : RS σ' D' x v := by
 cases x with
 | v x => exact RV.ext h hs hD
 | tup l => obtain ⟨m, h1, h2⟩ := h; exact ⟨m, h1.ext hs hD, h2⟩
 | un => exact h
theorem RC.one {c : C} {v : Value} (h : RC σ D c v) : v.oneCell' = true := by
 cases c with
 | sl i off len cp =>
  cases cp with
  | ex c => obtain ⟨_, rfl⟩ := h; rfl
  | op sz => obtain ⟨_, c, rfl, _⟩ := h; rfl
 | ptr i off => obtain ⟨_, rfl⟩ := h; rfl
 | map i => obtain ⟨_, rfl⟩ := h; rfl
 | fn f cap => obtain ⟨_, rfl⟩ := h; rfl
 | se => obtain ⟨_, _, rfl⟩ := h; rfl
 | _ => (cases h; rfl)
theorem RL.length : ∀ {l : List C} {m : List Value}, RL σ D l m -> m.length = l.length
 | [], [], _ => rfl
 | _ :: _, _ :: _, h => by rw [List.length_cons, List.length_cons, h.2.length]
theorem RL.get : ∀ {l : List C} {m : List Value} {j : Nat} {c : C}, RL σ D l m -> l[j]? = some c -> ∃ v, m[j]? = some v /\ RC σ D c v
 | [], [], _, _, _, e => by cases e
 | a :: l, v :: m, 0, c, h, e => by
  rw [List.getElem?_cons_zero] at e
  cases e
  exact ⟨v, rfl, h.1⟩
 | a :: l, v :: m, j + 1, c, h, e => h.2.get (by simpa using e)
theorem RL.of : ∀ {l : List C} {m : List Value}, m.length = l.length -> (∀ (j : Nat) (c : C), l[j]? = some c -> ∃ v, m[j]? = some v /\ RC σ D c v) -> RL σ D l m
 | [], [], _, _ => trivial
 | [], _ :: _, h, _ => by simp at h
 | _ :: _, [], h, _ => by simp at h
 | a :: l, v :: m, h, g => by
  refine ⟨?_, RL.of (by simpa using h) (fun j c e => ?_)⟩
  ·obtain ⟨v', h1, h2⟩ := g 0 a rfl
   rw [List.getElem?_cons_zero] at h1
   cases h1; exact h2
  ·have := g (j + 1) c (by simpa using e)
   simpa using this
end
def RM (σ : Nat -> Blk) (D : Nat -> Prop) : List (C × V) -> List MapEntry -> Prop
 | [], [] => True
 | a :: l, b :: m => (RC σ D a.1 b.key /\ RV σ D a.2 b.val) /\ RM σ D l m
 | _, _ => False
theorem RM.ext {σ σ' : Nat -> Blk} {D D' : Nat -> Prop} : ∀ {l : List (C × V)} {m : List MapEntry}, RM σ D l m -> (∀ i, D i -> σ' i = σ i) -> (∀ i, D i -> D' i) -> RM σ' D' l m
 | [], [], _, _, _ => trivial
 | _ :: _, _ :: _, h, hs, hD => ⟨⟨h.1.1.ext hs hD, h.1.2.ext hs hD⟩, h.2.ext hs hD⟩
def ObjCells (σ : Nat -> Blk) (D : Nat -> Prop) (i : Nat) (o : AO) (w : World) : Prop :=
 ∃ (cur : Array Value) (fr : Nat × Nat), w.heap[(σ i).b]? = some (.cells cur o.ty fr) /\ (o.fz = false -> fr = (0, 0)) /\ cur.size = (σ i).t /\ o.cs.length <= (σ i).t /\ (o.opn = false -> o.cs.length = (σ i).t) /\
  ∀ (j : Nat) (c : C), o.cs[j]? = some c -> ∃ v, cur[j]? = some v /\ RC σ D c v
def ObjMap (σ : Nat -> Blk) (D : Nat -> Prop) (i : Nat) (es : List (C × V)) (w : World) : Prop := ∃ (m : Array MapEntry) (clock : Nat), w.heap[(σ i).b]? = some (.map m clock) /\ RM σ D es m.toList
def ObjAt (σ : Nat -> Blk) (D : Nat -> Prop) (i : Nat) (o : AO) (w : World) : Prop := match o.k with
 | .mp es => o.cs = [] /\ ObjMap σ D i es w
 | _ => ObjCells σ D i o w
theorem ObjAt.ok {σ : Nat -> Blk} {D : Nat -> Prop} {i : Nat} {o : AO} {w : World} (h : ObjAt σ D i o w) (hf : o.fz = false) : ObjCells σ D i o w := by
 unfold ObjAt at h
 unfold AO.fz at hf
 split at h
 ·rename_i e; rw [e] at hf; cases hf
 ·exact h
theorem ObjAt.either {σ : Nat -> Blk} {D : Nat -> Prop} {i : Nat} {o : AO} {w : World} (h : ObjAt σ D i o w) : o.cs = [] ∨ ObjCells σ D i o w := by
 unfold ObjAt at h
 split at h
 ·exact .inl h.1
 ·exact .inr h
structure Sat (σ : Nat -> Blk) (D : Nat -> Prop) (h : Heap) (w : World) : Prop where
 obj : ∀ i o, h i = some o -> D i /\ ObjAt σ D i o w
 inj : ∀ i j, (h i).isSome = true -> (h j).isSome = true -> (σ i).b = (σ j).b -> i = j
def rst (F : Nat -> Bool) (h : Heap) : Heap := fun i => if F i then h i else none
def upd (F : Nat -> Bool) (n n' : Nat) (h g : Heap) : Heap := fun i => if F i || (decide (n <= i) && decide (i < n')) then g i else h i
def more (D : Nat -> Prop) (n n' : Nat) : Nat -> Prop := fun i => D i ∨ (n <= i /\ i < n')
structure Out (σ : Nat -> Blk) (D : Nat -> Prop) (w : World) (h h' : Heap) (n n' : Nat) (W : Nat -> Bool) (σ' : Nat -> Blk) (w' : World) : Prop where
 same : ∀ i, ¬ (n <= i /\ i < n') -> σ' i = σ i
 sat : Sat σ' (more D n n') h' w'
 tch : Tch (fun k => ∃ i, W i = true /\ (h i).isSome = true /\ k = (σ i).b) w w'
 old : ∀ i, ¬ (n <= i /\ i < n') -> (h' i).isSome = true -> (h i).isSome = true
 new : ∀ i, n <= i -> i < n' -> (h' i).isSome = true -> w.heap.size <= (σ' i).b ∨ ∃ j, W j = true /\ (h j).isSome = true /\ h' j = none /\ (σ' i).b = (σ j).b
theorem ObjAt.lt {σ : Nat -> Blk} {D : Nat -> Prop} {i : Nat} {o : AO} {w : World} (h : ObjAt σ D i o w) : (σ i).b < w.heap.size := by
 unfold ObjAt at h
 split at h
 ·obtain ⟨_, m, c, h1, _⟩ := h
  exact (Array.getElem?_eq_some_iff.1 h1).1
 ·obtain ⟨cur, fr, h1, _⟩ := h
  exact (Array.getElem?_eq_some_iff.1 h1).1
theorem ObjAt.ext {σ σ' : Nat -> Blk} {D D' : Nat -> Prop} {i : Nat} {o : AO} {w w' : World} (h : ObjAt σ D i o w) (hi : σ' i = σ i) (hb : w'.heap[(σ i).b]? = w.heap[(σ i).b]?) (hs : ∀ i, D i -> σ' i = σ i) (hD : ∀ i, D i -> D' i) : ObjAt σ' D' i o w' := by
 unfold ObjAt at h ⊢
 split at h
 ·obtain ⟨h0, m, c, h1, h2⟩ := h
  exact ⟨h0, m, c, by rw [hi, hb]; exact h1, h2.ext hs hD⟩
 ·obtain ⟨cur, fr, h1, h0, h2, h3, h4, h5⟩ := h
  refine ⟨cur, fr, by rw [hi, hb]; exact h1, h0, by rw [hi]; exact h2, by rw [hi]; exact h3, by rw [hi]; exact h4, fun j c e => ?_⟩
  obtain ⟨v, g1, g2⟩ := h5 j c e
  exact ⟨v, g1, g2.ext hs hD⟩
theorem frame {σ σ' : Nat -> Blk} {D : Nat -> Prop} {w w' : World} {h g g' : Heap} {n n' : Nat} {F W : Nat -> Bool} (hs : Sat σ D h w) (hF : ∀ i, F i = true -> g i = h i) (hg : ∀ i, F i = false -> g i = none) (hD : ∀ i, n <= i -> i < n' -> ¬ D i)
  (ho : Out σ D w g g' n n' W σ' w') (hW : ∀ i, W i = true -> F i = true) : Out σ D w h (upd F n n' h g') n n' W σ' w' := by
 have hsame : ∀ i, D i -> σ' i = σ i := fun i hi => ho.same i (fun ⟨a, b⟩ => hD i a b hi)
 have hgs : ∀ i, (g i).isSome = true -> (h i).isSome = true := fun i hi => by
  cases e : F i with
  | false => rw [hg i e] at hi; cases hi
  | true => rw [<- hF i e]; exact hi
 have hrest : ∀ i, F i = false -> (h i).isSome = true -> w'.heap[(σ i).b]? = w.heap[(σ i).b]? := fun i hi hh => by
  obtain ⟨o, ho1⟩ := Option.isSome_iff_exists.1 hh
  obtain ⟨hDi, hoi⟩ := hs.obj i o ho1
  refine ho.tch.block _ hoi.lt ?_
  rintro ⟨j, h1, h2, h3⟩
  have := hs.inj i j hh (hgs j h2) h3
  subst this
  rw [hW i h1] at hi; cases hi
 have hne : ∀ i, (h i).isSome = true -> ¬ (n <= i /\ i < n') := fun i hh ⟨a, b⟩ => by
  obtain ⟨o, ho1⟩ := Option.isSome_iff_exists.1 hh
  exact hD i a b (hs.obj i o ho1).1
 refine ⟨ho.same, ⟨fun i o e => ?_, fun i j hi hj e => ?_⟩, ho.tch.mono (fun k _ ⟨i, a, b, c⟩ => ⟨i, a, hgs i b, c⟩), ?_, ?_⟩
 ·unfold upd at e
  by_cases c : (F i || (decide (n <= i) && decide (i < n'))) = true
  ·rw [if_pos c] at e; exact ho.sat.obj i o e
  ·rw [if_neg c] at e
   have hFi : F i = false := by cases e2 : F i with | false => rfl | true => simp [e2] at c
   obtain ⟨h1, h2⟩ := hs.obj i o e
   exact ⟨.inl h1, h2.ext (hsame i h1) (hrest i hFi (by rw [e]; rfl)) hsame (fun _ x => .inl x)⟩
 ·-- no two in one block
  have key : ∀ i j, (upd F n n' h g' i).isSome = true -> (F i || (decide (n <= i) && decide (i < n'))) = true -> (h j).isSome = true -> (F j || (decide (n <= j) && decide (j < n'))) ≠ true -> (σ' i).b = (σ' j).b -> False := by
   intro i j hi ci hj cj e
   unfold upd at hi; rw [if_pos ci] at hi
   obtain ⟨oj, hoj⟩ := Option.isSome_iff_exists.1 hj
   obtain ⟨hDj, hoj2⟩ := hs.obj j oj hoj
   have hFj : F j = false := by cases e2 : F j with | false => rfl | true => simp [e2] at cj
   rw [hsame j hDj] at e
   by_cases hn : n <= i /\ i < n'
   ·rcases ho.new i hn.1 hn.2 hi with h1 | ⟨k, h1, h2, h3, h4⟩
    ·have := hoj2.lt; omega
    ·have := hs.inj k j (hgs k h2) hj (by rw [<- h4]; exact e)
     subst this
     rw [hW k h1] at hFj; cases hFj
   ·have hFi : F i = true := by
     cases e2 : F i with
     | true => rfl
     | false =>
      exfalso; apply hn
      simpa [e2] using ci
    rw [ho.same i hn] at e
    -- i is of F and alive behind: alive ahead, too
    have hgi : (g i).isSome = true := ho.old i hn hi
    have := hs.inj i j (hgs i hgi) hj e
    subst this
    rw [hFi] at hFj; cases hFj
  by_cases ci : (F i || (decide (n <= i) && decide (i < n'))) = true
  ·by_cases cj : (F j || (decide (n <= j) && decide (j < n'))) = true
   ·unfold upd at hi hj; rw [if_pos ci] at hi; rw [if_pos cj] at hj
    exact ho.sat.inj i j hi hj e
   ·refine (key i j hi ci ?_ cj e).elim
    unfold upd at hj; rw [if_neg cj] at hj; exact hj
  ·by_cases cj : (F j || (decide (n <= j) && decide (j < n'))) = true
   ·refine (key j i hj cj ?_ ci e.symm).elim
    unfold upd at hi; rw [if_neg ci] at hi; exact hi
   ·unfold upd at hi hj; rw [if_neg ci] at hi; rw [if_neg cj] at hj
    obtain ⟨oi, hoi⟩ := Option.isSome_iff_exists.1 hi
    obtain ⟨oj, hoj⟩ := Option.isSome_iff_exists.1 hj
    rw [hsame i (hs.obj i oi hoi).1, hsame j (hs.obj j oj hoj).1] at e
    exact hs.inj i j hi hj e
 ·intro i hn hh
  unfold upd at hh
  by_cases c : (F i || (decide (n <= i) && decide (i < n'))) = true
  ·rw [if_pos c] at hh
   exact hgs i (ho.old i hn hh)
  ·rw [if_neg c] at hh; exact hh
 ·intro i hi hi' hh
  unfold upd at hh
  have c : (F i || (decide (n <= i) && decide (i < n'))) = true := by simp [hi, hi']
  rw [if_pos c] at hh
  rcases ho.new i hi hi' hh with h1 | ⟨j, h1, h2, h3, h4⟩
  ·exact .inl h1
  ·refine .inr ⟨j, h1, hgs j h2, ?_, h4⟩
   unfold upd
   have := hW j h1
   simp [this, h3]
end Ev
end Go.Proofs.YtafndmnbnmlklaaGreat
