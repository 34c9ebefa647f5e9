/- Part 40 of what the proof of StoreTold rests on. No condition. -/
import Derived.Test.YtfedhcnmdmhppaaGreatPStoreTold26
import Derived.Test.YtfedhcnmdmhppaaGreatPStoreTold33
import Derived.Test.YtfedhcnmdmhppaaGreatPStoreTold35
import Derived.Test.YtfedhcnmdmhppaaGreatPStoreTold37
import Derived.Test.YtfedhcnmdmhppaaGreatPStoreTold39
namespace Go.Proofs.YtfedhcnmdmhppaaGreat
set_option maxRecDepth 100000
set_option maxHeartbeats 60000000
set_option linter.unusedVariables false
set_option linter.unusedSimpArgs false
section
open Go.RowKit Go.Maps
theorem can0 {s : StM} {r : RecM} (h : canM s r = 0) : recB r = true /\ (r.kind ≠ 9 -> hasP (·.tid) s.ends r.tid = false) /\ (r.kind = 2 -> hasP (·.id) s.ms r.id = true) /\ (r.kind = 4 -> hasP (·.tid) s.waits r.tid = false) /\ (r.kind = 5 -> hasP (·.tid) s.waits r.tid = true) /\ (r.kind = 9 -> hasP (·.tid) s.noes r.tid = true) := by
 unfold canM at h
 by_cases h1 : recB r = false
 ·rw [if_pos h1] at h; cases h
 rw [if_neg h1] at h
 by_cases h2 : r.kind ≠ 9 /\ hasP (·.tid) s.ends r.tid = true
 ·rw [if_pos h2] at h; cases h
 rw [if_neg h2] at h
 simp only at h
 refine ⟨by simpa using h1, fun hk => ?_, fun hk => ?_, fun hk => ?_, fun hk => ?_, fun hk => ?_⟩
 ·cases hh : hasP (fun x : EndM => x.tid) s.ends r.tid with
  | false => rfl
  | true => exact absurd ⟨hk, hh⟩ h2
 ·rw [if_pos hk] at h
  cases hf : s.ms.find? (fun m => decide (m.id = r.id)) with
  | none => rw [hf] at h; cases h
  | some m => exact hasP_iff.2 ⟨m, List.mem_of_find?_eq_some hf, by simpa using List.find?_some hf⟩
 ·rw [if_neg (by omega), if_neg (by omega), if_neg (by omega), if_neg (by omega), if_neg (by omega), if_pos hk] at h
  cases hh : hasP (fun x : BrM => x.tid) s.waits r.tid with
  | false => rfl
  | true => rw [if_pos (.inl hh)] at h; cases h
 ·rw [if_neg (by omega), if_pos hk] at h
  cases hh : hasP (fun x : BrM => x.tid) s.waits r.tid with
  | false => rw [if_pos hh] at h; cases h
  | true => rfl
 ·rw [if_neg (by omega), if_neg (by omega), if_pos hk] at h
  cases hf : s.noes.find? (fun p => decide (p.tid = r.tid)) with
  | none => rw [hf] at h; cases h
  | some p => exact hasP_iff.2 ⟨p, List.mem_of_find?_eq_some hf, by simpa using List.find?_some hf⟩
theorem rec_len {r : RecM} (h : recB r = true) : (1 <= r.kind /\ r.kind <= 9) /\ r.parts.length <= 7 /\ r.puts.length <= 10 /\ (r.kind = 9 -> r.parts.length = 1) := by
 unfold recB at h
 simp only [Bool.and_eq_true, decide_eq_true_eq] at h
 obtain ⟨⟨⟨⟨⟨h1, h2⟩, h3⟩, h4⟩, h5⟩, h6⟩ := h
 refine ⟨h1, ?_, ?_, fun hk => ?_⟩
 ·split at h6
  ·simp at h6; omega
  ·split at h6
   ·simp at h6; omega
   ·split at h6
    ·simp at h6; omega
    ·simp at h6; simp [h6]
 ·split at h5
  ·simp at h5; omega
  ·simp at h5; simp [h5]
 ·rw [if_neg (by omega), if_neg (by omega), if_pos hk] at h6
  simp at h6
  exact h6.1
theorem aplOk {s : StM} {r : RecM} (hs : OkSt s) (hm : MayP s) (hr : OkRec r) (hb : recB r = true) : AplOk s r := by
 obtain ⟨l1, l2, l3, l4⟩ := rec_len hb
 have h1 := hm.lms; have h2 := hm.lw; have h3 := hm.le; have h4 := hm.lo; have h5 := hm.ln
 have n1 := hm.nid; have n2 := hm.nseq; have n3 := hm.tx
 exact ⟨hm.ends2, hm.waits2, hm.opens2, hm.noes2, by omega, by omega, by omega, by omega, by omega, by omega, by omega,
  fun b hb => by have := (hm.waits b hb).len; omega, fun p hp => by have := (hm.noes p hp).1.len; omega, hs.broker, by omega, by omega, by omega,
  fun m hm' => by have := (hm.ms m hm').cnt; omega, hr.id, fun m hm' => (hs.ms m hm').1⟩
theorem sapply_any (s : StM) (hs : OkSt s) (hm : MayP s) (r : RecM) (hor : OkRec r) (hc : canM s r = 0) (G : Nat -> Prop) (v vr : Value) (WE : World) (h : StW (Tch G WE) v s) (hr : RecW (Tch G WE) vr r) :
  Calls Tryz.prog 85 #[v, vr] WE (AplPost G WE (doM s r)) := by
 obtain ⟨hb, c1, c2, c3, c4, c5⟩ := can0 hc
 obtain ⟨l1, l2, l3, l4⟩ := rec_len hb
 have ok := aplOk hs hm hor hb
 have hk : r.kind = 1 ∨ r.kind = 2 ∨ r.kind = 3 ∨ r.kind = 4 ∨ r.kind = 5 ∨ r.kind = 6 ∨ r.kind = 7 ∨ r.kind = 8 ∨ r.kind = 9 := by omega
 rcases hk with k | k | k | k | k | k | k | k | k
 ·exact sapply1 s r k ok G v vr WE h hr
 ·exact sapply2 s r k ok (c2 k) hm.mids G v vr WE h hr
 ·exact sapply3 s r k ok (c1 (by omega)) G v vr WE h hr
 ·exact sapply4 s r k ok (c1 (by omega)) (c3 k) G v vr WE h hr
 ·exact sapply5 s r k ok (c1 (by omega)) (c4 k) G v vr WE h hr
 ·exact sapply6 s r k ok G v vr WE h hr
 ·exact sapply7 s r k ok (c1 (by omega)) G v vr WE h hr
 ·exact sapply8 s r k ok (c1 (by omega)) G v vr WE h hr
 ·exact sapply9 s r k ok (c5 k) (l4 k) G v vr WE h hr
theorem sApply_any (s : StM) (r : RecM) (hs : OkSt s) (hor : OkRec r) (G : Nat -> Prop) (v vr : Value) (WE : World) (h0 : StW (Tch G WE) v s) (hr0 : RecW (Tch G WE) vr r) :
  Calls Tryz.prog 28 #[v, vr] WE (AplPost G WE (applyM s r)) := by
 obtain ⟨w, hwe⟩ : ∃ x, x = WE := ⟨_, rfl⟩
 have te : Tch No w WE := by rw [hwe]; exact Tch.refl _ _
 have HWE := Lib.hid hwe
 obtain ⟨vm, vw, ve, vo, vn, prb, pro, prn, rfl, hmb, hmo, hmn, hst⟩ := h0
 have g0 := hst w (by rw [hwe]; exact Tch.refl _ _)
 have hm := g0.ms
 have hw := brs_pairs.2 ⟨prb, hmb, g0.cb, g0.ib⟩
 have he := g0.en
 have ho := pends_pairs.2 ⟨pro, hmo, g0.co, g0.io⟩
 have hno := pends_pairs.2 ⟨prn, hmn, g0.cn, g0.inn⟩
 obtain ⟨ma, mc, rfl, _, _⟩ := CellsAt.shape hm
 obtain ⟨wa, wk, rfl, _, _⟩ := hw.shape
 obtain ⟨ea, ec, rfl, _, _⟩ := CellsAt.shape he
 obtain ⟨oa, oc, rfl, _, _⟩ := ho.shape
 obtain ⟨na, nc, rfl, _, _⟩ := hno.shape
 obtain ⟨vp, vu, rfl, hpu⟩ := hr0
 obtain ⟨hp, hu⟩ := hpu w (by rw [hwe]; exact Tch.refl _ _)
 obtain ⟨qa, qc, rfl, _, _⟩ := CellsAt.shape hp
 obtain ⟨ua, uc, rfl, _, _⟩ := CellsAt.shape hu
 have HM := Lib.hid hm
 have HW := Lib.hid hw
 have HE := Lib.hid he
 have HO := Lib.hid ho
 have HNO := Lib.hid hno
 have HP := Lib.hid hp
 have HU := Lib.hid hu
 have TE := Lib.hid te
 have HST := Lib.hid hst
 have HG0 := Lib.hid g0
 have HMB0 := Lib.hid hmb
 have HMO0 := Lib.hid hmo
 have HMN0 := Lib.hid hmn
 have HPU0 := Lib.hid hpu
 have HSZW : Hid (w.heap.size = WE.heap.size) := by rw [Hid, hwe]
 clear hst g0 hmb hmo hmn hpu hwe
 obtain ⟨brk, nid, nseq, tx, ms, waits, ends, opens, noes⟩ := s
 obtain ⟨kd, tid, rid, yes, parts, puts⟩ := r
 simp only at HM HW HE HO HNO HP HU HMB0 HMO0 HMN0 HPU0 ⊢
 clear hm hw he ho hno hp hu
 obtain ⟨bs, hbs⟩ : ∃ x, WE.heap.size = x := ⟨_, rfl⟩
 obtain ⟨bq, hbq⟩ : ∃ x, (WE.alloc (.cells #[.int .i64 brk, .int .i64 nid, .int .i64 nseq, .int .i64 tx, .slice ma ms.length mc, .slice wa waits.length wk, .slice ea ends.length ec, .slice oa opens.length oc, .slice na noes.length nc] 27)).heap.size = x := ⟨_, rfl⟩
 obtain ⟨w1, hw1⟩ : ∃ x, ((WE.alloc (.cells #[.int .i64 brk, .int .i64 nid, .int .i64 nseq, .int .i64 tx, .slice ma ms.length mc, .slice wa waits.length wk, .slice ea ends.length ec, .slice oa opens.length oc, .slice na noes.length nc] 27)).alloc (.cells #[.int .i64 kd, .int .i64 tid, .int .i64 rid, .bool yes, .slice qa parts.length qc, .slice ua puts.length uc] 37)).alloc (.cells #[.int .i64 0, .int .i64 0, .int .i64 0, .int .i64 0, .slice none 0 0, .slice none 0 0, .slice none 0 0, .slice none 0 0, .slice none 0 0] 27) = x := ⟨_, rfl⟩
 obtain ⟨bz, hbz⟩ : ∃ x, x = bq + 1 := ⟨_, rfl⟩
 have HB1 : Hid (w1.heap[bs]? = some (.cells #[.int .i64 brk, .int .i64 nid, .int .i64 nseq, .int .i64 tx, .slice ma ms.length mc, .slice wa waits.length wk, .slice ea ends.length ec, .slice oa opens.length oc, .slice na noes.length nc] 27 (0, 0))) := by
  rw [Hid, <- hw1, <- hbs]
  exact blk_tch ((Tch.alloc _ _).trans0 (Tch.alloc _ _)) (blk_new WE _) (fun h => h)
 have HQ1 : Hid (w1.heap[bq]? = some (.cells #[.int .i64 kd, .int .i64 tid, .int .i64 rid, .bool yes, .slice qa parts.length qc, .slice ua puts.length uc] 37 (0, 0))) := by
  rw [Hid, <- hw1, <- hbq]
  exact blk_tch (Tch.alloc _ _) (blk_new _ _) (fun h => h)
 have HZ1 : Hid (w1.heap[bz]? = some (.cells #[.int .i64 0, .int .i64 0, .int .i64 0, .int .i64 0, .slice none 0 0, .slice none 0 0, .slice none 0 0, .slice none 0 0, .slice none 0 0] 27 (0, 0))) := by
  rw [Hid, <- hw1, hbz, <- hbq]
  have := blk_new ((WE.alloc (.cells #[.int .i64 brk, .int .i64 nid, .int .i64 nseq, .int .i64 tx, .slice ma ms.length mc, .slice wa waits.length wk, .slice ea ends.length ec, .slice oa opens.length oc, .slice na noes.length nc] 27)).alloc (.cells #[.int .i64 kd, .int .i64 tid, .int .i64 rid, .bool yes, .slice qa parts.length qc, .slice ua puts.length uc] 37)) (.cells #[.int .i64 0, .int .i64 0, .int .i64 0, .int .i64 0, .slice none 0 0, .slice none 0 0, .slice none 0 0, .slice none 0 0, .slice none 0 0] 27)
  have e : ((WE.alloc (.cells #[.int .i64 brk, .int .i64 nid, .int .i64 nseq, .int .i64 tx, .slice ma ms.length mc, .slice wa waits.length wk, .slice ea ends.length ec, .slice oa opens.length oc, .slice na noes.length nc] 27)).alloc (.cells #[.int .i64 kd, .int .i64 tid, .int .i64 rid, .bool yes, .slice qa parts.length qc, .slice ua puts.length uc] 37)).heap.size = (WE.alloc (.cells #[.int .i64 brk, .int .i64 nid, .int .i64 nseq, .int .i64 tx, .slice ma ms.length mc, .slice wa waits.length wk, .slice ea ends.length ec, .slice oa opens.length oc, .slice na noes.length nc] 27)).heap.size + 1 := by simp
  rwa [e] at this
 have TV1 : Hid (Tch No WE w1) := by rw [Hid, <- hw1]; exact ((Tch.alloc _ _).trans0 (Tch.alloc _ _)).trans0 (Tch.alloc _ _)
 have TW1 : Hid (Tch No w w1) := te.trans0 TV1.out
 have HLT : Hid (w.heap.size <= bs /\ WE.heap.size = bs /\ bq = bs + 1 /\ bz = bs + 2 /\ w1.heap.size = bs + 3) := by
  have e1 : bq = bs + 1 := by rw [<- hbq, <- hbs]; simp
  refine ⟨by rw [<- hbs]; exact te.size, hbs, e1, by omega, ?_⟩
  rw [<- hw1, <- hbs]; simp
 have HBZ := Lib.hid hbz
 clear hbz
 obtain ⟨b0, b1, b2, b3, b4, b5, b6, b7, b8⟩ := kc9 HB1.out
 obtain ⟨c0, c1, c2, c3, c4, c5⟩ := kc6 HQ1.out
 have HMAY : Hid (∀ W, Tch No w W -> Calls Tryz.prog 18 #[.agg #[.int .i64 brk, .int .i64 nid, .int .i64 nseq, .int .i64 tx, .slice ma ms.length mc, .slice wa waits.length wk, .slice ea ends.length ec, .slice oa opens.length oc, .slice na noes.length nc]] W fun e w' => e = .returned (.bool (mayM ⟨brk, nid, nseq, tx, ms, waits, ends, opens, noes⟩)) /\ Tch No W w') := fun W t => may_any ⟨brk, nid, nseq, tx, ms, waits, ends, opens, noes⟩ hs _ W ⟨_, _, _, _, _, rfl, HM.out.keep t, HW.out.keep t, HE.out.keep t, HO.out.keep t, HNO.out.keep t⟩
 have HCAN : Hid (mayM ⟨brk, nid, nseq, tx, ms, waits, ends, opens, noes⟩ = true -> ∀ W, Tch No w W -> Calls Tryz.prog 26 #[.agg #[.int .i64 brk, .int .i64 nid, .int .i64 nseq, .int .i64 tx, .slice ma ms.length mc, .slice wa waits.length wk, .slice ea ends.length ec, .slice oa opens.length oc, .slice na noes.length nc], .agg #[.int .i64 kd, .int .i64 tid, .int .i64 rid, .bool yes, .slice qa parts.length qc, .slice ua puts.length uc]] W fun e w' => e = .returned (.int .i64 (canM ⟨brk, nid, nseq, tx, ms, waits, ends, opens, noes⟩ ⟨kd, tid, rid, yes, parts, puts⟩ : Nat)) /\ Tch No W w') := fun hmay W t => scan_any ⟨brk, nid, nseq, tx, ms, waits, ends, opens, noes⟩ hs ((may_iff _).1 hmay) ⟨kd, tid, rid, yes, parts, puts⟩ hor _ _ W ⟨_, _, _, _, _, rfl, HM.out.keep t, HW.out.keep t, HE.out.keep t, HO.out.keep t, HNO.out.keep t⟩ ⟨_, _, rfl, HP.out.keep t, HU.out.keep t⟩
 have HAPL : Hid (mayM ⟨brk, nid, nseq, tx, ms, waits, ends, opens, noes⟩ = true -> canM ⟨brk, nid, nseq, tx, ms, waits, ends, opens, noes⟩ ⟨kd, tid, rid, yes, parts, puts⟩ = 0 -> ∀ W, Tch No w W -> Calls Tryz.prog 85 #[.agg #[.int .i64 brk, .int .i64 nid, .int .i64 nseq, .int .i64 tx, .slice ma ms.length mc, .slice wa waits.length wk, .slice ea ends.length ec, .slice oa opens.length oc, .slice na noes.length nc], .agg #[.int .i64 kd, .int .i64 tid, .int .i64 rid, .bool yes, .slice qa parts.length qc, .slice ua puts.length uc]] W (AplPost (fun k => G k ∨ WE.heap.size <= k) W (doM ⟨brk, nid, nseq, tx, ms, waits, ends, opens, noes⟩ ⟨kd, tid, rid, yes, parts, puts⟩))) := fun hmay hcan W t => sapply_any ⟨brk, nid, nseq, tx, ms, waits, ends, opens, noes⟩ hs ((may_iff _).1 hmay) ⟨kd, tid, rid, yes, parts, puts⟩ hor hcan (fun k => G k ∨ WE.heap.size <= k) _ _ W ⟨_, _, _, _, _, prb, pro, prn, rfl, HMB0.out, HMO0.out, HMN0.out, fun X t2 => HST.out X (tch_we HWE.out t t2)⟩ ⟨_, _, rfl, fun X t2 => HPU0.out X (tch_we HWE.out t t2)⟩
 have HDEF : Hid (applyM ⟨brk, nid, nseq, tx, ms, waits, ends, opens, noes⟩ ⟨kd, tid, rid, yes, parts, puts⟩ = if mayM ⟨brk, nid, nseq, tx, ms, waits, ends, opens, noes⟩ = true /\ canM ⟨brk, nid, nseq, tx, ms, waits, ends, opens, noes⟩ ⟨kd, tid, rid, yes, parts, puts⟩ = 0 then doM ⟨brk, nid, nseq, tx, ms, waits, ends, opens, noes⟩ ⟨kd, tid, rid, yes, parts, puts⟩ else ⟨brk, nid, nseq, tx, ms, waits, ends, opens, noes⟩) := rfl
 clear hs hor
 generalize hmay : mayM ⟨brk, nid, nseq, tx, ms, waits, ends, opens, noes⟩ = my at HMAY HCAN HAPL HDEF
 generalize hcan : canM ⟨brk, nid, nseq, tx, ms, waits, ends, opens, noes⟩ ⟨kd, tid, rid, yes, parts, puts⟩ = cc at HCAN HAPL HDEF
 clear hmay hcan
 go_enter Tryz.func28, Tryz.ntmps28
 go_wp2_with fail
 clear hbs hbq hw1 te
 refine (HMAY.out _ TW1.out).mono ?_
 rintro e w3 ⟨rfl, T3⟩
 cases my with
 | false =>
  have HSAME : applyM ⟨brk, nid, nseq, tx, ms, waits, ends, opens, noes⟩ ⟨kd, tid, rid, yes, parts, puts⟩ = ⟨brk, nid, nseq, tx, ms, waits, ends, opens, noes⟩ := by rw [HDEF.out]; simp
  have TT := Lib.hid T3
  have HBX := Lib.hid (blk_tch TT.out HB1.out (fun h => h))
  have HZX := Lib.hid (blk_tch TT.out HZ1.out (fun h => h))
  have HQX := Lib.hid (blk_tch TT.out HQ1.out (fun h => h))
  clear T3
  obtain ⟨wz, hwz, HRZ, TZ⟩ := kx9 (W := w3) (b := bz) (T := 27) (.int .i64 brk) (.int .i64 nid) (.int .i64 nseq) (.int .i64 tx) (.slice ma ms.length mc) (.slice wa waits.length wk) (.slice ea ends.length ec) (.slice oa opens.length oc) (.slice na noes.length nc) HZX.out
  rw [HBZ.out] at hwz
  obtain ⟨l0, l1, l2, l3, l4, l5, l6, l7, l8⟩ := kc9 HBX.out
  obtain ⟨r0, r1, r2, r3, r4, r5, r6, r7, r8⟩ := kc9 (W := w3) (b := bq + 1) (by rw [<- HBZ.out]; exact HZX.out)
  obtain ⟨fr0, fr1, fr2, fr3, fr4, fr5, fr6, fr7, fr8⟩ := kf9 (W := w3) (b := bq + 1) (by rw [<- HBZ.out]; exact HZX.out)
  go_wp2_with fail
  obtain ⟨q0, q1, q2, q3, q4, q5, q6, q7, q8⟩ := kc9 (W := wz) (b := bq + 1) (by rw [<- HBZ.out]; exact HRZ.out)
  refine bodyPost_ret (v := .agg #[.int .i64 brk, .int .i64 nid, .int .i64 nseq, .int .i64 tx, .slice ma ms.length mc, .slice wa waits.length wk, .slice ea ends.length ec, .slice oa opens.length oc, .slice na noes.length nc]) (by simp [results, Tryz.results28, go_sem, q0, q1, q2, q3, q4, q5, q6, q7, q8]) rfl ?_
  have glt := HLT.out
  have e : applyM ⟨brk, nid, nseq, tx, ms, waits, ends, opens, noes⟩ ⟨kd, tid, rid, yes, parts, puts⟩ = ⟨brk, nid, nseq, tx, ms, waits, ends, opens, noes⟩ := HSAME
  have tail : Tch No WE wz := (TV1.out.trans0 TT.out).fresh TZ.out (fun q h => by omega)
  refine ⟨_, rfl, ?_, tail⟩
  rw [e]
  refine ⟨_, _, _, _, _, prb, pro, prn, rfl, HMB0.out, HMO0.out, HMN0.out, fun W2 t2 => ?_⟩
  have gst := HST.out W2 (tail.no.trans t2 (fun i hi h => h.1))
  refine ⟨gst.ms, gst.cb, gst.ib, gst.en, gst.co, gst.io, gst.cn, gst.inn⟩
 | true =>
  have TT := Lib.hid T3
  have HBX := Lib.hid (blk_tch TT.out HB1.out (fun h => h))
  have HZX := Lib.hid (blk_tch TT.out HZ1.out (fun h => h))
  have HQX := Lib.hid (blk_tch TT.out HQ1.out (fun h => h))
  obtain ⟨u0w3, u1w3, u2w3, u3w3, u4w3, u5w3, u6w3, u7w3, u8w3⟩ := kc9 HBX.out
  obtain ⟨k0w3, k1w3, k2w3, k3w3, k4w3, k5w3⟩ := kc6 HQX.out
  clear T3
  go_wp2_with fail
  refine (HCAN.out (by trivial) _ (TW1.out.trans0 TT.out)).mono ?_
  rintro e w4 ⟨rfl, T4⟩
  have TT4 := Lib.hid (TT.out.trans0 T4)
  clear TT HBX HZX HQX
  cases cc with
  | succ cn =>
   have HSAME : applyM ⟨brk, nid, nseq, tx, ms, waits, ends, opens, noes⟩ ⟨kd, tid, rid, yes, parts, puts⟩ = ⟨brk, nid, nseq, tx, ms, waits, ends, opens, noes⟩ := by rw [HDEF.out]; simp
   have hcz : (((cn + 1 : Nat) : Int) == 0) = false := beq_eq_false_iff_ne.2 (by omega)
   have hcz2 : (((cn + 1 : Nat) : Int) != 0) = true := by rw [bne, hcz]; rfl
   have TT := Lib.hid TT4.out
   have HBX := Lib.hid (blk_tch TT.out HB1.out (fun h => h))
   have HZX := Lib.hid (blk_tch TT.out HZ1.out (fun h => h))
   have HQX := Lib.hid (blk_tch TT.out HQ1.out (fun h => h))
   obtain ⟨wz, hwz, HRZ, TZ⟩ := kx9 (W := w4) (b := bz) (T := 27) (.int .i64 brk) (.int .i64 nid) (.int .i64 nseq) (.int .i64 tx) (.slice ma ms.length mc) (.slice wa waits.length wk) (.slice ea ends.length ec) (.slice oa opens.length oc) (.slice na noes.length nc) HZX.out
   rw [HBZ.out] at hwz
   obtain ⟨l0, l1, l2, l3, l4, l5, l6, l7, l8⟩ := kc9 HBX.out
   obtain ⟨r0, r1, r2, r3, r4, r5, r6, r7, r8⟩ := kc9 (W := w4) (b := bq + 1) (by rw [<- HBZ.out]; exact HZX.out)
   obtain ⟨fr0, fr1, fr2, fr3, fr4, fr5, fr6, fr7, fr8⟩ := kf9 (W := w4) (b := bq + 1) (by rw [<- HBZ.out]; exact HZX.out)
   go_wp2_with fail
   obtain ⟨q0, q1, q2, q3, q4, q5, q6, q7, q8⟩ := kc9 (W := wz) (b := bq + 1) (by rw [<- HBZ.out]; exact HRZ.out)
   refine bodyPost_ret (v := .agg #[.int .i64 brk, .int .i64 nid, .int .i64 nseq, .int .i64 tx, .slice ma ms.length mc, .slice wa waits.length wk, .slice ea ends.length ec, .slice oa opens.length oc, .slice na noes.length nc]) (by simp [results, Tryz.results28, go_sem, q0, q1, q2, q3, q4, q5, q6, q7, q8]) rfl ?_
   have glt := HLT.out
   have e : applyM ⟨brk, nid, nseq, tx, ms, waits, ends, opens, noes⟩ ⟨kd, tid, rid, yes, parts, puts⟩ = ⟨brk, nid, nseq, tx, ms, waits, ends, opens, noes⟩ := HSAME
   have tail : Tch No WE wz := (TV1.out.trans0 TT.out).fresh TZ.out (fun q h => by omega)
   refine ⟨_, rfl, ?_, tail⟩
   rw [e]
   refine ⟨_, _, _, _, _, prb, pro, prn, rfl, HMB0.out, HMO0.out, HMN0.out, fun W2 t2 => ?_⟩
   have gst := HST.out W2 (tail.no.trans t2 (fun i hi h => h.1))
   refine ⟨gst.ms, gst.cb, gst.ib, gst.en, gst.co, gst.io, gst.cn, gst.inn⟩
  | zero =>
   have TT := Lib.hid TT4.out
   have HBX := Lib.hid (blk_tch TT.out HB1.out (fun h => h))
   have HZX := Lib.hid (blk_tch TT.out HZ1.out (fun h => h))
   have HQX := Lib.hid (blk_tch TT.out HQ1.out (fun h => h))
   obtain ⟨u0w4, u1w4, u2w4, u3w4, u4w4, u5w4, u6w4, u7w4, u8w4⟩ := kc9 HBX.out
   obtain ⟨k0w4, k1w4, k2w4, k3w4, k4w4, k5w4⟩ := kc6 HQX.out
   go_wp2_with fail
   refine (HAPL.out (by trivial) (by trivial) _ (TW1.out.trans0 TT.out)).mono ?_
   rintro e w5 ⟨v', rfl, h5, T5⟩
   obtain ⟨e0, e1, e2, e3, am, nm, cm, aw, nw, cw, ae, ne, ce, ao, no, co, an, nn, cn, rfl⟩ : ∃ e0 e1 e2 e3 am nm cm aw nw cw ae ne ce ao no co an nn cn, v' = .agg #[.int .i64 e0, .int .i64 e1, .int .i64 e2, .int .i64 e3, .slice am nm cm, .slice aw nw cw, .slice ae ne ce, .slice ao no co, .slice an nn cn] := by
    obtain ⟨am, cm, aw, cw, ae, ce, ao, co, an, cn, hv⟩ := (h5.is (Tch.refl _ _)).vals
    exact ⟨_, _, _, _, am, _, cm, aw, _, cw, ae, _, ce, ao, _, co, an, _, cn, hv⟩
   have H5 := Lib.hid h5
   have TT5 := Lib.hid T5
   have HZ5 := Lib.hid (blk_tch T5 HZX.out (fun h => h))
   clear h5 T5
   obtain ⟨wz, hwz, HRZ, TZ⟩ := kx9 (W := w5) (b := bz) (T := 27) (.int .i64 e0) (.int .i64 e1) (.int .i64 e2) (.int .i64 e3) (.slice am nm cm) (.slice aw nw cw) (.slice ae ne ce) (.slice ao no co) (.slice an nn cn) HZ5.out
   rw [HBZ.out] at hwz
   obtain ⟨r0, r1, r2, r3, r4, r5, r6, r7, r8⟩ := kc9 (W := w5) (b := bq + 1) (by rw [<- HBZ.out]; exact HZ5.out)
   obtain ⟨fr0, fr1, fr2, fr3, fr4, fr5, fr6, fr7, fr8⟩ := kf9 (W := w5) (b := bq + 1) (by rw [<- HBZ.out]; exact HZ5.out)
   go_wp2_with fail
   obtain ⟨q0, q1, q2, q3, q4, q5, q6, q7, q8⟩ := kc9 (W := wz) (b := bq + 1) (by rw [<- HBZ.out]; exact HRZ.out)
   refine bodyPost_ret (v := .agg #[.int .i64 e0, .int .i64 e1, .int .i64 e2, .int .i64 e3, .slice am nm cm, .slice aw nw cw, .slice ae ne ce, .slice ao no co, .slice an nn cn]) (by simp [results, Tryz.results28, go_sem, q0, q1, q2, q3, q4, q5, q6, q7, q8]) rfl ?_
   have glt := HLT.out
   have s4 := TT.out.size
   refine ⟨_, rfl, ?_, ((TV1.out.trans0 TT.out).trans0 TT5.out).fresh TZ.out (fun q h => by omega)⟩
   have e : applyM ⟨brk, nid, nseq, tx, ms, waits, ends, opens, noes⟩ ⟨kd, tid, rid, yes, parts, puts⟩ = doM ⟨brk, nid, nseq, tx, ms, waits, ends, opens, noes⟩ ⟨kd, tid, rid, yes, parts, puts⟩ := by rw [HDEF.out]; simp
   rw [e]
   exact H5.out.mono (fun W2 t2 => (TZ.out.mono (G := fun k => (G k ∨ WE.heap.size <= k) /\ k < w4.heap.size) (fun q _ h => ⟨.inr (by omega), by omega⟩)).trans (t2.mono (G := fun k => (G k ∨ WE.heap.size <= k) /\ k < w4.heap.size) (fun q _ h => ⟨.inl h.1, by have := h.2; omega⟩)) (fun _ _ h => h))
end
section
open Go.RowKit Go.Maps
theorem stw_fwd {G : Nat -> Prop} {v : Value} {s : StM} {w WE : World} (h : StW (Tch G w) v s) (t : Tch No w WE) : StW (Tch G WE) v s := h.mono (fun X tx => t.no.trans tx (fun _ _ e => e))
theorem stw_vals {Al : World -> Prop} {v : Value} {s : StM} {W : World} (h : StW Al v s) (hW : Al W) : ∃ am cm aw cw ae ce ao co an cn, v = .agg #[.int .i64 s.broker, .int .i64 s.nid, .int .i64 s.nseq, .int .i64 s.tx, .slice am s.ms.length cm, .slice aw s.waits.length cw, .slice ae s.ends.length ce, .slice ao s.opens.length co, .slice an s.noes.length cn] := (h.is hW).vals
theorem stw_keep {G : Nat -> Prop} {v : Value} {s : StM} {w WE : World} (h : StW (Tch G w) v s) (t : Tch G w WE) : StW (Tch G WE) v s := h.mono (fun X tx => t.trans tx (fun _ _ e => e))
end
end Go.Proofs.YtfedhcnmdmhppaaGreat
