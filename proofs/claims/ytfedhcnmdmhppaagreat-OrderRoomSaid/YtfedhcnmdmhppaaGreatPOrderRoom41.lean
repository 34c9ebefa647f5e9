/- Part 41 of what the proof of OrderRoom rests on. No condition. -/
import Derived.Test.YtfedhcnmdmhppaaGreatPOrderRoom22
import Derived.Test.YtfedhcnmdmhppaaGreatPOrderRoom24
import Derived.Test.YtfedhcnmdmhppaaGreatPOrderRoom29
import Derived.Test.YtfedhcnmdmhppaaGreatPOrderRoom30
import Derived.Test.YtfedhcnmdmhppaaGreatPOrderRoom32
import Derived.Test.YtfedhcnmdmhppaaGreatPOrderRoom37
import Derived.Test.YtfedhcnmdmhppaaGreatPOrderRoom39
import Derived.Test.YtfedhcnmdmhppaaGreatPOrderRoom40
namespace Go.Proofs.YtfedhcnmdmhppaaGreat
set_option maxRecDepth 100000
set_option maxHeartbeats 60000000
set_option linter.unusedVariables false
set_option linter.unusedSimpArgs false
section
open Go.RowKit Go.Maps
theorem ms_first {w : World} {am : Option Addr} {n cm : Nat} {m : MsgM} {l : List MsgM} (h : IsMsgs w (.slice am n cm) (m :: l)) : ∃ b o, am = some ⟨b, o, none⟩ /\ ∀ j x, j < 6 -> (encMsg m)[j]? = some x -> w.cell? ⟨b, o + j, none⟩ = some x := by
 obtain ⟨b, o, c, h1, h2⟩ := CellsAt.elem (enc := encMsg) (m := 6) (fun _ => rfl) h (i := 0) (by simp)
 injection h1 with h1 _ _
 exact ⟨b, o, h1, fun j x hj hx => by simpa using h2 j x hj hx⟩
theorem IsSt.msgs {w : World} {h0 h1 h2 h3 v w2 v3 v4 v5 : Value} {s : StM} (h : IsSt w (.agg #[h0, h1, h2, h3, v, w2, v3, v4, v5]) s) : IsMsgs w v s.ms := by
 obtain ⟨vm, vw, ve, vo, vn, e, hm, _⟩ := h
 simp only [Value.agg.injEq, Array.mk.injEq, List.cons.injEq, and_true] at e
 obtain ⟨_, _, _, _, rfl, _⟩ := e
 exact hm
theorem beg_ok (k : Nat) : OkSt (begS k) := by
 unfold begS
 split <;> constructor <;> simp [I64, OkMsg, OkPut, OkT, lim]
theorem beg_okr (k : Nat) : OkRec (begR k) := by
 unfold begR
 split <;> constructor <;> simp [I64, OkPut, OkT, lim]
theorem beg_may5 : MayP (begS 5) := (may_iff _).1 beg_m5
theorem beg_next : nextM (begS 2) [113] = some ⟨4294967297, [113], [120], 1, 0, 0⟩ := by decide
theorem beg_names : namesM (begS 2) [] = [[113]] := by decide
theorem beg_room : roomM (begS 2) [113] [] = true := by decide
theorem beg_queues : (queuesM (begS 2) []).length = 1 := by
 unfold queuesM
 rw [beg_names]
 unfold sortM
 rw [List.mergeSort_of_pairwise (List.pairwise_singleton _ _)]
 rfl
theorem beg_enc : (encStM (begS 5)).length <= 800000 := by decide
theorem beg_shape0 {w : World} {v : Value} (h : IsSt w v (begS 0)) : ∃ am cm aw cw ae ce ao co an cn, v = .agg #[.int .i64 1, .int .i64 1, .int .i64 1, .int .i64 0, .slice am 0 cm, .slice aw 0 cw, .slice ae 0 ce, .slice ao 0 co, .slice an 0 cn] := by
 obtain ⟨am, cm, aw, cw, ae, ce, ao, co, an, cn, hv, _⟩ := h.shape
 exact ⟨am, cm, aw, cw, ae, ce, ao, co, an, cn, hv⟩
theorem beg_shape1 {w : World} {v : Value} (h : IsSt w v (begS 1)) : ∃ am cm aw cw ae ce ao co an cn, v = .agg #[.int .i64 1, .int .i64 1, .int .i64 1, .int .i64 0, .slice am 0 cm, .slice aw 1 cw, .slice ae 0 ce, .slice ao 0 co, .slice an 0 cn] := by
 obtain ⟨am, cm, aw, cw, ae, ce, ao, co, an, cn, hv, _⟩ := h.shape
 exact ⟨am, cm, aw, cw, ae, ce, ao, co, an, cn, hv⟩
theorem beg_shape2 {w : World} {v : Value} (h : IsSt w v (begS 2)) : ∃ am cm aw cw ae ce ao co an cn, v = .agg #[.int .i64 1, .int .i64 2, .int .i64 2, .int .i64 0, .slice am 1 cm, .slice aw 0 cw, .slice ae 1 ce, .slice ao 0 co, .slice an 0 cn] := by
 obtain ⟨am, cm, aw, cw, ae, ce, ao, co, an, cn, hv, _⟩ := h.shape
 exact ⟨am, cm, aw, cw, ae, ce, ao, co, an, cn, hv⟩
theorem beg_shape3 {w : World} {v : Value} (h : IsSt w v (begS 3)) : ∃ am cm aw cw ae ce ao co an cn, v = .agg #[.int .i64 1, .int .i64 2, .int .i64 2, .int .i64 1, .slice am 1 cm, .slice aw 0 cw, .slice ae 1 ce, .slice ao 0 co, .slice an 0 cn] := by
 obtain ⟨am, cm, aw, cw, ae, ce, ao, co, an, cn, hv, _⟩ := h.shape
 exact ⟨am, cm, aw, cw, ae, ce, ao, co, an, cn, hv⟩
theorem beg_shape4 {w : World} {v : Value} (h : IsSt w v (begS 4)) : ∃ am cm aw cw ae ce ao co an cn, v = .agg #[.int .i64 1, .int .i64 2, .int .i64 2, .int .i64 1, .slice am 1 cm, .slice aw 0 cw, .slice ae 1 ce, .slice ao 0 co, .slice an 0 cn] := by
 obtain ⟨am, cm, aw, cw, ae, ce, ao, co, an, cn, hv, _⟩ := h.shape
 exact ⟨am, cm, aw, cw, ae, ce, ao, co, an, cn, hv⟩
theorem beg_shape5 {w : World} {v : Value} (h : IsSt w v (begS 5)) : ∃ am cm aw cw ae ce ao co an cn, v = .agg #[.int .i64 1, .int .i64 2, .int .i64 2, .int .i64 1, .slice am 1 cm, .slice aw 0 cw, .slice ae 2 ce, .slice ao 0 co, .slice an 1 cn] := by
 obtain ⟨am, cm, aw, cw, ae, ce, ao, co, an, cn, hv, _⟩ := h.shape
 exact ⟨am, cm, aw, cw, ae, ce, ao, co, an, cn, hv⟩
theorem begun10_any (w : World) : Calls Tryz.prog 16 #[] w fun e w' => e = .returned (.bool true) /\ Tch No w w' := by
 have HNEW := Lib.hid (fun W => snew_any 1 W)
 rw [beg_new] at HNEW
 have HA0 : Hid (∀ v vr W, IsSt W v (begS 0) -> IsRec W vr (begR 0) -> Calls Tryz.prog 28 #[v, vr] W fun e w' => ∃ v', e = .returned v' /\ IsSt w' v' (begS 1) /\ Tch No W w') := fun v vr W h hr => (sApply_any (begS 0) (begR 0) (beg_ok _) (beg_okr _) No v vr W (StW.of h) (RecW.of hr)).mono (fun e w' hh => by
  rw [beg_a0] at hh
  obtain ⟨v', h1, h2, h3⟩ := hh
  exact ⟨v', h1, h2.is (Tch.refl _ _), h3⟩)
 have HA1 : Hid (∀ v vr W, IsSt W v (begS 1) -> IsRec W vr (begR 1) -> Calls Tryz.prog 28 #[v, vr] W fun e w' => ∃ v', e = .returned v' /\ IsSt w' v' (begS 2) /\ Tch No W w') := fun v vr W h hr => (sApply_any (begS 1) (begR 1) (beg_ok _) (beg_okr _) No v vr W (StW.of h) (RecW.of hr)).mono (fun e w' hh => by
  rw [beg_a1] at hh
  obtain ⟨v', h1, h2, h3⟩ := hh
  exact ⟨v', h1, h2.is (Tch.refl _ _), h3⟩)
 have HA2 : Hid (∀ v vr W, IsSt W v (begS 2) -> IsRec W vr (begR 2) -> Calls Tryz.prog 28 #[v, vr] W fun e w' => ∃ v', e = .returned v' /\ IsSt w' v' (begS 3) /\ Tch No W w') := fun v vr W h hr => (sApply_any (begS 2) (begR 2) (beg_ok _) (beg_okr _) No v vr W (StW.of h) (RecW.of hr)).mono (fun e w' hh => by
  rw [beg_a2] at hh
  obtain ⟨v', h1, h2, h3⟩ := hh
  exact ⟨v', h1, h2.is (Tch.refl _ _), h3⟩)
 have HA3 : Hid (∀ v vr W, IsSt W v (begS 3) -> IsRec W vr (begR 3) -> Calls Tryz.prog 28 #[v, vr] W fun e w' => ∃ v', e = .returned v' /\ IsSt w' v' (begS 4) /\ Tch No W w') := fun v vr W h hr => (sApply_any (begS 3) (begR 3) (beg_ok _) (beg_okr _) No v vr W (StW.of h) (RecW.of hr)).mono (fun e w' hh => by
  rw [beg_a3] at hh
  obtain ⟨v', h1, h2, h3⟩ := hh
  exact ⟨v', h1, h2.is (Tch.refl _ _), h3⟩)
 have HA4 : Hid (∀ v vr W, IsSt W v (begS 4) -> IsRec W vr (begR 4) -> Calls Tryz.prog 28 #[v, vr] W fun e w' => ∃ v', e = .returned v' /\ IsSt w' v' (begS 5) /\ Tch No W w') := fun v vr W h hr => (sApply_any (begS 4) (begR 4) (beg_ok _) (beg_okr _) No v vr W (StW.of h) (RecW.of hr)).mono (fun e w' hh => by
  rw [beg_a4] at hh
  obtain ⟨v', h1, h2, h3⟩ := hh
  exact ⟨v', h1, h2.is (Tch.refl _ _), h3⟩)
 have HEN : Hid (∀ v W, IsSt W v (begS 5) -> Calls Tryz.prog 43 #[v] W fun e w' => Tch No W w' /\ ∃ v', e = .returned v' /\ SlB w' v' (encStM (begS 5))) := fun v W h => (sencode_any (begS 5) (beg_ok _) beg_enc v W h).mono (fun e w' hh => by
  obtain ⟨h1, h2 | ⟨_, v', h3, h4, _⟩⟩ := hh
  ·rw [beg_m5] at h2; cases h2.1
  ·exact ⟨h1, v', h3, h4⟩)
 have HDE := Lib.hid (fun v W h => sdecode_any (begS 5) (beg_ok _) beg_m5 v W h)
 have HNX := Lib.hid (fun v W h => onext_any (begS 2) (by decide) (by decide) [113] v W h)
 rw [beg_next] at HNX
 have HM0 := Lib.hid (fun v W h => may_any (begS 0) (beg_ok _) v W h)
 rw [beg_m0] at HM0
 have HMZ := Lib.hid (fun W => may_any ⟨0, 0, 0, 0, [], [], [], [], []⟩ (by constructor <;> simp [I64]) _ W (isst_empty W 0 0 0))
 rw [beg_mz] at HMZ
 have HCN := Lib.hid (fun v vr W h hr => scan_any (begS 5) (beg_ok _) beg_may5 (begR 5) (beg_okr _) v vr W h hr)
 rw [beg_can] at HCN
 have HE5 := Lib.hid (fun va vb W h1 h2 => seq_any (begS 5) (begS 5) va vb W h1 h2)
 rw [decide_eq_true (rfl : begS 5 = begS 5)] at HE5
 have HE4 := Lib.hid (fun va vb W h1 h2 => seq_any (begS 5) (begS 4) va vb W h1 h2)
 rw [beg_ne] at HE4
 have HRM := Lib.hid (fun v W h => oroom_any (begS 2) [113] [] (by decide) (by decide) (by decide) v (.slice none 0 0) W h (CellsAt.nil _ _))
 rw [beg_room] at HRM
 have HQU := Lib.hid (fun v W h => oqueues_any (begS 2) [] (by decide) (by decide) (by decide) v (.slice none 0 0) W h (CellsAt.nil _ _))
 rw [beg_queues] at HQU
 go_enter Tryz.func16, Tryz.ntmps16
 go_wp2_with fail
 refine (HNEW.out _).mono ?_
 rintro e x0 ⟨v0, rfl, h0, t0⟩
 obtain ⟨am0, cm0, aw0, cw0, ae0, ce0, ao0, co0, an0, cn0, rfl⟩ := beg_shape0 h0
 obtain ⟨b0, hb0⟩ : ∃ n, x0.heap.size = n := ⟨_, rfl⟩
 obtain ⟨y0, hy0⟩ : ∃ n, x0.alloc (.cells #[.int .i64 1, .int .i64 1, .int .i64 1, .int .i64 0, .slice am0 0 cm0, .slice aw0 0 cw0, .slice ae0 0 ce0, .slice ao0 0 co0, .slice an0 0 cn0] 27) = n := ⟨_, rfl⟩
 have HS0' : Hid (IsSt y0 (.agg #[.int .i64 1, .int .i64 1, .int .i64 1, .int .i64 0, .slice am0 0 cm0, .slice aw0 0 cw0, .slice ae0 0 ce0, .slice ao0 0 co0, .slice an0 0 cn0]) (begS 0)) := by rw [Hid, <- hy0]; exact h0.keep (Tch.alloc _ _)
 have HB0' : Hid (y0.heap[b0]? = some (.cells #[.int .i64 1, .int .i64 1, .int .i64 1, .int .i64 0, .slice am0 0 cm0, .slice aw0 0 cw0, .slice ae0 0 ce0, .slice ao0 0 co0, .slice an0 0 cn0] 27 (0, 0))) := by rw [Hid, <- hy0, <- hb0]; exact blk_new _ _
 have hT0 : Tch No x0 y0 := by rw [<- hy0]; exact Tch.alloc _ _
 have TW : Hid (Tch No w y0) := t0.trans0 hT0
 have HS0 := HS0'; have HB0 := HB0'
 clear h0 t0 hT0 HS0' HB0'
 obtain ⟨c0_0, c0_1, c0_2, c0_3, c0_4, c0_5, c0_6, c0_7, c0_8⟩ := kc9 HB0.out
 go_wp2_with fail
 refine (HA0.out _ _ _ (HS0.out.keep (Tch.alloc _ _)) ⟨_, _, rfl, CellsAt.nil _ _, cells_lit2 rfl _ _ 2 _ rfl rfl⟩).mono ?_
 rintro e x1 ⟨v1, rfl, h1, t1⟩
 clear c0_0 c0_1 c0_2 c0_3 c0_4 c0_5 c0_6 c0_7 c0_8
 clear hy0
 obtain ⟨am1, cm1, aw1, cw1, ae1, ce1, ao1, co1, an1, cn1, rfl⟩ := beg_shape1 h1
 obtain ⟨b1, hb1⟩ : ∃ n, x1.heap.size = n := ⟨_, rfl⟩
 obtain ⟨y1, hy1⟩ : ∃ n, x1.alloc (.cells #[.int .i64 1, .int .i64 1, .int .i64 1, .int .i64 0, .slice am1 0 cm1, .slice aw1 1 cw1, .slice ae1 0 ce1, .slice ao1 0 co1, .slice an1 0 cn1] 27) = n := ⟨_, rfl⟩
 have HS1' : Hid (IsSt y1 (.agg #[.int .i64 1, .int .i64 1, .int .i64 1, .int .i64 0, .slice am1 0 cm1, .slice aw1 1 cw1, .slice ae1 0 ce1, .slice ao1 0 co1, .slice an1 0 cn1]) (begS 1)) := by rw [Hid, <- hy1]; exact h1.keep (Tch.alloc _ _)
 have HB1' : Hid (y1.heap[b1]? = some (.cells #[.int .i64 1, .int .i64 1, .int .i64 1, .int .i64 0, .slice am1 0 cm1, .slice aw1 1 cw1, .slice ae1 0 ce1, .slice ao1 0 co1, .slice an1 0 cn1] 27 (0, 0))) := by rw [Hid, <- hy1, <- hb1]; exact blk_new _ _
 have hT1 : Tch No x1 y1 := by rw [<- hy1]; exact Tch.alloc _ _
 have tt : Tch No y0 y1 := ((Tch.alloc _ _).trans0 t1).trans0 hT1
 replace HS0 := Lib.hid (HS0.out.keep (tt))
 replace HB0 := Lib.hid (blk_tch (tt) HB0.out (fun h => h))
 replace TW : Hid (Tch No w y1) := TW.out.trans0 (tt)
 have HS1 := HS1'; have HB1 := HB1'
 clear h1 t1 hT1 HS1' HB1' tt HA0
 obtain ⟨c1_0, c1_1, c1_2, c1_3, c1_4, c1_5, c1_6, c1_7, c1_8⟩ := kc9 HB1.out
 go_wp2_with fail
 refine (HA1.out _ _ _ (HS1.out.keep (Tch.refl _ _)) ⟨_, _, rfl, CellsAt.nil _ _, CellsAt.nil _ _⟩).mono ?_
 rintro e x2 ⟨v2, rfl, h2, t2⟩
 clear c1_0 c1_1 c1_2 c1_3 c1_4 c1_5 c1_6 c1_7 c1_8
 clear hy1
 obtain ⟨am2, cm2, aw2, cw2, ae2, ce2, ao2, co2, an2, cn2, rfl⟩ := beg_shape2 h2
 obtain ⟨b2, hb2⟩ : ∃ n, x2.heap.size = n := ⟨_, rfl⟩
 obtain ⟨y2, hy2⟩ : ∃ n, x2.alloc (.cells #[.int .i64 1, .int .i64 2, .int .i64 2, .int .i64 0, .slice am2 1 cm2, .slice aw2 0 cw2, .slice ae2 1 ce2, .slice ao2 0 co2, .slice an2 0 cn2] 27) = n := ⟨_, rfl⟩
 have HS2' : Hid (IsSt y2 (.agg #[.int .i64 1, .int .i64 2, .int .i64 2, .int .i64 0, .slice am2 1 cm2, .slice aw2 0 cw2, .slice ae2 1 ce2, .slice ao2 0 co2, .slice an2 0 cn2]) (begS 2)) := by rw [Hid, <- hy2]; exact h2.keep (Tch.alloc _ _)
 have HB2' : Hid (y2.heap[b2]? = some (.cells #[.int .i64 1, .int .i64 2, .int .i64 2, .int .i64 0, .slice am2 1 cm2, .slice aw2 0 cw2, .slice ae2 1 ce2, .slice ao2 0 co2, .slice an2 0 cn2] 27 (0, 0))) := by rw [Hid, <- hy2, <- hb2]; exact blk_new _ _
 have hT2 : Tch No x2 y2 := by rw [<- hy2]; exact Tch.alloc _ _
 have tt : Tch No y1 y2 := ((Tch.refl _ _).trans0 t2).trans0 hT2
 replace HS0 := Lib.hid (HS0.out.keep (tt))
 replace HB0 := Lib.hid (blk_tch (tt) HB0.out (fun h => h))
 replace HS1 := Lib.hid (HS1.out.keep (tt))
 replace HB1 := Lib.hid (blk_tch (tt) HB1.out (fun h => h))
 replace TW : Hid (Tch No w y2) := TW.out.trans0 (tt)
 have HS2 := HS2'; have HB2 := HB2'
 clear h2 t2 hT2 HS2' HB2' tt HA1
 obtain ⟨c2_0, c2_1, c2_2, c2_3, c2_4, c2_5, c2_6, c2_7, c2_8⟩ := kc9 HB2.out
 go_wp2_with fail
 refine (HA2.out _ _ _ (HS2.out.keep (Tch.refl _ _)) ⟨_, _, rfl, CellsAt.nil _ _, CellsAt.nil _ _⟩).mono ?_
 rintro e x3 ⟨v3, rfl, h3, t3⟩
 clear c2_0 c2_1 c2_2 c2_3 c2_4 c2_5 c2_6 c2_7 c2_8
 clear hy2
 obtain ⟨am3, cm3, aw3, cw3, ae3, ce3, ao3, co3, an3, cn3, rfl⟩ := beg_shape3 h3
 obtain ⟨b3, hb3⟩ : ∃ n, x3.heap.size = n := ⟨_, rfl⟩
 obtain ⟨y3, hy3⟩ : ∃ n, x3.alloc (.cells #[.int .i64 1, .int .i64 2, .int .i64 2, .int .i64 1, .slice am3 1 cm3, .slice aw3 0 cw3, .slice ae3 1 ce3, .slice ao3 0 co3, .slice an3 0 cn3] 27) = n := ⟨_, rfl⟩
 have HS3' : Hid (IsSt y3 (.agg #[.int .i64 1, .int .i64 2, .int .i64 2, .int .i64 1, .slice am3 1 cm3, .slice aw3 0 cw3, .slice ae3 1 ce3, .slice ao3 0 co3, .slice an3 0 cn3]) (begS 3)) := by rw [Hid, <- hy3]; exact h3.keep (Tch.alloc _ _)
 have HB3' : Hid (y3.heap[b3]? = some (.cells #[.int .i64 1, .int .i64 2, .int .i64 2, .int .i64 1, .slice am3 1 cm3, .slice aw3 0 cw3, .slice ae3 1 ce3, .slice ao3 0 co3, .slice an3 0 cn3] 27 (0, 0))) := by rw [Hid, <- hy3, <- hb3]; exact blk_new _ _
 have hT3 : Tch No x3 y3 := by rw [<- hy3]; exact Tch.alloc _ _
 have tt : Tch No y2 y3 := ((Tch.refl _ _).trans0 t3).trans0 hT3
 replace HS0 := Lib.hid (HS0.out.keep (tt))
 replace HB0 := Lib.hid (blk_tch (tt) HB0.out (fun h => h))
 replace HS1 := Lib.hid (HS1.out.keep (tt))
 replace HB1 := Lib.hid (blk_tch (tt) HB1.out (fun h => h))
 replace HS2 := Lib.hid (HS2.out.keep (tt))
 replace HB2 := Lib.hid (blk_tch (tt) HB2.out (fun h => h))
 replace TW : Hid (Tch No w y3) := TW.out.trans0 (tt)
 have HS3 := HS3'; have HB3 := HB3'
 clear h3 t3 hT3 HS3' HB3' tt HA2
 obtain ⟨c3_0, c3_1, c3_2, c3_3, c3_4, c3_5, c3_6, c3_7, c3_8⟩ := kc9 HB3.out
 go_wp2_with fail
 refine (HA3.out _ _ _ (HS3.out.keep (Tch.refl _ _)) ⟨_, _, rfl, CellsAt.nil _ _, CellsAt.nil _ _⟩).mono ?_
 rintro e x4 ⟨v4, rfl, h4, t4⟩
 clear c3_0 c3_1 c3_2 c3_3 c3_4 c3_5 c3_6 c3_7 c3_8
 clear hy3
 obtain ⟨am4, cm4, aw4, cw4, ae4, ce4, ao4, co4, an4, cn4, rfl⟩ := beg_shape4 h4
 obtain ⟨b4, hb4⟩ : ∃ n, x4.heap.size = n := ⟨_, rfl⟩
 obtain ⟨y4, hy4⟩ : ∃ n, x4.alloc (.cells #[.int .i64 1, .int .i64 2, .int .i64 2, .int .i64 1, .slice am4 1 cm4, .slice aw4 0 cw4, .slice ae4 1 ce4, .slice ao4 0 co4, .slice an4 0 cn4] 27) = n := ⟨_, rfl⟩
 have HS4' : Hid (IsSt y4 (.agg #[.int .i64 1, .int .i64 2, .int .i64 2, .int .i64 1, .slice am4 1 cm4, .slice aw4 0 cw4, .slice ae4 1 ce4, .slice ao4 0 co4, .slice an4 0 cn4]) (begS 4)) := by rw [Hid, <- hy4]; exact h4.keep (Tch.alloc _ _)
 have HB4' : Hid (y4.heap[b4]? = some (.cells #[.int .i64 1, .int .i64 2, .int .i64 2, .int .i64 1, .slice am4 1 cm4, .slice aw4 0 cw4, .slice ae4 1 ce4, .slice ao4 0 co4, .slice an4 0 cn4] 27 (0, 0))) := by rw [Hid, <- hy4, <- hb4]; exact blk_new _ _
 have hT4 : Tch No x4 y4 := by rw [<- hy4]; exact Tch.alloc _ _
 have tt : Tch No y3 y4 := ((Tch.refl _ _).trans0 t4).trans0 hT4
 replace HS0 := Lib.hid (HS0.out.keep (tt))
 replace HB0 := Lib.hid (blk_tch (tt) HB0.out (fun h => h))
 replace HS1 := Lib.hid (HS1.out.keep (tt))
 replace HB1 := Lib.hid (blk_tch (tt) HB1.out (fun h => h))
 replace HS2 := Lib.hid (HS2.out.keep (tt))
 replace HB2 := Lib.hid (blk_tch (tt) HB2.out (fun h => h))
 replace HS3 := Lib.hid (HS3.out.keep (tt))
 replace HB3 := Lib.hid (blk_tch (tt) HB3.out (fun h => h))
 replace TW : Hid (Tch No w y4) := TW.out.trans0 (tt)
 have HS4 := HS4'; have HB4 := HB4'
 clear h4 t4 hT4 HS4' HB4' tt HA3
 obtain ⟨c4_0, c4_1, c4_2, c4_3, c4_4, c4_5, c4_6, c4_7, c4_8⟩ := kc9 HB4.out
 go_wp2_with fail
 refine (HA4.out _ _ _ (HS4.out.keep (Tch.alloc _ _)) ⟨_, _, rfl, cells_lit2 rfl _ _ 1 _ rfl rfl, CellsAt.nil _ _⟩).mono ?_
 rintro e x5 ⟨v5, rfl, h5, t5⟩
 clear c4_0 c4_1 c4_2 c4_3 c4_4 c4_5 c4_6 c4_7 c4_8
 clear hy4
 obtain ⟨am5, cm5, aw5, cw5, ae5, ce5, ao5, co5, an5, cn5, rfl⟩ := beg_shape5 h5
 obtain ⟨b5, hb5⟩ : ∃ n, x5.heap.size = n := ⟨_, rfl⟩
 obtain ⟨y5, hy5⟩ : ∃ n, x5.alloc (.cells #[.int .i64 1, .int .i64 2, .int .i64 2, .int .i64 1, .slice am5 1 cm5, .slice aw5 0 cw5, .slice ae5 2 ce5, .slice ao5 0 co5, .slice an5 1 cn5] 27) = n := ⟨_, rfl⟩
 have HS5' : Hid (IsSt y5 (.agg #[.int .i64 1, .int .i64 2, .int .i64 2, .int .i64 1, .slice am5 1 cm5, .slice aw5 0 cw5, .slice ae5 2 ce5, .slice ao5 0 co5, .slice an5 1 cn5]) (begS 5)) := by rw [Hid, <- hy5]; exact h5.keep (Tch.alloc _ _)
 have HB5' : Hid (y5.heap[b5]? = some (.cells #[.int .i64 1, .int .i64 2, .int .i64 2, .int .i64 1, .slice am5 1 cm5, .slice aw5 0 cw5, .slice ae5 2 ce5, .slice ao5 0 co5, .slice an5 1 cn5] 27 (0, 0))) := by rw [Hid, <- hy5, <- hb5]; exact blk_new _ _
 have hT5 : Tch No x5 y5 := by rw [<- hy5]; exact Tch.alloc _ _
 have tt : Tch No y4 y5 := ((Tch.alloc _ _).trans0 t5).trans0 hT5
 replace HS0 := Lib.hid (HS0.out.keep (tt))
 replace HB0 := Lib.hid (blk_tch (tt) HB0.out (fun h => h))
 replace HS1 := Lib.hid (HS1.out.keep (tt))
 replace HB1 := Lib.hid (blk_tch (tt) HB1.out (fun h => h))
 replace HS2 := Lib.hid (HS2.out.keep (tt))
 replace HB2 := Lib.hid (blk_tch (tt) HB2.out (fun h => h))
 replace HS3 := Lib.hid (HS3.out.keep (tt))
 replace HB3 := Lib.hid (blk_tch (tt) HB3.out (fun h => h))
 replace HS4 := Lib.hid (HS4.out.keep (tt))
 replace HB4 := Lib.hid (blk_tch (tt) HB4.out (fun h => h))
 replace TW : Hid (Tch No w y5) := TW.out.trans0 (tt)
 have HS5 := HS5'; have HB5 := HB5'
 clear h5 t5 hT5 HS5' HB5' tt HA4
 obtain ⟨c5_0, c5_1, c5_2, c5_3, c5_4, c5_5, c5_6, c5_7, c5_8⟩ := kc9 HB5.out
 go_wp2_with fail
 refine (HEN.out _ _ HS5.out).mono ?_
 rintro e z1 ⟨te1, ve, rfl, he1⟩
 obtain ⟨ae, ne, ce, rfl, _⟩ := he1.shape'
 clear c5_0 c5_1 c5_2 c5_3 c5_4 c5_5 c5_6 c5_7 c5_8
 clear hy5
 go_wp2_with fail
 refine (HDE.out _ _ he1).mono ?_
 rintro e x6 ⟨v6, rfl, h6', t6⟩
 have h6 := h6' _ (Tch.refl _ _)
 clear h6' he1
 obtain ⟨am6, cm6, aw6, cw6, ae6, ce6, ao6, co6, an6, cn6, rfl⟩ := beg_shape5 h6
 obtain ⟨b6, hb6⟩ : ∃ n, x6.heap.size = n := ⟨_, rfl⟩
 obtain ⟨y6, hy6⟩ : ∃ n, x6.alloc (.cells #[.int .i64 1, .int .i64 2, .int .i64 2, .int .i64 1, .slice am6 1 cm6, .slice aw6 0 cw6, .slice ae6 2 ce6, .slice ao6 0 co6, .slice an6 1 cn6] 27) = n := ⟨_, rfl⟩
 have HS6' : Hid (IsSt y6 (.agg #[.int .i64 1, .int .i64 2, .int .i64 2, .int .i64 1, .slice am6 1 cm6, .slice aw6 0 cw6, .slice ae6 2 ce6, .slice ao6 0 co6, .slice an6 1 cn6]) (begS 5)) := by rw [Hid, <- hy6]; exact h6.keep (Tch.alloc _ _)
 have HB6' : Hid (y6.heap[b6]? = some (.cells #[.int .i64 1, .int .i64 2, .int .i64 2, .int .i64 1, .slice am6 1 cm6, .slice aw6 0 cw6, .slice ae6 2 ce6, .slice ao6 0 co6, .slice an6 1 cn6] 27 (0, 0))) := by rw [Hid, <- hy6, <- hb6]; exact blk_new _ _
 have hT6 : Tch No x6 y6 := by rw [<- hy6]; exact Tch.alloc _ _
 have tt : Tch No y5 y6 := (te1.trans0 t6).trans0 hT6
 replace HS0 := Lib.hid (HS0.out.keep (tt))
 replace HB0 := Lib.hid (blk_tch (tt) HB0.out (fun h => h))
 replace HS1 := Lib.hid (HS1.out.keep (tt))
 replace HB1 := Lib.hid (blk_tch (tt) HB1.out (fun h => h))
 replace HS2 := Lib.hid (HS2.out.keep (tt))
 replace HB2 := Lib.hid (blk_tch (tt) HB2.out (fun h => h))
 replace HS3 := Lib.hid (HS3.out.keep (tt))
 replace HB3 := Lib.hid (blk_tch (tt) HB3.out (fun h => h))
 replace HS4 := Lib.hid (HS4.out.keep (tt))
 replace HB4 := Lib.hid (blk_tch (tt) HB4.out (fun h => h))
 replace HS5 := Lib.hid (HS5.out.keep (tt))
 replace HB5 := Lib.hid (blk_tch (tt) HB5.out (fun h => h))
 replace TW : Hid (Tch No w y6) := TW.out.trans0 (tt)
 have HS6 := HS6'; have HB6 := HB6'
 clear h6 t6 hT6 HS6' HB6' tt te1 HEN HDE
 obtain ⟨c2_0, c2_1, c2_2, c2_3, c2_4, c2_5, c2_6, c2_7, c2_8⟩ := kc9 HB2.out
 go_wp2_with fail
 refine (HNX.out _ _ HS2.out).mono ?_
 rintro e x7 ⟨rfl, t7⟩
 clear c2_0 c2_1 c2_2 c2_3 c2_4 c2_5 c2_6 c2_7 c2_8
 clear hy6
 simp only [Option.getD_some, Option.isSome_some, msgV, strV]
 go_wp2_with fail
 obtain ⟨b7, hb7⟩ : ∃ n, x7.heap.size = n := ⟨_, rfl⟩
 obtain ⟨y7, hy7⟩ : ∃ n, x7.alloc (.cells #[.int .i64 4294967297, .string ⟨#[113]⟩, .string ⟨#[120]⟩, .int .i64 1, .int .i64 0, .int .i64 0] 50) = n := ⟨_, rfl⟩
 have HB7 : Hid (y7.heap[b7]? = some (.cells #[.int .i64 4294967297, .string ⟨#[113]⟩, .string ⟨#[120]⟩, .int .i64 1, .int .i64 0, .int .i64 0] 50 (0, 0))) := by rw [Hid, <- hy7, <- hb7]; exact blk_new _ _
 have tt : Tch No y6 y7 := t7.trans0 (by rw [<- hy7]; exact Tch.alloc _ _)
 rw [hy7]
 try rw [hb7]
 clear hy7 hb7
 replace HS0 := Lib.hid (HS0.out.keep (tt))
 replace HB0 := Lib.hid (blk_tch (tt) HB0.out (fun h => h))
 replace HS1 := Lib.hid (HS1.out.keep (tt))
 replace HB1 := Lib.hid (blk_tch (tt) HB1.out (fun h => h))
 replace HS2 := Lib.hid (HS2.out.keep (tt))
 replace HB2 := Lib.hid (blk_tch (tt) HB2.out (fun h => h))
 replace HS3 := Lib.hid (HS3.out.keep (tt))
 replace HB3 := Lib.hid (blk_tch (tt) HB3.out (fun h => h))
 replace HS4 := Lib.hid (HS4.out.keep (tt))
 replace HB4 := Lib.hid (blk_tch (tt) HB4.out (fun h => h))
 replace HS5 := Lib.hid (HS5.out.keep (tt))
 replace HB5 := Lib.hid (blk_tch (tt) HB5.out (fun h => h))
 replace HS6 := Lib.hid (HS6.out.keep (tt))
 replace HB6 := Lib.hid (blk_tch (tt) HB6.out (fun h => h))
 replace TW : Hid (Tch No w y7) := TW.out.trans0 (tt)
 clear tt t7 HNX
 refine (begun8'_any _).mono ?_
 rintro e z1 ⟨rfl, tt⟩
 replace HS0 := Lib.hid (HS0.out.keep (tt))
 replace HB0 := Lib.hid (blk_tch (tt) HB0.out (fun h => h))
 replace HS1 := Lib.hid (HS1.out.keep (tt))
 replace HB1 := Lib.hid (blk_tch (tt) HB1.out (fun h => h))
 replace HS2 := Lib.hid (HS2.out.keep (tt))
 replace HB2 := Lib.hid (blk_tch (tt) HB2.out (fun h => h))
 replace HS3 := Lib.hid (HS3.out.keep (tt))
 replace HB3 := Lib.hid (blk_tch (tt) HB3.out (fun h => h))
 replace HS4 := Lib.hid (HS4.out.keep (tt))
 replace HB4 := Lib.hid (blk_tch (tt) HB4.out (fun h => h))
 replace HS5 := Lib.hid (HS5.out.keep (tt))
 replace HB5 := Lib.hid (blk_tch (tt) HB5.out (fun h => h))
 replace HS6 := Lib.hid (HS6.out.keep (tt))
 replace HB6 := Lib.hid (blk_tch (tt) HB6.out (fun h => h))
 replace TW : Hid (Tch No w z1) := TW.out.trans0 (tt)
 replace HB7 := Lib.hid (blk_tch (tt) HB7.out (fun h => h))
 clear tt
 obtain ⟨c0_0, c0_1, c0_2, c0_3, c0_4, c0_5, c0_6, c0_7, c0_8⟩ := kc9 HB0.out
 go_wp2_with fail
 refine (HM0.out _ _ HS0.out).mono ?_
 rintro e z2 ⟨rfl, tt⟩
 clear c0_0 c0_1 c0_2 c0_3 c0_4 c0_5 c0_6 c0_7 c0_8
 replace HS0 := Lib.hid (HS0.out.keep (tt))
 replace HB0 := Lib.hid (blk_tch (tt) HB0.out (fun h => h))
 replace HS1 := Lib.hid (HS1.out.keep (tt))
 replace HB1 := Lib.hid (blk_tch (tt) HB1.out (fun h => h))
 replace HS2 := Lib.hid (HS2.out.keep (tt))
 replace HB2 := Lib.hid (blk_tch (tt) HB2.out (fun h => h))
 replace HS3 := Lib.hid (HS3.out.keep (tt))
 replace HB3 := Lib.hid (blk_tch (tt) HB3.out (fun h => h))
 replace HS4 := Lib.hid (HS4.out.keep (tt))
 replace HB4 := Lib.hid (blk_tch (tt) HB4.out (fun h => h))
 replace HS5 := Lib.hid (HS5.out.keep (tt))
 replace HB5 := Lib.hid (blk_tch (tt) HB5.out (fun h => h))
 replace HS6 := Lib.hid (HS6.out.keep (tt))
 replace HB6 := Lib.hid (blk_tch (tt) HB6.out (fun h => h))
 replace TW : Hid (Tch No w z2) := TW.out.trans0 (tt)
 replace HB7 := Lib.hid (blk_tch (tt) HB7.out (fun h => h))
 clear tt
 go_wp2_with fail
 refine (HMZ.out _).mono ?_
 rintro e z3 ⟨rfl, tt⟩
 replace HS0 := Lib.hid (HS0.out.keep (tt))
 replace HB0 := Lib.hid (blk_tch (tt) HB0.out (fun h => h))
 replace HS1 := Lib.hid (HS1.out.keep (tt))
 replace HB1 := Lib.hid (blk_tch (tt) HB1.out (fun h => h))
 replace HS2 := Lib.hid (HS2.out.keep (tt))
 replace HB2 := Lib.hid (blk_tch (tt) HB2.out (fun h => h))
 replace HS3 := Lib.hid (HS3.out.keep (tt))
 replace HB3 := Lib.hid (blk_tch (tt) HB3.out (fun h => h))
 replace HS4 := Lib.hid (HS4.out.keep (tt))
 replace HB4 := Lib.hid (blk_tch (tt) HB4.out (fun h => h))
 replace HS5 := Lib.hid (HS5.out.keep (tt))
 replace HB5 := Lib.hid (blk_tch (tt) HB5.out (fun h => h))
 replace HS6 := Lib.hid (HS6.out.keep (tt))
 replace HB6 := Lib.hid (blk_tch (tt) HB6.out (fun h => h))
 replace TW : Hid (Tch No w z3) := TW.out.trans0 (tt)
 replace HB7 := Lib.hid (blk_tch (tt) HB7.out (fun h => h))
 clear tt
 obtain ⟨mb2, mo2, rfl, hm2⟩ := ms_first HS2.out.msgs
 have m2_0 : z3.cell? ⟨mb2, mo2, none⟩ = some (.int .i64 4294967297) := hm2 0 _ (by decide) rfl
 clear hm2
 obtain ⟨mb4, mo4, rfl, hm4⟩ := ms_first HS4.out.msgs
 have m4_5 : z3.cell? ⟨mb4, mo4 + 5, none⟩ = some (.int .i64 4294967297) := hm4 5 _ (by decide) rfl
 clear hm4
 obtain ⟨mb5, mo5, rfl, hm5⟩ := ms_first HS5.out.msgs
 have m5_4 : z3.cell? ⟨mb5, mo5 + 4, none⟩ = some (.int .i64 1) := hm5 4 _ (by decide) rfl
 have m5_5 : z3.cell? ⟨mb5, mo5 + 5, none⟩ = some (.int .i64 0) := hm5 5 _ (by decide) rfl
 clear hm5
 have c1_4 : z3.cell? ⟨b1, 4, none⟩ = some (.slice am1 0 cm1) := (blk_cell HB1.out 4).trans rfl
 have c1_5 : z3.cell? ⟨b1, 5, none⟩ = some (.slice aw1 1 cw1) := (blk_cell HB1.out 5).trans rfl
 have c2_4 : z3.cell? ⟨b2, 4, none⟩ = some (.slice (some ⟨mb2, mo2, none⟩) 1 cm2) := (blk_cell HB2.out 4).trans rfl
 have c4_4 : z3.cell? ⟨b4, 4, none⟩ = some (.slice (some ⟨mb4, mo4, none⟩) 1 cm4) := (blk_cell HB4.out 4).trans rfl
 have c5_4 : z3.cell? ⟨b5, 4, none⟩ = some (.slice (some ⟨mb5, mo5, none⟩) 1 cm5) := (blk_cell HB5.out 4).trans rfl
 have c5_6 : z3.cell? ⟨b5, 6, none⟩ = some (.slice ae5 2 ce5) := (blk_cell HB5.out 6).trans rfl
 have c5_8 : z3.cell? ⟨b5, 8, none⟩ = some (.slice an5 1 cn5) := (blk_cell HB5.out 8).trans rfl
 have c5_0 : z3.cell? ⟨b5, 0, none⟩ = some (.int .i64 1) := (blk_cell HB5.out 0).trans rfl
 have c5_1 : z3.cell? ⟨b5, 1, none⟩ = some (.int .i64 2) := (blk_cell HB5.out 1).trans rfl
 have c5_2 : z3.cell? ⟨b5, 2, none⟩ = some (.int .i64 2) := (blk_cell HB5.out 2).trans rfl
 have c5_3 : z3.cell? ⟨b5, 3, none⟩ = some (.int .i64 1) := (blk_cell HB5.out 3).trans rfl
 have c5_5 : z3.cell? ⟨b5, 5, none⟩ = some (.slice aw5 0 cw5) := (blk_cell HB5.out 5).trans rfl
 have c5_7 : z3.cell? ⟨b5, 7, none⟩ = some (.slice ao5 0 co5) := (blk_cell HB5.out 7).trans rfl
 go_wp2_with fail
 refine (HCN.out _ _ _ HS5.out ⟨_, _, rfl, CellsAt.nil _ _, CellsAt.nil _ _⟩).mono ?_
 rintro e z4 ⟨rfl, tt⟩
 clear c1_4 c1_5
 clear c2_4
 clear c4_4
 clear c5_0 c5_1 c5_2 c5_3 c5_4 c5_5 c5_6 c5_7 c5_8
 clear m2_0
 clear m4_5
 clear m5_4
 clear m5_5
 replace HS0 := Lib.hid (HS0.out.keep (tt))
 replace HB0 := Lib.hid (blk_tch (tt) HB0.out (fun h => h))
 replace HS1 := Lib.hid (HS1.out.keep (tt))
 replace HB1 := Lib.hid (blk_tch (tt) HB1.out (fun h => h))
 replace HS2 := Lib.hid (HS2.out.keep (tt))
 replace HB2 := Lib.hid (blk_tch (tt) HB2.out (fun h => h))
 replace HS3 := Lib.hid (HS3.out.keep (tt))
 replace HB3 := Lib.hid (blk_tch (tt) HB3.out (fun h => h))
 replace HS4 := Lib.hid (HS4.out.keep (tt))
 replace HB4 := Lib.hid (blk_tch (tt) HB4.out (fun h => h))
 replace HS5 := Lib.hid (HS5.out.keep (tt))
 replace HB5 := Lib.hid (blk_tch (tt) HB5.out (fun h => h))
 replace HS6 := Lib.hid (HS6.out.keep (tt))
 replace HB6 := Lib.hid (blk_tch (tt) HB6.out (fun h => h))
 replace TW : Hid (Tch No w z4) := TW.out.trans0 (tt)
 replace HB7 := Lib.hid (blk_tch (tt) HB7.out (fun h => h))
 clear tt
 obtain ⟨c6_0, c6_1, c6_2, c6_3, c6_4, c6_5, c6_6, c6_7, c6_8⟩ := kc9 HB6.out
 obtain ⟨c5_0, c5_1, c5_2, c5_3, c5_4, c5_5, c5_6, c5_7, c5_8⟩ := kc9 HB5.out
 go_wp2_with fail
 refine (HE5.out _ _ _ HS6.out HS5.out).mono ?_
 rintro e z5 ⟨rfl, tt⟩
 clear c6_0 c6_1 c6_2 c6_3 c6_4 c6_5 c6_6 c6_7 c6_8
 clear c5_0 c5_1 c5_2 c5_3 c5_4 c5_5 c5_6 c5_7 c5_8
 replace HS0 := Lib.hid (HS0.out.keep (tt))
 replace HB0 := Lib.hid (blk_tch (tt) HB0.out (fun h => h))
 replace HS1 := Lib.hid (HS1.out.keep (tt))
 replace HB1 := Lib.hid (blk_tch (tt) HB1.out (fun h => h))
 replace HS2 := Lib.hid (HS2.out.keep (tt))
 replace HB2 := Lib.hid (blk_tch (tt) HB2.out (fun h => h))
 replace HS3 := Lib.hid (HS3.out.keep (tt))
 replace HB3 := Lib.hid (blk_tch (tt) HB3.out (fun h => h))
 replace HS4 := Lib.hid (HS4.out.keep (tt))
 replace HB4 := Lib.hid (blk_tch (tt) HB4.out (fun h => h))
 replace HS5 := Lib.hid (HS5.out.keep (tt))
 replace HB5 := Lib.hid (blk_tch (tt) HB5.out (fun h => h))
 replace HS6 := Lib.hid (HS6.out.keep (tt))
 replace HB6 := Lib.hid (blk_tch (tt) HB6.out (fun h => h))
 replace TW : Hid (Tch No w z5) := TW.out.trans0 (tt)
 replace HB7 := Lib.hid (blk_tch (tt) HB7.out (fun h => h))
 clear tt
 obtain ⟨c5_0, c5_1, c5_2, c5_3, c5_4, c5_5, c5_6, c5_7, c5_8⟩ := kc9 HB5.out
 obtain ⟨c4_0, c4_1, c4_2, c4_3, c4_4, c4_5, c4_6, c4_7, c4_8⟩ := kc9 HB4.out
 go_wp2_with fail
 refine (HE4.out _ _ _ HS5.out HS4.out).mono ?_
 rintro e z6 ⟨rfl, tt⟩
 clear c5_0 c5_1 c5_2 c5_3 c5_4 c5_5 c5_6 c5_7 c5_8
 clear c4_0 c4_1 c4_2 c4_3 c4_4 c4_5 c4_6 c4_7 c4_8
 replace HS0 := Lib.hid (HS0.out.keep (tt))
 replace HB0 := Lib.hid (blk_tch (tt) HB0.out (fun h => h))
 replace HS1 := Lib.hid (HS1.out.keep (tt))
 replace HB1 := Lib.hid (blk_tch (tt) HB1.out (fun h => h))
 replace HS2 := Lib.hid (HS2.out.keep (tt))
 replace HB2 := Lib.hid (blk_tch (tt) HB2.out (fun h => h))
 replace HS3 := Lib.hid (HS3.out.keep (tt))
 replace HB3 := Lib.hid (blk_tch (tt) HB3.out (fun h => h))
 replace HS4 := Lib.hid (HS4.out.keep (tt))
 replace HB4 := Lib.hid (blk_tch (tt) HB4.out (fun h => h))
 replace HS5 := Lib.hid (HS5.out.keep (tt))
 replace HB5 := Lib.hid (blk_tch (tt) HB5.out (fun h => h))
 replace HS6 := Lib.hid (HS6.out.keep (tt))
 replace HB6 := Lib.hid (blk_tch (tt) HB6.out (fun h => h))
 replace TW : Hid (Tch No w z6) := TW.out.trans0 (tt)
 replace HB7 := Lib.hid (blk_tch (tt) HB7.out (fun h => h))
 clear tt
 obtain ⟨c2_0, c2_1, c2_2, c2_3, c2_4, c2_5, c2_6, c2_7, c2_8⟩ := kc9 HB2.out
 have mx : z6.cell? ⟨b7, 2, none⟩ = some (.string ⟨#[120]⟩) := (blk_cell HB7.out 2).trans rfl
 go_wp2_with fail
 refine (HRM.out _ _ HS2.out).mono ?_
 rintro e z7 ⟨rfl, tt⟩
 clear c2_0 c2_1 c2_2 c2_3 c2_4 c2_5 c2_6 c2_7 c2_8
 clear mx
 replace HS0 := Lib.hid (HS0.out.keep (tt))
 replace HB0 := Lib.hid (blk_tch (tt) HB0.out (fun h => h))
 replace HS1 := Lib.hid (HS1.out.keep (tt))
 replace HB1 := Lib.hid (blk_tch (tt) HB1.out (fun h => h))
 replace HS2 := Lib.hid (HS2.out.keep (tt))
 replace HB2 := Lib.hid (blk_tch (tt) HB2.out (fun h => h))
 replace HS3 := Lib.hid (HS3.out.keep (tt))
 replace HB3 := Lib.hid (blk_tch (tt) HB3.out (fun h => h))
 replace HS4 := Lib.hid (HS4.out.keep (tt))
 replace HB4 := Lib.hid (blk_tch (tt) HB4.out (fun h => h))
 replace HS5 := Lib.hid (HS5.out.keep (tt))
 replace HB5 := Lib.hid (blk_tch (tt) HB5.out (fun h => h))
 replace HS6 := Lib.hid (HS6.out.keep (tt))
 replace HB6 := Lib.hid (blk_tch (tt) HB6.out (fun h => h))
 replace TW : Hid (Tch No w z7) := TW.out.trans0 (tt)
 replace HB7 := Lib.hid (blk_tch (tt) HB7.out (fun h => h))
 clear tt
 obtain ⟨c2_0, c2_1, c2_2, c2_3, c2_4, c2_5, c2_6, c2_7, c2_8⟩ := kc9 HB2.out
 go_wp2_with fail
 refine (HQU.out _ _ HS2.out).mono ?_
 rintro e z8 ⟨vq, rfl, oq, tt⟩
 obtain ⟨aq, cq, rfl, _, _⟩ := own_shape oq.1
 go_wp2_with fail
 go_ret
 exact ⟨rfl, TW.out.trans0 tt⟩
end
end Go.Proofs.YtfedhcnmdmhppaaGreat
