/- Part 41 of what the proof of OrderCounts rests on. No condition. -/
import Derived.Test.YtelaljoebdpicaaGreatPOrderCounts18
import Derived.Test.YtelaljoebdpicaaGreatPOrderCounts20
import Derived.Test.YtelaljoebdpicaaGreatPOrderCounts21
import Derived.Test.YtelaljoebdpicaaGreatPOrderCounts26
import Derived.Test.YtelaljoebdpicaaGreatPOrderCounts40
namespace Go.Proofs.YtelaljoebdpicaaGreat
set_option maxRecDepth 100000
set_option maxHeartbeats 60000000
set_option linter.unusedVariables false
set_option linter.unusedSimpArgs false
set_option linter.unusedSectionVars false
section
open Go.RowKit Go.Maps
def freeN (l : List MsgM) (q : Txt) : Nat := l.countP (fun m => decide (m.q = q) && freeB m)
def heldN (l : List MsgM) (q : Txt) : Nat := l.countP (fun m => decide (m.q = q) && !decide (m.who = 0))
def deadN (l : List MsgM) (q : Txt) : Nat := l.countP (fun m => decide (m.q = q) && deadB m)
theorem countP_snoc {α : Type} (p : α -> Bool) (l : List α) (x : α) : (l ++ [x]).countP p = l.countP p + (if p x then 1 else 0) := by
 rw [List.countP_append]; simp [List.countP_cons]
theorem ocounts_any (s : StM) (hn : s.ms.length <= 100000) (q : Txt) (v : Value) (w : World) (h : IsSt w v s) :
  Calls Tryz.prog 31 #[v, strV q] w fun e w' => e = .returned (.tuple #[.int .i64 (freeN s.ms q), .int .i64 (heldN s.ms q), .int .i64 (deadN s.ms q)]) /\ Tch No w w' := by
 obtain ⟨vm, vw, ve, vo, vn, rfl, hm, hw, he, ho, hno⟩ := h
 obtain ⟨ma, mc, rfl, _, _⟩ := CellsAt.shape hm
 obtain ⟨wa, wk, rfl, _, _⟩ := hw.shape
 obtain ⟨ea, ec, rfl, _, _⟩ := CellsAt.shape he
 obtain ⟨oa, oc, rfl, _, _⟩ := ho.shape
 obtain ⟨na, nc, rfl, _, _⟩ := hno.shape
 have HM := Lib.hid hm
 obtain ⟨brk, nid, nseq, tx, ms, waits, ends, opens, noes⟩ := s
 simp only at hn HM ⊢
 clear hm hw he ho hno
 obtain ⟨nm, hnm⟩ : ∃ n, ms.length = n := ⟨_, rfl⟩
 have HNM := Lib.hid hnm
 rw [hnm] at hn HM ⊢
 clear hnm
 obtain ⟨qq, hqq⟩ : ∃ x : ByteArray, (⟨q.toArray⟩ : ByteArray) = x := ⟨_, rfl⟩
 have HQQ : Hid (strV q = .string qq) := by rw [Hid, strV, hqq]
 have HSE : Hid (∀ t : Txt, ((⟨t.toArray⟩ : ByteArray).toList == qq.toList) = decide (t = q)) := fun t => by rw [<- hqq]; exact str_eq t q
 rw [HQQ.out]
 clear hqq
 obtain ⟨bs, hbs⟩ : ∃ x, w.heap.size = x := ⟨_, rfl⟩
 obtain ⟨w1, hw1⟩ : ∃ x, w.alloc (.cells #[.int .i64 brk, .int .i64 nid, .int .i64 nseq, .int .i64 tx, .slice ma nm mc, .slice wa waits.length wk, .slice ea ends.length ec, .slice oa opens.length oc, .slice na noes.length nc] 27) = x := ⟨_, rfl⟩
 have HB1 : Hid (w1.heap[bs]? = some (.cells #[.int .i64 brk, .int .i64 nid, .int .i64 nseq, .int .i64 tx, .slice ma nm mc, .slice wa waits.length wk, .slice ea ends.length ec, .slice oa opens.length oc, .slice na noes.length nc] 27 (0, 0))) := by rw [Hid, <- hw1, <- hbs]; exact blk_new w _
 have TW1 : Hid (Tch No w w1) := by rw [Hid, <- hw1]; exact Tch.alloc _ _
 have b4 : w1.cell? ⟨bs, 4, none⟩ = some (.slice ma nm mc) := (blk_cell HB1.out 4).trans rfl
 go_enter Tryz.func31, Tryz.ntmps31
 go_wp2_with fail
 clear hbs hw1 b4
 go_loopg [7, 8, 9, 15] nm (fun kx s7 s8 s9 s15 wr => ∃ k : Nat, s15 = .int .i64 k /\ k <= nm /\ nm - k <= kx /\ (∃ f hd d : Nat, s7 = .int .i64 f /\ s8 = .int .i64 hd /\ s9 = .int .i64 d /\ f <= k /\ hd <= k /\ d <= k /\ Hid (f = freeN (ms.take k) q /\ hd = heldN (ms.take k) q /\ d = deadN (ms.take k) q)) /\ Hid (Tch No w1 wr))
 case atStart => exact ⟨0, rfl, Nat.zero_le _, by omega, ⟨0, 0, 0, rfl, rfl, rfl, by omega, by omega, by omega, ⟨rfl, rfl, rfl⟩⟩, Tch.refl _ _⟩
 case round =>
  obtain ⟨k, rfl, hk, hgk, ⟨f, hd, d, rfl, rfl, rfl, hf1, hf2, hf3, HFD⟩, TT⟩ := hrel
  have TWr : Hid (Tch No w wr) := TW1.out.trans0 TT.out
  by_cases hlt : k < nm
  ·have hkl : k < ms.length := by rw [HNM.out]; exact hlt
   have hb : ∃ b o, ma = some ⟨b, o, none⟩ /\ wr.cell? ⟨b, o + k * 6, none⟩ = some (.int .i64 ms[k].id) /\ wr.cell? ⟨b, o + k * 6 + 1, none⟩ = some (strV ms[k].q) /\ wr.cell? ⟨b, o + k * 6 + 2, none⟩ = some (strV ms[k].b) /\ wr.cell? ⟨b, o + k * 6 + 3, none⟩ = some (.int .i64 ms[k].seq) /\ wr.cell? ⟨b, o + k * 6 + 4, none⟩ = some (.int .i64 ms[k].cnt) /\ wr.cell? ⟨b, o + k * 6 + 5, none⟩ = some (.int .i64 ms[k].who) := by
    have hm := HM.out
    rw [<- HNM.out] at hm
    obtain ⟨b, o, cap2, h1, h2⟩ := CellsAt.elem (enc := encMsg) (m := 6) (fun _ => rfl) hm hkl
    injection h1 with h1 _ _
    exact ⟨b, o, h1, TWr.out.cell (h2 0 _ (by decide) rfl) (fun h => h), TWr.out.cell (h2 1 _ (by decide) rfl) (fun h => h), TWr.out.cell (h2 2 _ (by decide) rfl) (fun h => h), TWr.out.cell (h2 3 _ (by decide) rfl) (fun h => h), TWr.out.cell (h2 4 _ (by decide) rfl) (fun h => h), TWr.out.cell (h2 5 _ (by decide) rfl) (fun h => h)⟩
   obtain ⟨b, o, rfl, e0, e1, e2, e3, e4, e5⟩ := hb
   have HSN : Hid (ms.take (k + 1) = ms.take k ++ [ms[k]]) := take_snoc hkl
   obtain ⟨m, hmk⟩ : ∃ m, ms[k] = m := ⟨_, rfl⟩
   rw [hmk] at HSN e0 e1 e2 e3 e4 e5
   clear hmk
   obtain ⟨x0, x1, x2, x3, x4, x5⟩ := m
   simp only [strV] at e1 e2
   simp only at HSN e0 e3 e4 e5
   have hse := HSE.out x1
   obtain ⟨q1, hq1⟩ : ∃ q : ByteArray, (⟨x1.toArray⟩ : ByteArray) = q := ⟨_, rfl⟩
   obtain ⟨q2, hq2⟩ : ∃ q : ByteArray, (⟨x2.toArray⟩ : ByteArray) = q := ⟨_, rfl⟩
   rw [hq1] at e1 hse
   rw [hq2] at e2
   clear hq1 hq2
   have HFR : Hid (freeN (ms.take (k + 1)) q = freeN (ms.take k) q + (if (decide (x1 = q) && (decide (x5 = 0) && decide (x4 < 3))) = true then 1 else 0) /\ heldN (ms.take (k + 1)) q = heldN (ms.take k) q + (if (decide (x1 = q) && !decide (x5 = 0)) = true then 1 else 0) /\ deadN (ms.take (k + 1)) q = deadN (ms.take k) q + (if (decide (x1 = q) && (decide (x5 = 0) && decide (3 <= x4))) = true then 1 else 0)) := by
    rw [Hid, HSN.out]
    unfold freeN heldN deadN freeB deadB
    rw [countP_snoc, countP_snoc, countP_snoc]
    exact ⟨rfl, rfl, rfl⟩
   by_cases c1 : x1 = q
   ·have hb : (q1.toList == qq.toList) = true := by rw [hse]; exact decide_eq_true c1
    have HC1 := Lib.hid c1
    clear hse c1
    by_cases c2 : x5 = 0
    ·subst c2
     have HDD := Lib.hid (fun W => odead_any x0 q1 q2 x3 x4 0 W)
     by_cases c3 : 3 <= x4
     ·have hdb : (decide ((0 : Int) = 0) && decide (3 <= x4)) = true := by simp [c3]
      rw [hdb] at HDD
      have HC3 := Lib.hid c3
      clear hdb c3
      go_wp2_with fail
      refine (HDD.out _).mono ?_
      rintro e w3 ⟨rfl, T3⟩
      go_wp2_with fail
      go_roundg (nm - (k + 1))
      case measure => omega
      case rel => exact ⟨k + 1, by go_num, by omega, by omega, ⟨f, hd, d + 1, rfl, rfl, by go_num, by omega, by omega, by omega, by obtain ⟨g1, g2, g3⟩ := HFD.out; obtain ⟨g4, g5, g6⟩ := HFR.out; have g7 := HC1.out; have g8 := HC3.out; refine ⟨?_, ?_, ?_⟩ <;> simp_all <;> omega⟩, (TT.out.trans0 (Tch.alloc _ _)).trans0 T3⟩
     ·have hdb : (decide ((0 : Int) = 0) && decide (3 <= x4)) = false := by simp [c3]
      rw [hdb] at HDD
      have HC3 := Lib.hid c3
      clear hdb c3
      go_wp2_with fail
      refine (HDD.out _).mono ?_
      rintro e w3 ⟨rfl, T3⟩
      go_wp2_with fail
      go_roundg (nm - (k + 1))
      case measure => omega
      case rel => exact ⟨k + 1, by go_num, by omega, by omega, ⟨f + 1, hd, d, by go_num, rfl, rfl, by omega, by omega, by omega, by obtain ⟨g1, g2, g3⟩ := HFD.out; obtain ⟨g4, g5, g6⟩ := HFR.out; have g7 := HC1.out; have g8 := HC3.out; refine ⟨?_, ?_, ?_⟩ <;> simp_all <;> omega⟩, (TT.out.trans0 (Tch.alloc _ _)).trans0 T3⟩
    ·have hz : (x5 == 0) = false := beq_eq_false_iff_ne.2 c2
     have HC2 := Lib.hid c2
     clear c2
     go_wp2_with fail
     go_roundg (nm - (k + 1))
     case measure => omega
     case rel => exact ⟨k + 1, by go_num, by omega, by omega, ⟨f, hd + 1, d, rfl, by go_num, rfl, by omega, by omega, by omega, by obtain ⟨g1, g2, g3⟩ := HFD.out; obtain ⟨g4, g5, g6⟩ := HFR.out; have g7 := HC1.out; have g8 := HC2.out; refine ⟨?_, ?_, ?_⟩ <;> simp_all⟩, TT.out.trans0 (Tch.alloc _ _)⟩
   ·have hb : (q1.toList == qq.toList) = false := by rw [hse]; exact decide_eq_false c1
    have HC1 := Lib.hid c1
    clear hse c1
    go_wp2_with fail
    go_roundg (nm - (k + 1))
    case measure => omega
    case rel => exact ⟨k + 1, by go_num, by omega, by omega, ⟨f, hd, d, rfl, rfl, rfl, by omega, by omega, by omega, by obtain ⟨g1, g2, g3⟩ := HFD.out; obtain ⟨g4, g5, g6⟩ := HFR.out; have g7 := HC1.out; refine ⟨?_, ?_, ?_⟩ <;> simp_all⟩, TT.out.trans0 (Tch.alloc _ _)⟩
  ·obtain rfl : k = nm := by omega
   go_wp2_with fail
   refine bodyPost_ret (v := .tuple #[.int .i64 f, .int .i64 hd, .int .i64 d]) (by simp [results, Tryz.results31, go_sem]) rfl ?_
   have e : ms.take k = ms := by rw [<- HNM.out, List.take_length]
   obtain ⟨g1, g2, g3⟩ := HFD.out
   rw [e] at g1 g2 g3
   exact ⟨by rw [g1, g2, g3], TWr.out⟩
end
section
open Go.RowKit Go.Maps
def nextM (s : StM) (qt : Txt) : Option MsgM := (keptM (notNext qt) s.ms).head?
def msgV (m : MsgM) : Value := .agg #[.int .i64 m.id, strV m.q, strV m.b, .int .i64 m.seq, .int .i64 m.cnt, .int .i64 m.who]
def msg0 : MsgM := ⟨0, [], [], 0, 0, 0⟩
theorem rise_kept {f : MsgM -> Int} (p : MsgM -> Bool) : ∀ {l : List MsgM}, strictB (l.map f) = true -> strictB ((keptM p l).map f) = true
 | [], _ => rfl
 | a :: r, h => by
  obtain ⟨h1, h2⟩ := strictB_cons.1 h
  have ih := rise_kept p h2
  unfold keptM at ih ⊢
  cases hp : p a with
  | true => simp [List.filter_cons, hp]; simpa using ih
  | false =>
   rw [List.filter_cons]
   simp only [hp, Bool.not_false, if_true, List.map_cons]
   refine strictB_cons.2 ⟨fun b hb => h1 b ?_, ih⟩
   obtain ⟨x, hx, rfl⟩ := List.mem_map.1 hb
   exact List.mem_map_of_mem (List.mem_filter.1 hx).1
theorem onext_any (s : StM) (hs : strictB (s.ms.map (·.seq)) = true) (hn : s.ms.length <= 10000000) (qt : Txt) (v : Value) (w : World) (h : IsSt w v s) :
  Calls Tryz.prog 26 #[v, strV qt] w fun e w' => e = .returned (.tuple #[msgV ((nextM s qt).getD msg0), .bool (nextM s qt).isSome]) /\ Tch No w w' := by
 obtain ⟨vm, vw, ve, vo, vn, rfl, hm, hw, he, ho, hno⟩ := h
 obtain ⟨ma, mc, rfl, _, _⟩ := CellsAt.shape hm
 obtain ⟨wa, wk, rfl, _, _⟩ := hw.shape
 obtain ⟨ea, ec, rfl, _, _⟩ := CellsAt.shape he
 obtain ⟨oa, oc, rfl, _, _⟩ := ho.shape
 obtain ⟨na, nc, rfl, _, _⟩ := hno.shape
 obtain ⟨brk, nid, nseq, tx, ms, waits, ends, opens, noes⟩ := s
 simp only at hs hn hm ⊢
 unfold nextM
 have HM := Lib.hid hm
 have HRI := Lib.hid (rise_kept (notNext qt) hs)
 obtain ⟨qs, hqs⟩ : ∃ x : ByteArray, (⟨qt.toArray⟩ : ByteArray) = x := ⟨_, rfl⟩
 have HQS := Lib.hid hqs
 simp only [strV]
 rw [hqs]
 obtain ⟨bs, hbs⟩ : ∃ x, w.heap.size = x := ⟨_, rfl⟩
 obtain ⟨w1, hw1⟩ : ∃ x, ((w.alloc (.cells #[.int .i64 brk, .int .i64 nid, .int .i64 nseq, .int .i64 tx, .slice ma ms.length mc, .slice wa waits.length wk, .slice ea ends.length ec, .slice oa opens.length oc, .slice na noes.length nc] 27)).alloc (.cells #[.string qs] 9)).alloc (.cells #[.int .i64 0, .string ⟨#[]⟩, .string ⟨#[]⟩, .int .i64 0, .int .i64 0, .int .i64 0] 50) = x := ⟨_, rfl⟩
 obtain ⟨rb, hrb⟩ : ∃ x, x = bs + 1 + 1 := ⟨_, rfl⟩
 have HRB := Lib.hid hrb
 have e1 : (w.alloc (.cells #[.int .i64 brk, .int .i64 nid, .int .i64 nseq, .int .i64 tx, .slice ma ms.length mc, .slice wa waits.length wk, .slice ea ends.length ec, .slice oa opens.length oc, .slice na noes.length nc] 27)).heap.size = bs + 1 := by rw [<- hbs]; simp
 have e2 : ((w.alloc (.cells #[.int .i64 brk, .int .i64 nid, .int .i64 nseq, .int .i64 tx, .slice ma ms.length mc, .slice wa waits.length wk, .slice ea ends.length ec, .slice oa opens.length oc, .slice na noes.length nc] 27)).alloc (.cells #[.string qs] 9)).heap.size = rb := by rw [hrb, <- hbs]; simp
 have HB1 : Hid (w1.heap[bs]? = some (.cells #[.int .i64 brk, .int .i64 nid, .int .i64 nseq, .int .i64 tx, .slice ma ms.length mc, .slice wa waits.length wk, .slice ea ends.length ec, .slice oa opens.length oc, .slice na noes.length nc] 27 (0, 0))) := by rw [Hid, <- hw1, <- hbs]; exact blk_tch ((Tch.alloc _ _).trans0 (Tch.alloc _ _)) (blk_new w _) (fun h => h)
 have HQ1 : Hid (w1.heap[bs + 1]? = some (.cells #[.string qs] 9 (0, 0))) := by rw [Hid, <- hw1, <- e1]; exact blk_tch (Tch.alloc _ _) (blk_new _ _) (fun h => h)
 have HR1 : Hid (w1.heap[rb]? = some (.cells #[.int .i64 0, .string ⟨#[]⟩, .string ⟨#[]⟩, .int .i64 0, .int .i64 0, .int .i64 0] 50 (0, 0))) := by rw [Hid, <- hw1, <- e2]; exact blk_new _ _
 have TW1 : Hid (Tch No w w1) := by rw [Hid, <- hw1]; exact ((Tch.alloc _ _).trans0 (Tch.alloc _ _)).trans0 (Tch.alloc _ _)
 have HLT : Hid (w.heap.size <= rb) := by rw [Hid, hrb, hbs]; omega
 have b4 : w1.cell? ⟨bs, 4, none⟩ = some (.slice ma ms.length mc) := (blk_cell HB1.out 4).trans rfl
 have HCL := Lib.hid (clone_msg (.slice ma ms.length mc) ms w1 (hm.keep TW1.out) (ones_flat ones_msg ms) (by omega))
 have HDEL : Hid (∀ v W, Tch No w1 W -> OwnN w1 50 6 ms.length (ms.flatMap encMsg) v W -> Calls Tryz.prog 85 #[v, .func (.func 87) #[] #[.pointer (some ⟨bs + 1, 0, none⟩)]] W fun e w' => ∃ v', e = .returned v' /\ OwnN w1 50 6 (keptM (notNext qt) ms).length ((keptM (notNext qt) ms).flatMap encMsg) v' w' /\ Tch No w1 w') := fun v W tW hW =>
  del_msg w1 _ #[.pointer (some ⟨bs + 1, 0, none⟩)] (enters_of Tryz.func87 rfl rfl) (notNext qt) ms (fun x hx W' t' => next1_any x qt (bs + 1) W' (by rw [strV, HQS.out]; exact (blk_cell (blk_tch t' HQ1.out (fun h => h)) 0).trans rfl)) v W tW hW (by omega)
 obtain ⟨lk, hlk⟩ : ∃ l, keptM (notNext qt) ms = l := ⟨_, rfl⟩
 have hkl : lk.length <= 10000000 := by rw [<- hlk]; exact Nat.le_trans (keptM_le _ _) hn
 rw [hlk] at HDEL HRI
 rw [hlk]
 clear hm hw he ho hno hs hrb e1 e2 hqs hlk
 go_enter Tryz.func26, Tryz.ntmps26
 go_wp2_with fail
 clear hbs hw1
 refine HCL.out.mono ?_
 rintro e w2 ⟨a2, c2, rfl, O2, T2, _⟩
 have OO2 := Lib.hid O2
 have TT2 := Lib.hid T2
 clear O2 T2 b4
 go_wp2_with fail
 refine (HDEL.out _ w2 TT2.out OO2.out).mono ?_
 rintro e w3 ⟨v3, rfl, O3, T3⟩
 obtain ⟨a3, n3, c3, rfl, hn3⟩ := own_shape' O3.1
 have hn3' : n3 = lk.length := hn3
 subst hn3'
 have OO3 := Lib.hid O3
 have TT3 := Lib.hid T3
 have HRX := Lib.hid (blk_tch T3 HR1.out (fun h => h))
 clear O3 T3 hn3 HDEL
 cases lk with
 | nil =>
  obtain ⟨wz, hwz, HRZ, TZ⟩ := kx6 (W := w3) (b := rb) (T := 50) (.int .i64 0) (.string ⟨#[]⟩) (.string ⟨#[]⟩) (.int .i64 0) (.int .i64 0) (.int .i64 0) HRX.out
  rw [HRB.out] at hwz
  obtain ⟨r0, r1, r2, r3, r4, r5⟩ := kc6 (W := w3) (b := bs + 1 + 1) (by rw [<- HRB.out]; exact HRX.out)
  obtain ⟨fr0, fr1, fr2, fr3, fr4, fr5⟩ := kf6 (W := w3) (b := bs + 1 + 1) (by rw [<- HRB.out]; exact HRX.out)
  go_wp2_with fail
  obtain ⟨q0, q1, q2, q3, q4, q5⟩ := kc6 (W := wz) (b := bs + 1 + 1) (by rw [<- HRB.out]; exact HRZ.out)
  refine bodyPost_ret (v := .tuple #[.agg #[.int .i64 0, .string ⟨#[]⟩, .string ⟨#[]⟩, .int .i64 0, .int .i64 0, .int .i64 0], .bool false]) (by simp [results, Tryz.results26, go_sem, q0, q1, q2, q3, q4, q5]) rfl ?_
  exact ⟨rfl, (TW1.out.trans0 TT3.out).fresh TZ.out (fun q h => by rw [h]; exact HLT.out)⟩
 | cons y r =>
  have hl1 : ¬ (((y :: r).length : Int) = 0) := by simp only [List.length_cons]; omega
  have HMF := Lib.hid (minfunc_any y r (y :: r) rfl hkl HRI.out (.slice a3 (y :: r).length c3) w3 (CellsAt.ofRow OO3.out.1))
  obtain ⟨nk, hnk⟩ : ∃ n, (y :: r).length = n := ⟨_, rfl⟩
  rw [hnk] at hl1 HMF
  rw [hnk]
  clear hnk OO3 HRI hkl
  obtain ⟨y0, t1, t2, y3, y4, y5⟩ := y
  simp only [strV] at HMF
  obtain ⟨y1, hy1⟩ : ∃ x : ByteArray, (⟨t1.toArray⟩ : ByteArray) = x := ⟨_, rfl⟩
  obtain ⟨y2, hy2⟩ : ∃ x : ByteArray, (⟨t2.toArray⟩ : ByteArray) = x := ⟨_, rfl⟩
  have HY1 := Lib.hid hy1
  have HY2 := Lib.hid hy2
  rw [hy1, hy2] at HMF
  clear hy1 hy2
  go_wp2_with fail
  refine HMF.out.mono ?_
  rintro e w4 ⟨rfl, T4⟩
  have TT4 := Lib.hid T4
  have HRX := Lib.hid (blk_tch T4 HRX.out (fun h => h))
  clear T4
  obtain ⟨wz, hwz, HRZ, TZ⟩ := kx6 (W := w4) (b := rb) (T := 50) (.int .i64 y0) (.string y1) (.string y2) (.int .i64 y3) (.int .i64 y4) (.int .i64 y5) HRX.out
  rw [HRB.out] at hwz
  obtain ⟨r0, r1, r2, r3, r4, r5⟩ := kc6 (W := w4) (b := bs + 1 + 1) (by rw [<- HRB.out]; exact HRX.out)
  obtain ⟨fr0, fr1, fr2, fr3, fr4, fr5⟩ := kf6 (W := w4) (b := bs + 1 + 1) (by rw [<- HRB.out]; exact HRX.out)
  go_wp2_with fail
  obtain ⟨q0, q1, q2, q3, q4, q5⟩ := kc6 (W := wz) (b := bs + 1 + 1) (by rw [<- HRB.out]; exact HRZ.out)
  refine bodyPost_ret (v := .tuple #[.agg #[.int .i64 y0, .string y1, .string y2, .int .i64 y3, .int .i64 y4, .int .i64 y5], .bool true]) (by simp [results, Tryz.results26, go_sem, q0, q1, q2, q3, q4, q5]) rfl ?_
  refine ⟨?_, ((TW1.out.trans0 TT3.out).trans0 TT4.out).fresh TZ.out (fun q h => by rw [h]; exact HLT.out)⟩
  rw [<- HY1.out, <- HY2.out]
  rfl
end
section
open Go.RowKit Go.Maps Go.Shelf
theorem tch_ahead (w : World) (n : Nat) : Tch No w (Go.Sort.ahead w n) := ⟨rfl, rfl, rfl, Nat.le_refl _, fun _ _ _ => rfl⟩
theorem tch_putRow {α : Type} [Inhabited α] (enc : α -> Value) (w : World) (blk off : Nat) (d : Array α) : Tch (fun k => k = blk) w (Go.Sort.putRow enc w blk off d) := by
 refine ⟨rfl, rfl, rfl, by simp [Go.Sort.putRow, Go.Sort.mapBlock], fun k hk hne => ?_⟩
 simp only [Go.Sort.putRow, Go.Sort.mapBlock, Array.getElem?_modify]
 rw [if_neg (fun e => hne e.symm)]
theorem tch_grow (w : World) (os : Array Obj) : Tch No w (Go.Sort.grow w os) := by
 refine ⟨rfl, rfl, rfl, by simp [Go.Sort.grow], fun k hk _ => ?_⟩
 simp only [Go.Sort.grow]
 exact Array.getElem?_append_left hk
theorem blk_putRow {α : Type} [Inhabited α] (enc : α -> Value) {w : World} {blk : Nat} {cur : Array Value} {e : TypeId} (h : w.heap[blk]? = some (.cells cur e (0, 0))) (d : Array α) (hd : d.size <= cur.size) :
  ∃ cur' : Array Value, (Go.Sort.putRow enc w blk 0 d).heap[blk]? = some (.cells cur' e (0, 0)) /\ cur'.size = cur.size /\ ∀ t, t < d.size -> cur'[t]? = some (enc d[t]!) := by
 refine ⟨Go.Sort.putCells enc 0 d cur, ?_, by simp [Go.Sort.putCells], fun t ht => ?_⟩
 ·simp only [Go.Sort.putRow, Go.Sort.mapBlock, Array.getElem?_modify, if_true, h, Option.map_some]
  rfl
 ·simp only [Go.Sort.putCells, Array.getElem?_mapIdx]
  rw [Array.getElem?_eq_getElem (by omega)]
  simp [ht]
theorem holds_own {l : List Txt} {w : World} {g : Nat} {cur : Array Value} {e : TypeId} (h : w.heap[g]? = some (.cells cur e (0, 0))) (hc : ∀ t, t < l.length -> cur[t]? = (l.map strV)[t]?) : Go.Sort.Holds Go.Proofs.encStr w g 0 l.toArray := fun j hj => by
 have hj' : j < l.length := by simpa using hj
 refine ⟨?_, blk_free h _⟩
 rw [Nat.zero_add, blk_cell h, hc j hj', List.getElem?_map, List.getElem?_eq_getElem hj']
 simp [strV, hj']
theorem own_put {w0 w w' : World} {g c : Nat} {cur : Array Value} {l l' : List Txt} {n : Nat} (hw0 : w0.heap.size <= g) (hg : w.heap[g]? = some (.cells cur 9 (0, 0))) (hcap : l.length <= c) (hc2 : c <= maxLen) (hcur : cur.size = c * 1) (hl : l'.length = l.length) (hn : n <= l'.length)
  (q : Nat) (os : Array Obj) (hw : w' = Go.Sort.grow (Go.Sort.putRow Go.Proofs.encStr (Go.Sort.ahead w q) g 0 l'.toArray) os) (t0 : Tch No w0 w) :
  OwnN w0 9 1 n ((l'.take n).map strV) (.slice (some ⟨g, 0, none⟩) n c) w' /\ Tch No w0 w' := by
 subst hw
 obtain ⟨cur', p1, p2, p3⟩ := blk_putRow Go.Proofs.encStr (w := Go.Sort.ahead w q) (blk := g) (cur := cur) hg l'.toArray (by rw [List.size_toArray]; omega)
 have hlt := blk_lt p1
 refine ⟨⟨own_mk (by simp; omega) (blk_tch (tch_grow _ os) p1 (fun h => h)) (by omega) hc2 (by rw [p2, hcur]) (fun t ht => ?_), fun b hb => ?_⟩, ((t0.trans0 (tch_ahead w q)).fresh (F := fun k => k = g) (tch_putRow _ _ _ _ _) (fun k h => by rw [h]; exact hw0)).trans0 (tch_grow _ os)⟩
 ·have ht' : t < l'.length := by omega
  rw [p3 t (by simpa using ht'), List.getElem?_map, List.getElem?_take, if_pos (by omega), List.getElem?_eq_getElem ht']
  simp [strV, ht']
 ·have hb' : g = b := by simpa [Value.ownBlock] using hb
  omega
def sortM (l : List Txt) : List Txt := l.mergeSort fun x y => decide (x <= y)
theorem sortM_len (l : List Txt) : (sortM l).length = l.length := List.length_mergeSort _
theorem ssort_any (l : List Txt) (hn : l.length <= 1000000) (v : Value) (w0 w : World) (t0 : Tch No w0 w) (h : OwnN w0 9 1 l.length (l.map strV) v w) :
  Calls Tryz.prog 94 #[v] w fun e w' => e = .returned (.tuple #[]) /\ OwnN w0 9 1 l.length ((sortM l).map strV) v w' /\ Tch No w0 w' := by
 obtain ⟨a, c, rfl, _, _⟩ := own_shape h.1
 cases a with
 | none =>
  have hl : l.length = 0 := by
   rcases h.1.2 with ⟨_, h0⟩ | ⟨_, _, _, h0, _⟩
   ·exact h0
   ·cases h0
  have hl2 : l = [] := List.eq_nil_of_length_eq_zero hl
  subst hl2
  refine (AnyM.slices_Sort_string_none ShS.sortM none c w).mono ?_
  rintro e w' ⟨rfl, rfl⟩
  exact ⟨rfl, by simpa [sortM] using h, t0⟩
 | some a =>
  obtain ⟨g, cur, rfl, q1, q2, q3, q4, q5, q6⟩ := own_get h.1
  refine (AnyM.slices_Sort_string ShS.sortM g 0 c l w (holds_own q1 (fun t ht => q6 t (by omega))) (blk_lt q1) (by omega)).mono ?_
  rintro e w' ⟨rfl, q, os, hw⟩
  obtain ⟨o1, o2⟩ := own_put (l' := sortM l) (n := l.length) (h.2 g rfl) q1 q2 q3 q4 (sortM_len l) (by rw [sortM_len]; exact Nat.le_refl _) q os hw t0
  rw [<- sortM_len l, List.take_length] at o1
  exact ⟨rfl, by rw [<- sortM_len l]; exact o1, o2⟩
theorem scompact_any (l : List Txt) (hn : l.length <= 1000000) (v : Value) (w0 w : World) (t0 : Tch No w0 w) (h : OwnN w0 9 1 l.length (l.map strV) v w) :
  Calls Tryz.prog 95 #[v] w fun e w' => ∃ v', e = .returned v' /\ OwnN w0 9 1 (Go.Lib.compact l).length ((Go.Lib.compact l).map strV) v' w' /\ Tch No w0 w' := by
 obtain ⟨a, c, rfl, _, _⟩ := own_shape h.1
 cases a with
 | none =>
  have hl : l.length = 0 := by
   rcases h.1.2 with ⟨_, h0⟩ | ⟨_, _, _, h0, _⟩
   ·exact h0
   ·cases h0
  have hl2 : l = [] := List.eq_nil_of_length_eq_zero hl
  subst hl2
  refine (AnyG.slices_Compact_string_empty ShS.compact none c w).mono ?_
  rintro e w' ⟨rfl, rfl⟩
  exact ⟨_, rfl, by simpa [Go.Lib.compact, Go.Lib.compactUpTo] using h, t0⟩
 | some a =>
  obtain ⟨g, cur, rfl, q1, q2, q3, q4, q5, q6⟩ := own_get h.1
  refine (AnyG.slices_Compact_string ShS.compact g 0 c l w (holds_own q1 (fun t ht => q6 t (by omega))) (by omega) q2).mono ?_
  rintro e w' ⟨rfl, q, hw⟩
  have hle : (Go.Lib.compact l).length <= l.length := by
   unfold Go.Lib.compact Go.Lib.compactUpTo
   rw [List.length_map]
   exact Nat.le_trans (List.length_filter_le _ _) (by simp)
  obtain ⟨o1, o2⟩ := own_put (w' := w') (l := l) (l' := Go.Lib.compact l ++ List.replicate (l.length - (Go.Lib.compact l).length) []) (n := (Go.Lib.compact l).length) (h.2 g rfl) q1 q2 q3 q4 (by rw [List.length_append, List.length_replicate]; omega) (by rw [List.length_append]; omega) q #[] (by rw [hw, Go.Sort.grow_empty]) t0
  rw [List.take_left'] at o1
  ·exact ⟨_, rfl, o1, o2⟩
  ·rfl
def queuesM (s : StM) (more : List PutM) : List Txt := Go.Lib.compact (sortM (namesM s more))
theorem oqueues_any (s : StM) (more : List PutM) (hn : s.ms.length <= 100000) (hnw : s.waits.length <= 100000) (hmo : (moreM more s.waits).length <= 100000) (v vp : Value) (w : World) (h : IsSt w v s) (hp : IsPuts w vp more) :
  Calls Tryz.prog 30 #[v, vp] w fun e w' => ∃ v', e = .returned v' /\ OwnN w 9 1 (queuesM s more).length ((queuesM s more).map strV) v' w' /\ Tch No w w' := by
 have HNA := Lib.hid (fun W (t : Tch No w W) => onames_any s more hn hnw hmo v vp W (h.keep t) (hp.keep t))
 have HLN : Hid ((namesM s more).length <= 1000000) := by
  unfold namesM
  rw [Hid, List.length_append, List.length_map, List.length_map]; omega
 obtain ⟨am, cm, aw, cw, ae, ce, ao, co, an, cn, hv⟩ := h.vals
 subst hv
 obtain ⟨pa, pc, rfl, _, _⟩ := CellsAt.shape hp
 unfold queuesM
 obtain ⟨l, hl⟩ : ∃ l, namesM s more = l := ⟨_, rfl⟩
 rw [hl] at HNA HLN
 rw [hl]
 have HSO := Lib.hid (fun v W (t : Tch No w W) (h : OwnN w 9 1 l.length (l.map strV) v W) => ssort_any l HLN.out v w W t h)
 have HCO := Lib.hid (fun v W (t : Tch No w W) (h : OwnN w 9 1 (sortM l).length ((sortM l).map strV) v W) => scompact_any (sortM l) (by rw [sortM_len]; exact HLN.out) v w W t h)
 have HSL := Lib.hid (sortM_len l)
 clear h hp hl hn hnw hmo
 go_enter Tryz.func30, Tryz.ntmps30
 go_wp2_with fail
 refine (HNA.out _ (Tch.alloc _ _)).mono ?_
 rintro e w2 ⟨v2, rfl, O2, T2⟩
 have TT2 : Hid (Tch No w w2) := (Tch.alloc _ _).trans0 T2
 have OO2 : Hid (OwnN w 9 1 l.length (l.map strV) v2 w2) := ⟨O2.1, fun b hb => Nat.le_trans (Tch.alloc _ _).size (O2.2 b hb)⟩
 clear O2 T2
 go_wp2_with fail
 refine (HSO.out v2 w2 TT2.out OO2.out).mono ?_
 rintro e w3 ⟨rfl, O3, T3⟩
 have TT3 := Lib.hid T3
 rw [<- HSL.out] at O3
 have OO3 := Lib.hid O3
 clear O3 T3
 go_wp2_with fail
 refine (HCO.out v2 w3 TT3.out OO3.out).mono ?_
 rintro e w4 ⟨v4, rfl, O4, T4⟩
 have TT4 := Lib.hid T4
 have OO4 := Lib.hid O4
 clear O4 T4
 go_wp2_with fail
 go_ret
 exact ⟨v4, rfl, OO4.out, TT4.out⟩
end
end Go.Proofs.YtelaljoebdpicaaGreat
