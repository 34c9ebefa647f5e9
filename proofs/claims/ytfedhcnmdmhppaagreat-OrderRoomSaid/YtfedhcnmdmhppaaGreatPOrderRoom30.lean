/- Part 30 of what the proof of OrderRoom rests on. No condition. -/
import Derived.Test.YtfedhcnmdmhppaaGreatPOrderRoom13
import Derived.Test.YtfedhcnmdmhppaaGreatPOrderRoom17
namespace Go.Proofs.YtfedhcnmdmhppaaGreat
set_option maxRecDepth 100000
set_option maxHeartbeats 60000000
set_option linter.unusedVariables false
set_option linter.unusedSimpArgs false
section
open Go.RowKit Go.Maps
def stEmpty (br nid nseq : Int) : Value := .agg #[.int .i64 br, .int .i64 nid, .int .i64 nseq, .int .i64 0, .slice none 0 0, .slice none 0 0, .slice none 0 0, .slice none 0 0, .slice none 0 0]
theorem isst_empty (w : World) (br nid nseq : Int) : IsSt w (stEmpty br nid nseq) ⟨br, nid, nseq, 0, [], [], [], [], []⟩ :=
 ⟨_, _, _, _, _, rfl, CellsAt.nil _ _, ⟨[], rfl, CellsAt.nil _ _, fun i h => absurd h (Nat.not_lt_zero _)⟩, CellsAt.nil _ _, ⟨[], rfl, CellsAt.nil _ _, fun i h => absurd h (Nat.not_lt_zero _)⟩, ⟨[], rfl, CellsAt.nil _ _, fun i h => absurd h (Nat.not_lt_zero _)⟩⟩
theorem snew_any (b : Int) (w : World) :
  Calls Tryz.prog 22 #[.int .i64 b] w fun e w' => ∃ v, e = .returned v /\ IsSt w' v (newM b) /\ Tch No w w' := by
 have HB := Lib.hid (fun W => kbroker_any b W)
 have HN : Hid (newM b = if brokerB b = true then ⟨b, 1, 1, 0, [], [], [], [], []⟩ else ⟨0, 0, 0, 0, [], [], [], [], []⟩) := by
  rw [Hid]; unfold newM brokerB; simp
 obtain ⟨x, hx⟩ : ∃ x, brokerB b = x := ⟨_, rfl⟩
 rw [hx] at HB HN
 clear hx
 cases x with
 | true =>
  go_enter Tryz.func22, Tryz.ntmps22
  go_wp2_with (go_at_call 46; refine (HB.out _).mono ?_; rintro e w' ⟨rfl, rfl⟩)
  exact bodyPost_ret (v := stEmpty b 1 1) (by unfold stEmpty; simp [results, Tryz.results22, go_sem]) rfl ⟨_, rfl, by rw [HN.out]; exact isst_empty _ _ _ _, Tch.alloc _ _⟩
 | false =>
  go_enter Tryz.func22, Tryz.ntmps22
  go_wp2_with (go_at_call 46; refine (HB.out _).mono ?_; rintro e w' ⟨rfl, rfl⟩)
  exact bodyPost_ret (v := stEmpty 0 0 0) (by unfold stEmpty; simp [results, Tryz.results22, go_sem]) rfl ⟨_, rfl, by rw [HN.out]; exact isst_empty _ _ _ _, Tch.alloc _ _⟩
end
section
open Go.RowKit Go.Maps
def nextM (s : StM) (qt : Txt) : Option MsgM := (keptM (notNext qt) s.ms).head?
def msgV (m : MsgM) : Value := .agg #[.int .i64 m.id, strV m.q, strV m.b, .int .i64 m.seq, .int .i64 m.cnt, .int .i64 m.who]
def msg0 : MsgM := ⟨0, [], [], 0, 0, 0⟩
theorem rise_kept {f : MsgM -> Int} (p : MsgM -> Bool) : ∀ {l : List MsgM}, strictB (l.map f) = true -> strictB ((keptM p l).map f) = true
 | [], _ => rfl
 | a :: r, h => by
  obtain ⟨h1, h2⟩ := strictB_cons.1 h
  have ih := rise_kept p h2
  unfold keptM at ih ⊢
  cases hp : p a with
  | true => simp [List.filter_cons, hp]; simpa using ih
  | false =>
   rw [List.filter_cons]
   simp only [hp, Bool.not_false, if_true, List.map_cons]
   refine strictB_cons.2 ⟨fun b hb => h1 b ?_, ih⟩
   obtain ⟨x, hx, rfl⟩ := List.mem_map.1 hb
   exact List.mem_map_of_mem (List.mem_filter.1 hx).1
theorem onext_any (s : StM) (hs : strictB (s.ms.map (·.seq)) = true) (hn : s.ms.length <= 10000000) (qt : Txt) (v : Value) (w : World) (h : IsSt w v s) :
  Calls Tryz.prog 30 #[v, strV qt] w fun e w' => e = .returned (.tuple #[msgV ((nextM s qt).getD msg0), .bool (nextM s qt).isSome]) /\ Tch No w w' := by
 obtain ⟨vm, vw, ve, vo, vn, rfl, hm, hw, he, ho, hno⟩ := h
 obtain ⟨ma, mc, rfl, _, _⟩ := CellsAt.shape hm
 obtain ⟨wa, wk, rfl, _, _⟩ := hw.shape
 obtain ⟨ea, ec, rfl, _, _⟩ := CellsAt.shape he
 obtain ⟨oa, oc, rfl, _, _⟩ := ho.shape
 obtain ⟨na, nc, rfl, _, _⟩ := hno.shape
 obtain ⟨brk, nid, nseq, tx, ms, waits, ends, opens, noes⟩ := s
 simp only at hs hn hm ⊢
 unfold nextM
 have HM := Lib.hid hm
 have HRI := Lib.hid (rise_kept (notNext qt) hs)
 obtain ⟨qs, hqs⟩ : ∃ x : ByteArray, (⟨qt.toArray⟩ : ByteArray) = x := ⟨_, rfl⟩
 have HQS := Lib.hid hqs
 simp only [strV]
 rw [hqs]
 obtain ⟨bs, hbs⟩ : ∃ x, w.heap.size = x := ⟨_, rfl⟩
 obtain ⟨w1, hw1⟩ : ∃ x, ((w.alloc (.cells #[.int .i64 brk, .int .i64 nid, .int .i64 nseq, .int .i64 tx, .slice ma ms.length mc, .slice wa waits.length wk, .slice ea ends.length ec, .slice oa opens.length oc, .slice na noes.length nc] 27)).alloc (.cells #[.string qs] 9)).alloc (.cells #[.int .i64 0, .string ⟨#[]⟩, .string ⟨#[]⟩, .int .i64 0, .int .i64 0, .int .i64 0] 50) = x := ⟨_, rfl⟩
 obtain ⟨rb, hrb⟩ : ∃ x, x = bs + 1 + 1 := ⟨_, rfl⟩
 have HRB := Lib.hid hrb
 have e1 : (w.alloc (.cells #[.int .i64 brk, .int .i64 nid, .int .i64 nseq, .int .i64 tx, .slice ma ms.length mc, .slice wa waits.length wk, .slice ea ends.length ec, .slice oa opens.length oc, .slice na noes.length nc] 27)).heap.size = bs + 1 := by rw [<- hbs]; simp
 have e2 : ((w.alloc (.cells #[.int .i64 brk, .int .i64 nid, .int .i64 nseq, .int .i64 tx, .slice ma ms.length mc, .slice wa waits.length wk, .slice ea ends.length ec, .slice oa opens.length oc, .slice na noes.length nc] 27)).alloc (.cells #[.string qs] 9)).heap.size = rb := by rw [hrb, <- hbs]; simp
 have HB1 : Hid (w1.heap[bs]? = some (.cells #[.int .i64 brk, .int .i64 nid, .int .i64 nseq, .int .i64 tx, .slice ma ms.length mc, .slice wa waits.length wk, .slice ea ends.length ec, .slice oa opens.length oc, .slice na noes.length nc] 27 (0, 0))) := by rw [Hid, <- hw1, <- hbs]; exact blk_tch ((Tch.alloc _ _).trans0 (Tch.alloc _ _)) (blk_new w _) (fun h => h)
 have HQ1 : Hid (w1.heap[bs + 1]? = some (.cells #[.string qs] 9 (0, 0))) := by rw [Hid, <- hw1, <- e1]; exact blk_tch (Tch.alloc _ _) (blk_new _ _) (fun h => h)
 have HR1 : Hid (w1.heap[rb]? = some (.cells #[.int .i64 0, .string ⟨#[]⟩, .string ⟨#[]⟩, .int .i64 0, .int .i64 0, .int .i64 0] 50 (0, 0))) := by rw [Hid, <- hw1, <- e2]; exact blk_new _ _
 have TW1 : Hid (Tch No w w1) := by rw [Hid, <- hw1]; exact ((Tch.alloc _ _).trans0 (Tch.alloc _ _)).trans0 (Tch.alloc _ _)
 have HLT : Hid (w.heap.size <= rb) := by rw [Hid, hrb, hbs]; omega
 have b4 : w1.cell? ⟨bs, 4, none⟩ = some (.slice ma ms.length mc) := (blk_cell HB1.out 4).trans rfl
 have HCL := Lib.hid (clone_msg (.slice ma ms.length mc) ms w1 (hm.keep TW1.out) (ones_flat ones_msg ms) (by omega))
 have HDEL : Hid (∀ v W, Tch No w1 W -> OwnN w1 50 6 ms.length (ms.flatMap encMsg) v W -> Calls Tryz.prog 89 #[v, .func (.func 91) #[] #[.pointer (some ⟨bs + 1, 0, none⟩)]] W fun e w' => ∃ v', e = .returned v' /\ OwnN w1 50 6 (keptM (notNext qt) ms).length ((keptM (notNext qt) ms).flatMap encMsg) v' w' /\ Tch No w1 w') := fun v W tW hW =>
  del_msg w1 _ #[.pointer (some ⟨bs + 1, 0, none⟩)] (enters_of Tryz.func91 rfl rfl) (notNext qt) ms (fun x hx W' t' => next1_any x qt (bs + 1) W' (by rw [strV, HQS.out]; exact (blk_cell (blk_tch t' HQ1.out (fun h => h)) 0).trans rfl)) v W tW hW (by omega)
 obtain ⟨lk, hlk⟩ : ∃ l, keptM (notNext qt) ms = l := ⟨_, rfl⟩
 have hkl : lk.length <= 10000000 := by rw [<- hlk]; exact Nat.le_trans (keptM_le _ _) hn
 rw [hlk] at HDEL HRI
 rw [hlk]
 clear hm hw he ho hno hs hrb e1 e2 hqs hlk
 go_enter Tryz.func30, Tryz.ntmps30
 go_wp2_with fail
 clear hbs hw1
 refine HCL.out.mono ?_
 rintro e w2 ⟨a2, c2, rfl, O2, T2, _⟩
 have OO2 := Lib.hid O2
 have TT2 := Lib.hid T2
 clear O2 T2 b4
 go_wp2_with fail
 refine (HDEL.out _ w2 TT2.out OO2.out).mono ?_
 rintro e w3 ⟨v3, rfl, O3, T3⟩
 obtain ⟨a3, n3, c3, rfl, hn3⟩ := own_shape' O3.1
 have hn3' : n3 = lk.length := hn3
 subst hn3'
 have OO3 := Lib.hid O3
 have TT3 := Lib.hid T3
 have HRX := Lib.hid (blk_tch T3 HR1.out (fun h => h))
 clear O3 T3 hn3 HDEL
 cases lk with
 | nil =>
  obtain ⟨wz, hwz, HRZ, TZ⟩ : ∃ W, ((((((w3.setCell ⟨rb, 0, none⟩ (.int .i64 0)).setCell ⟨rb, 1, none⟩ (.string ⟨#[]⟩)).setCell ⟨rb, 2, none⟩ (.string ⟨#[]⟩)).setCell ⟨rb, 3, none⟩ (.int .i64 0)).setCell ⟨rb, 4, none⟩ (.int .i64 0)).setCell ⟨rb, 5, none⟩ (.int .i64 0)) = W /\ Hid (W.heap[rb]? = some (.cells #[.int .i64 0, .string ⟨#[]⟩, .string ⟨#[]⟩, .int .i64 0, .int .i64 0, .int .i64 0] 50 (0, 0))) /\ Hid (Tch (fun k => k = rb) w3 W) := by
   obtain ⟨g1, g2⟩ := set6e (W := w3) (b := rb) (T := 50) (.int .i64 0) (.string ⟨#[]⟩) (.string ⟨#[]⟩) (.int .i64 0) (.int .i64 0) (.int .i64 0) HRX.out
   exact ⟨_, rfl, g1, g2⟩
  rw [HRB.out] at hwz
  obtain ⟨r0, r1, r2, r3, r4, r5⟩ := kc6 (W := w3) (b := bs + 1 + 1) (by rw [<- HRB.out]; exact HRX.out)
  obtain ⟨fr0, fr1, fr2, fr3, fr4, fr5⟩ := kf6 (W := w3) (b := bs + 1 + 1) (by rw [<- HRB.out]; exact HRX.out)
  go_wp2_with fail
  obtain ⟨q0, q1, q2, q3, q4, q5⟩ := kc6 (W := wz) (b := bs + 1 + 1) (by rw [<- HRB.out]; exact HRZ.out)
  refine bodyPost_ret (v := .tuple #[.agg #[.int .i64 0, .string ⟨#[]⟩, .string ⟨#[]⟩, .int .i64 0, .int .i64 0, .int .i64 0], .bool false]) (by simp [results, Tryz.results30, go_sem, q0, q1, q2, q3, q4, q5]) rfl ?_
  exact ⟨rfl, (TW1.out.trans0 TT3.out).fresh TZ.out (fun q h => by rw [h]; exact HLT.out)⟩
 | cons y r =>
  have hl1 : ¬ (((y :: r).length : Int) = 0) := by simp only [List.length_cons]; omega
  have HMF := Lib.hid (minfunc_any y r (y :: r) rfl hkl HRI.out (.slice a3 (y :: r).length c3) w3 (CellsAt.ofRow OO3.out.1))
  obtain ⟨nk, hnk⟩ : ∃ n, (y :: r).length = n := ⟨_, rfl⟩
  rw [hnk] at hl1 HMF
  rw [hnk]
  clear hnk OO3 HRI hkl
  obtain ⟨y0, t1, t2, y3, y4, y5⟩ := y
  simp only [strV] at HMF
  obtain ⟨y1, hy1⟩ : ∃ x : ByteArray, (⟨t1.toArray⟩ : ByteArray) = x := ⟨_, rfl⟩
  obtain ⟨y2, hy2⟩ : ∃ x : ByteArray, (⟨t2.toArray⟩ : ByteArray) = x := ⟨_, rfl⟩
  have HY1 := Lib.hid hy1
  have HY2 := Lib.hid hy2
  rw [hy1, hy2] at HMF
  clear hy1 hy2
  go_wp2_with fail
  refine HMF.out.mono ?_
  rintro e w4 ⟨rfl, T4⟩
  have TT4 := Lib.hid T4
  have HRX := Lib.hid (blk_tch T4 HRX.out (fun h => h))
  clear T4
  obtain ⟨wz, hwz, HRZ, TZ⟩ : ∃ W, ((((((w4.setCell ⟨rb, 0, none⟩ (.int .i64 y0)).setCell ⟨rb, 1, none⟩ (.string y1)).setCell ⟨rb, 2, none⟩ (.string y2)).setCell ⟨rb, 3, none⟩ (.int .i64 y3)).setCell ⟨rb, 4, none⟩ (.int .i64 y4)).setCell ⟨rb, 5, none⟩ (.int .i64 y5)) = W /\ Hid (W.heap[rb]? = some (.cells #[.int .i64 y0, .string y1, .string y2, .int .i64 y3, .int .i64 y4, .int .i64 y5] 50 (0, 0))) /\ Hid (Tch (fun k => k = rb) w4 W) := by
   obtain ⟨g1, g2⟩ := set6e (W := w4) (b := rb) (T := 50) (.int .i64 y0) (.string y1) (.string y2) (.int .i64 y3) (.int .i64 y4) (.int .i64 y5) HRX.out
   exact ⟨_, rfl, g1, g2⟩
  rw [HRB.out] at hwz
  obtain ⟨r0, r1, r2, r3, r4, r5⟩ := kc6 (W := w4) (b := bs + 1 + 1) (by rw [<- HRB.out]; exact HRX.out)
  obtain ⟨fr0, fr1, fr2, fr3, fr4, fr5⟩ := kf6 (W := w4) (b := bs + 1 + 1) (by rw [<- HRB.out]; exact HRX.out)
  go_wp2_with fail
  obtain ⟨q0, q1, q2, q3, q4, q5⟩ := kc6 (W := wz) (b := bs + 1 + 1) (by rw [<- HRB.out]; exact HRZ.out)
  refine bodyPost_ret (v := .tuple #[.agg #[.int .i64 y0, .string y1, .string y2, .int .i64 y3, .int .i64 y4, .int .i64 y5], .bool true]) (by simp [results, Tryz.results30, go_sem, q0, q1, q2, q3, q4, q5]) rfl ?_
  refine ⟨?_, ((TW1.out.trans0 TT3.out).trans0 TT4.out).fresh TZ.out (fun q h => by rw [h]; exact HLT.out)⟩
  rw [<- HY1.out, <- HY2.out]
  rfl
end
end Go.Proofs.YtfedhcnmdmhppaaGreat
