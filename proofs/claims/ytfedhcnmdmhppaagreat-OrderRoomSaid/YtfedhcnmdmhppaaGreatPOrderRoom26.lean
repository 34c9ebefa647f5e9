/- Part 26 of what the proof of OrderRoom rests on. No condition. -/
import Derived.Test.YtfedhcnmdmhppaaGreatPOrderRoom24
import Derived.Test.YtfedhcnmdmhppaaGreatPOrderRoom25
namespace Go.Proofs.YtfedhcnmdmhppaaGreat
set_option maxRecDepth 100000
set_option maxHeartbeats 60000000
set_option linter.unusedVariables false
set_option linter.unusedSimpArgs false
section
open Go.RowKit Go.Maps
theorem dmsg_any (w : World) (ib pb gb fb : Nat) (m : MsgM) (hm : MsgSz m) (hc : m.cnt < 65536) (rest : List UInt8) (W : World) (h : SDec w ib pb gb fb (encMsgM m ++ rest) W) :
  Calls Tryz.prog 116 #[.pointer (some ⟨pb, 0, none⟩)] W fun e w' => e = .returned (.agg #[.int .i64 m.id, strV m.q, strV m.b, .int .i64 m.seq, .int .i64 m.cnt, .int .i64 m.who]) /\ SDec w ib pb gb fb rest w' /\ Tch (FF ib gb) W w' := by
 obtain ⟨x0, x1, x2, x3, x4, x5⟩ := m
 have HM := Lib.hid hm
 have hq1l : x1.length <= 300 := hm.q
 have hq2l : x2.length <= 300 := hm.b
 simp only [strV] at hc ⊢
 obtain ⟨L6, hL6⟩ : ∃ x, rest = x := ⟨_, rfl⟩
 obtain ⟨L5, hL5⟩ : ∃ x, leBytes 8 (u64of x5) ++ L6 = x := ⟨_, rfl⟩
 obtain ⟨L4, hL4⟩ : ∃ x, leBytes 2 x4.toNat ++ L5 = x := ⟨_, rfl⟩
 obtain ⟨L3, hL3⟩ : ∃ x, leBytes 8 (u64of x3) ++ L4 = x := ⟨_, rfl⟩
 obtain ⟨L2, hL2⟩ : ∃ x, textM x2 ++ L3 = x := ⟨_, rfl⟩
 obtain ⟨L1, hL1⟩ : ∃ x, textM x1 ++ L2 = x := ⟨_, rfl⟩
 obtain ⟨L0, hL0⟩ : ∃ x, leBytes 8 (u64of x0) ++ L1 = x := ⟨_, rfl⟩
 have hLL : encMsgM ⟨x0, x1, x2, x3, x4, x5⟩ ++ rest = L0 := by
  rw [<- hL0, <- hL1, <- hL2, <- hL3, <- hL4, <- hL5, <- hL6]; simp [encMsgM, List.append_assoc]
 rw [hLL] at h
 rw [hL6]
 obtain ⟨q1, hq1⟩ : ∃ q : ByteArray, (⟨x1.toArray⟩ : ByteArray) = q := ⟨_, rfl⟩
 obtain ⟨q2, hq2⟩ : ∃ q : ByteArray, (⟨x2.toArray⟩ : ByteArray) = q := ⟨_, rfl⟩
 rw [hq1, hq2]
 have HC0 : Hid (∀ W, SDec w ib pb gb fb L0 W -> Calls Tryz.prog 114 #[.pointer (some ⟨ib, 0, none⟩)] W fun e w' => e = .returned (.int .i64 x0) /\ SDec w ib pb gb fb L1 w' /\ Tch (FF ib gb) W w') := fun W hh => by
  have hi := hh.inn
  rw [<- hL0] at hi
  refine (InS.long x0 _ hi HM.out.id).mono ?_
  rintro e w' ⟨rfl, i2, t2⟩
  exact ⟨rfl, hh.read i2 t2, inF_FF t2⟩
 have HC1 : Hid (∀ W, SDec w ib pb gb fb L1 W -> Calls Tryz.prog 112 #[.pointer (some ⟨ib, 0, none⟩)] W fun e w' => e = .returned (.string q1) /\ SDec w ib pb gb fb L2 w' /\ Tch (FF ib gb) W w') := fun W hh => by
  have hi := hh.inn
  rw [<- hL1] at hi
  refine (InS.text x1 _ hi (by omega)).mono ?_
  rintro e w' ⟨rfl, i2, t2⟩
  exact ⟨by rw [<- hq1]; rfl, hh.read i2 t2, inF_FF t2⟩
 have HC2 : Hid (∀ W, SDec w ib pb gb fb L2 W -> Calls Tryz.prog 112 #[.pointer (some ⟨ib, 0, none⟩)] W fun e w' => e = .returned (.string q2) /\ SDec w ib pb gb fb L3 w' /\ Tch (FF ib gb) W w') := fun W hh => by
  have hi := hh.inn
  rw [<- hL2] at hi
  refine (InS.text x2 _ hi (by omega)).mono ?_
  rintro e w' ⟨rfl, i2, t2⟩
  exact ⟨by rw [<- hq2]; rfl, hh.read i2 t2, inF_FF t2⟩
 have HC3 : Hid (∀ W, SDec w ib pb gb fb L3 W -> Calls Tryz.prog 114 #[.pointer (some ⟨ib, 0, none⟩)] W fun e w' => e = .returned (.int .i64 x3) /\ SDec w ib pb gb fb L4 w' /\ Tch (FF ib gb) W w') := fun W hh => by
  have hi := hh.inn
  rw [<- hL3] at hi
  refine (InS.long x3 _ hi HM.out.seq).mono ?_
  rintro e w' ⟨rfl, i2, t2⟩
  exact ⟨rfl, hh.read i2 t2, inF_FF t2⟩
 have HC4 : Hid (∀ W, SDec w ib pb gb fb L4 W -> Calls Tryz.prog 113 #[.pointer (some ⟨ib, 0, none⟩)] W fun e w' => e = .returned (.int .i64 x4) /\ SDec w ib pb gb fb L5 w' /\ Tch (FF ib gb) W w') := fun W hh => by
  have hi := hh.inn
  rw [<- hL4] at hi
  refine (InS.small x4.toNat _ hi (by have := HM.out.cnt; omega)).mono ?_
  rintro e w' ⟨rfl, i2, t2⟩
  exact ⟨by rw [show ((x4.toNat : Nat) : Int) = x4 by have := HM.out.cnt; simp only at this; omega], hh.read i2 t2, inF_FF t2⟩
 have HC5 : Hid (∀ W, SDec w ib pb gb fb L5 W -> Calls Tryz.prog 114 #[.pointer (some ⟨ib, 0, none⟩)] W fun e w' => e = .returned (.int .i64 x5) /\ SDec w ib pb gb fb L6 w' /\ Tch (FF ib gb) W w') := fun W hh => by
  have hi := hh.inn
  rw [<- hL5] at hi
  refine (InS.long x5 _ hi HM.out.who).mono ?_
  rintro e w' ⟨rfl, i2, t2⟩
  exact ⟨rfl, hh.read i2 t2, inF_FF t2⟩
 clear hL0 hL1 hL2 hL3 hL4 hL5 hL6 hLL hq1 hq2 hm
 have hbs := h.lt
 obtain ⟨rb, hrb⟩ : ∃ x, W.heap.size = x := ⟨_, rfl⟩
 obtain ⟨w1, hw1⟩ : ∃ x, W.alloc (.cells #[.int .i64 0, .string ⟨#[]⟩, .string ⟨#[]⟩, .int .i64 0, .int .i64 0, .int .i64 0] 50) = x := ⟨_, rfl⟩
 have HB1 : Hid (w1.heap[rb]? = some (.cells #[.int .i64 0, .string ⟨#[]⟩, .string ⟨#[]⟩, .int .i64 0, .int .i64 0, .int .i64 0] 50 (0, 0))) := by rw [Hid, <- hw1, <- hrb]; exact blk_new W _
 have T1 : Hid (Tch No W w1) := by rw [Hid, <- hw1]; exact Tch.alloc _ _
 have S1 := Lib.hid (h.keep T1.out)
 have HRB : Hid (ib < rb /\ gb < rb /\ fb < rb) := by rw [Hid]; omega
 have HRB2 : Hid (W.heap.size = rb) := hrb
 clear h hbs
 go_enter Tryz.func116, Tryz.ntmps116
 go_upto_region 1 with fail
 try rw [hw1]
 try rw [hrb]
 clear hw1 hrb
 refine frame_var 15 rfl (fun fr hfr hsz => ?_)
 have h0 : fr.eval (.tmp 0) = .pointer (some ⟨pb, 0, none⟩) := by rw [hfr.out]; rfl
 have h1 : fr.eval (.tmp 1) = .pointer (some ⟨rb, 0, none⟩) := by rw [hfr.out]; rfl
 have hlist : ∀ f ∈ ([(fun x _ => x = .pointer (some ⟨ib, 0, none⟩)), (fun x _ => x = .int .i64 x0), (fun x _ => x = .pointer (some ⟨ib, 0, none⟩)), (fun x _ => x = .string q1), (fun x _ => x = .pointer (some ⟨ib, 0, none⟩)), (fun x _ => x = .string q2), (fun x _ => x = .pointer (some ⟨ib, 0, none⟩)), (fun x _ => x = .int .i64 x3), (fun x _ => x = .pointer (some ⟨ib, 0, none⟩)), (fun x _ => x = .int .i64 x4), (fun x _ => x = .pointer (some ⟨ib, 0, none⟩)), (fun x _ => x = .int .i64 x5), (fun x _ => x = .agg #[.int .i64 x0, .string q1, .string q2, .int .i64 x3, .int .i64 x4, .int .i64 x5]), (fun x _ => True)] : List (Value -> World -> Prop)), Stb f :=
  all_mem1 ((pur_eq _).stb) (all_mem1 ((pur_eq _).stb) (all_mem1 ((pur_eq _).stb) (all_mem1 ((pur_eq _).stb) (all_mem1 ((pur_eq _).stb) (all_mem1 ((pur_eq _).stb) (all_mem1 ((pur_eq _).stb) (all_mem1 ((pur_eq _).stb) (all_mem1 ((pur_eq _).stb) (all_mem1 ((pur_eq _).stb) (all_mem1 ((pur_eq _).stb) (all_mem1 ((pur_eq _).stb) (all_mem1 ((pur_eq _).stb) (all_mem1 (pur_any.stb) (all_mem0))))))))))))))
 refine wp_region_inv6 13 [1, 3, 5, 7, 9, 11] (fun i => ([[0], [], [0, 1], [], [0, 1, 2], [], [0, 1, 2, 3], [], [0, 1, 2, 3, 4], [], [0, 1, 2, 3, 4, 5], [], [6], [0, 1, 2, 3, 4, 5, 6]][i]?).getD []) (fun kst : Nat => match kst with | 0 => (fun W => SDec w ib pb gb fb L0 W /\ W.heap[rb]? = some (.cells #[.int .i64 0, .string ⟨#[]⟩, .string ⟨#[]⟩, .int .i64 0, .int .i64 0, .int .i64 0] 50 (0, 0)) /\ Tch (FF ib gb) w1 W) | 1 => (fun W => SDec w ib pb gb fb L1 W /\ W.heap[rb]? = some (.cells #[.int .i64 0, .string ⟨#[]⟩, .string ⟨#[]⟩, .int .i64 0, .int .i64 0, .int .i64 0] 50 (0, 0)) /\ Tch (FF ib gb) w1 W) | 2 => (fun W => SDec w ib pb gb fb L2 W /\ W.heap[rb]? = some (.cells #[.int .i64 0, .string ⟨#[]⟩, .string ⟨#[]⟩, .int .i64 0, .int .i64 0, .int .i64 0] 50 (0, 0)) /\ Tch (FF ib gb) w1 W) | 3 => (fun W => SDec w ib pb gb fb L3 W /\ W.heap[rb]? = some (.cells #[.int .i64 0, .string ⟨#[]⟩, .string ⟨#[]⟩, .int .i64 0, .int .i64 0, .int .i64 0] 50 (0, 0)) /\ Tch (FF ib gb) w1 W) | 4 => (fun W => SDec w ib pb gb fb L4 W /\ W.heap[rb]? = some (.cells #[.int .i64 0, .string ⟨#[]⟩, .string ⟨#[]⟩, .int .i64 0, .int .i64 0, .int .i64 0] 50 (0, 0)) /\ Tch (FF ib gb) w1 W) | 5 => (fun W => SDec w ib pb gb fb L5 W /\ W.heap[rb]? = some (.cells #[.int .i64 0, .string ⟨#[]⟩, .string ⟨#[]⟩, .int .i64 0, .int .i64 0, .int .i64 0] 50 (0, 0)) /\ Tch (FF ib gb) w1 W) | _ => (fun W => SDec w ib pb gb fb L6 W /\ W.heap[rb]? = some (.cells #[.int .i64 0, .string ⟨#[]⟩, .string ⟨#[]⟩, .int .i64 0, .int .i64 0, .int .i64 0] 50 (0, 0)) /\ Tch (FF ib gb) w1 W)) (RL [(fun x _ => x = .pointer (some ⟨ib, 0, none⟩)), (fun x _ => x = .int .i64 x0), (fun x _ => x = .pointer (some ⟨ib, 0, none⟩)), (fun x _ => x = .string q1), (fun x _ => x = .pointer (some ⟨ib, 0, none⟩)), (fun x _ => x = .string q2), (fun x _ => x = .pointer (some ⟨ib, 0, none⟩)), (fun x _ => x = .int .i64 x3), (fun x _ => x = .pointer (some ⟨ib, 0, none⟩)), (fun x _ => x = .int .i64 x4), (fun x _ => x = .pointer (some ⟨ib, 0, none⟩)), (fun x _ => x = .int .i64 x5), (fun x _ => x = .agg #[.int .i64 x0, .string q1, .string q2, .int .i64 x3, .int .i64 x4, .int .i64 x5]), (fun x _ => True)]) [] [2, 3, 4, 5, 6, 7, 8, 9, 10, 11, 12, 13, 14] [(some 2, [0], []), (some 3, [2], [0]), (some 4, [0], []), (some 5, [4], [2, 1]), (some 6, [0], []), (some 7, [6], [4, 3]), (some 8, [0], []), (some 9, [8], [6, 5]), (some 10, [0], []), (some 11, [10], [8, 7]), (some 12, [0], []), (some 13, [12], [10, 9]), (some 14, [3, 5, 7, 9, 11, 13], [1, 3, 5, 7, 9, 11]), (none, [1, 14], [12, 11, 0, 1, 2, 3, 4, 5, 6, 7, 8, 9, 10, 11, 12])] (fun i => ([[], [0], [], [0, 1, 2], [], [0, 1, 2, 3, 4], [], [0, 1, 2, 3, 4, 5, 6], [], [0, 1, 2, 3, 4, 5, 6, 7, 8], [], [0, 1, 2, 3, 4, 5, 6, 7, 8, 9, 10], [0, 1, 2, 3, 4, 5, 6, 7, 8, 9, 10, 11], [0, 1, 2, 3, 4, 5, 6, 7, 8, 9, 10, 11, 12]][i]?).getD []) (fun i => ([[], [0], [], [2], [], [4], [], [6], [], [8], [], [10], [1, 3, 5, 7, 9, 11], [12]][i]?).getD []) (fun _ => []) (fun _ => []) (by kernel_rfl) (by kernel_rfl) (by kernel_rfl) (by rw [hsz]; kernel_rfl) (by kernel_rfl) (by kernel_rfl) (by kernel_rfl) ?_ (rl_pur ?_) ?_ ?_ ?_
 ·exact ⟨S1.out.keep (Tch.drew _), blk_tch (Tch.drew _) HB1.out (fun h => h), (Tch.drew _).no⟩
 ·show ∀ j, j < 14 -> _ ∨ _
  refine all_lt1 (all_lt1 (all_lt1 (all_lt1 (all_lt1 (all_lt1 (all_lt1 (all_lt1 (all_lt1 (all_lt1 (all_lt1 (all_lt1 (all_lt1 (all_lt1 (all_lt0) (Or.inr (pur_eq _))) (Or.inr (pur_eq _))) (Or.inr (pur_eq _))) (Or.inr (pur_eq _))) (Or.inr (pur_eq _))) (Or.inr (pur_eq _))) (Or.inr (pur_eq _))) (Or.inr (pur_eq _))) (Or.inr (pur_eq _))) (Or.inr (pur_eq _))) (Or.inr (pur_eq _))) (Or.inr (pur_eq _))) (Or.inr (pur_eq _))) (Or.inr pur_any)
 ·show ∀ i, i < 14 -> _
  refine all_lt1 (all_lt1 (all_lt1 (all_lt1 (all_lt1 (all_lt1 (all_lt1 (all_lt1 (all_lt1 (all_lt1 (all_lt1 (all_lt1 (all_lt1 (all_lt1 (all_lt0) ?c0) ?c1) ?c2) ?c3) ?c4) ?c5) ?c6) ?c7) ?c8) ?c9) ?c10) ?c11) ?c12) ?c13
  case c0 =>
   intro _ kst hkst
   replace hkst : kst ∈ ([0] : List Nat) := hkst
   simp only [List.mem_cons, List.not_mem_nil, or_false] at hkst
   rcases hkst with rfl
   ·exact istep_q (d := 2) (.pointer (some ⟨ib, 0, none⟩)) ⟨some 2, _, _, _, _, none⟩ rfl rfl (fun a w' hf hC hn => (iwanted_no rfl)) (fun _ _ => rfl) (fun a W hf hC hn => y_ldPIn (ρ := a.eval) (.tmp 0) (ad := ⟨pb, 0, none⟩) rfl (hf.ev (by kernel_rfl) h0) W (((blk_cell hC.1.pbh 0).trans rfl)))
  case c1 => intro _ kst hkst; exact (List.not_mem_nil (show kst ∈ ([] : List Nat) from hkst)).elim
  case c2 =>
   intro _ kst hkst
   replace hkst : kst ∈ ([0, 1] : List Nat) := hkst
   simp only [List.mem_cons, List.not_mem_nil, or_false] at hkst
   rcases hkst with rfl | rfl
   ·exact istep_q (d := 4) (.pointer (some ⟨ib, 0, none⟩)) ⟨some 4, _, _, _, _, none⟩ rfl rfl (fun a w' hf hC hn => (iwanted_no rfl)) (fun _ _ => rfl) (fun a W hf hC hn => y_ldPIn (ρ := a.eval) (.tmp 0) (ad := ⟨pb, 0, none⟩) rfl (hf.ev (by kernel_rfl) h0) W (((blk_cell hC.1.pbh 0).trans rfl)))
   ·exact istep_q (d := 4) (.pointer (some ⟨ib, 0, none⟩)) ⟨some 4, _, _, _, _, none⟩ rfl rfl (fun a w' hf hC hn => (iwanted_no rfl)) (fun _ _ => rfl) (fun a W hf hC hn => y_ldPIn (ρ := a.eval) (.tmp 0) (ad := ⟨pb, 0, none⟩) rfl (hf.ev (by kernel_rfl) h0) W (((blk_cell hC.1.pbh 0).trans rfl)))
  case c3 => intro _ kst hkst; exact (List.not_mem_nil (show kst ∈ ([] : List Nat) from hkst)).elim
  case c4 =>
   intro _ kst hkst
   replace hkst : kst ∈ ([0, 1, 2] : List Nat) := hkst
   simp only [List.mem_cons, List.not_mem_nil, or_false] at hkst
   rcases hkst with rfl | rfl | rfl
   ·exact istep_q (d := 6) (.pointer (some ⟨ib, 0, none⟩)) ⟨some 6, _, _, _, _, none⟩ rfl rfl (fun a w' hf hC hn => (iwanted_no rfl)) (fun _ _ => rfl) (fun a W hf hC hn => y_ldPIn (ρ := a.eval) (.tmp 0) (ad := ⟨pb, 0, none⟩) rfl (hf.ev (by kernel_rfl) h0) W (((blk_cell hC.1.pbh 0).trans rfl)))
   ·exact istep_q (d := 6) (.pointer (some ⟨ib, 0, none⟩)) ⟨some 6, _, _, _, _, none⟩ rfl rfl (fun a w' hf hC hn => (iwanted_no rfl)) (fun _ _ => rfl) (fun a W hf hC hn => y_ldPIn (ρ := a.eval) (.tmp 0) (ad := ⟨pb, 0, none⟩) rfl (hf.ev (by kernel_rfl) h0) W (((blk_cell hC.1.pbh 0).trans rfl)))
   ·exact istep_q (d := 6) (.pointer (some ⟨ib, 0, none⟩)) ⟨some 6, _, _, _, _, none⟩ rfl rfl (fun a w' hf hC hn => (iwanted_no rfl)) (fun _ _ => rfl) (fun a W hf hC hn => y_ldPIn (ρ := a.eval) (.tmp 0) (ad := ⟨pb, 0, none⟩) rfl (hf.ev (by kernel_rfl) h0) W (((blk_cell hC.1.pbh 0).trans rfl)))
  case c5 => intro _ kst hkst; exact (List.not_mem_nil (show kst ∈ ([] : List Nat) from hkst)).elim
  case c6 =>
   intro _ kst hkst
   replace hkst : kst ∈ ([0, 1, 2, 3] : List Nat) := hkst
   simp only [List.mem_cons, List.not_mem_nil, or_false] at hkst
   rcases hkst with rfl | rfl | rfl | rfl
   ·exact istep_q (d := 8) (.pointer (some ⟨ib, 0, none⟩)) ⟨some 8, _, _, _, _, none⟩ rfl rfl (fun a w' hf hC hn => (iwanted_no rfl)) (fun _ _ => rfl) (fun a W hf hC hn => y_ldPIn (ρ := a.eval) (.tmp 0) (ad := ⟨pb, 0, none⟩) rfl (hf.ev (by kernel_rfl) h0) W (((blk_cell hC.1.pbh 0).trans rfl)))
   ·exact istep_q (d := 8) (.pointer (some ⟨ib, 0, none⟩)) ⟨some 8, _, _, _, _, none⟩ rfl rfl (fun a w' hf hC hn => (iwanted_no rfl)) (fun _ _ => rfl) (fun a W hf hC hn => y_ldPIn (ρ := a.eval) (.tmp 0) (ad := ⟨pb, 0, none⟩) rfl (hf.ev (by kernel_rfl) h0) W (((blk_cell hC.1.pbh 0).trans rfl)))
   ·exact istep_q (d := 8) (.pointer (some ⟨ib, 0, none⟩)) ⟨some 8, _, _, _, _, none⟩ rfl rfl (fun a w' hf hC hn => (iwanted_no rfl)) (fun _ _ => rfl) (fun a W hf hC hn => y_ldPIn (ρ := a.eval) (.tmp 0) (ad := ⟨pb, 0, none⟩) rfl (hf.ev (by kernel_rfl) h0) W (((blk_cell hC.1.pbh 0).trans rfl)))
   ·exact istep_q (d := 8) (.pointer (some ⟨ib, 0, none⟩)) ⟨some 8, _, _, _, _, none⟩ rfl rfl (fun a w' hf hC hn => (iwanted_no rfl)) (fun _ _ => rfl) (fun a W hf hC hn => y_ldPIn (ρ := a.eval) (.tmp 0) (ad := ⟨pb, 0, none⟩) rfl (hf.ev (by kernel_rfl) h0) W (((blk_cell hC.1.pbh 0).trans rfl)))
  case c7 => intro _ kst hkst; exact (List.not_mem_nil (show kst ∈ ([] : List Nat) from hkst)).elim
  case c8 =>
   intro _ kst hkst
   replace hkst : kst ∈ ([0, 1, 2, 3, 4] : List Nat) := hkst
   simp only [List.mem_cons, List.not_mem_nil, or_false] at hkst
   rcases hkst with rfl | rfl | rfl | rfl | rfl
   ·exact istep_q (d := 10) (.pointer (some ⟨ib, 0, none⟩)) ⟨some 10, _, _, _, _, none⟩ rfl rfl (fun a w' hf hC hn => (iwanted_no rfl)) (fun _ _ => rfl) (fun a W hf hC hn => y_ldPIn (ρ := a.eval) (.tmp 0) (ad := ⟨pb, 0, none⟩) rfl (hf.ev (by kernel_rfl) h0) W (((blk_cell hC.1.pbh 0).trans rfl)))
   ·exact istep_q (d := 10) (.pointer (some ⟨ib, 0, none⟩)) ⟨some 10, _, _, _, _, none⟩ rfl rfl (fun a w' hf hC hn => (iwanted_no rfl)) (fun _ _ => rfl) (fun a W hf hC hn => y_ldPIn (ρ := a.eval) (.tmp 0) (ad := ⟨pb, 0, none⟩) rfl (hf.ev (by kernel_rfl) h0) W (((blk_cell hC.1.pbh 0).trans rfl)))
   ·exact istep_q (d := 10) (.pointer (some ⟨ib, 0, none⟩)) ⟨some 10, _, _, _, _, none⟩ rfl rfl (fun a w' hf hC hn => (iwanted_no rfl)) (fun _ _ => rfl) (fun a W hf hC hn => y_ldPIn (ρ := a.eval) (.tmp 0) (ad := ⟨pb, 0, none⟩) rfl (hf.ev (by kernel_rfl) h0) W (((blk_cell hC.1.pbh 0).trans rfl)))
   ·exact istep_q (d := 10) (.pointer (some ⟨ib, 0, none⟩)) ⟨some 10, _, _, _, _, none⟩ rfl rfl (fun a w' hf hC hn => (iwanted_no rfl)) (fun _ _ => rfl) (fun a W hf hC hn => y_ldPIn (ρ := a.eval) (.tmp 0) (ad := ⟨pb, 0, none⟩) rfl (hf.ev (by kernel_rfl) h0) W (((blk_cell hC.1.pbh 0).trans rfl)))
   ·exact istep_q (d := 10) (.pointer (some ⟨ib, 0, none⟩)) ⟨some 10, _, _, _, _, none⟩ rfl rfl (fun a w' hf hC hn => (iwanted_no rfl)) (fun _ _ => rfl) (fun a W hf hC hn => y_ldPIn (ρ := a.eval) (.tmp 0) (ad := ⟨pb, 0, none⟩) rfl (hf.ev (by kernel_rfl) h0) W (((blk_cell hC.1.pbh 0).trans rfl)))
  case c9 => intro _ kst hkst; exact (List.not_mem_nil (show kst ∈ ([] : List Nat) from hkst)).elim
  case c10 =>
   intro _ kst hkst
   replace hkst : kst ∈ ([0, 1, 2, 3, 4, 5] : List Nat) := hkst
   simp only [List.mem_cons, List.not_mem_nil, or_false] at hkst
   rcases hkst with rfl | rfl | rfl | rfl | rfl | rfl
   ·exact istep_q (d := 12) (.pointer (some ⟨ib, 0, none⟩)) ⟨some 12, _, _, _, _, none⟩ rfl rfl (fun a w' hf hC hn => (iwanted_no rfl)) (fun _ _ => rfl) (fun a W hf hC hn => y_ldPIn (ρ := a.eval) (.tmp 0) (ad := ⟨pb, 0, none⟩) rfl (hf.ev (by kernel_rfl) h0) W (((blk_cell hC.1.pbh 0).trans rfl)))
   ·exact istep_q (d := 12) (.pointer (some ⟨ib, 0, none⟩)) ⟨some 12, _, _, _, _, none⟩ rfl rfl (fun a w' hf hC hn => (iwanted_no rfl)) (fun _ _ => rfl) (fun a W hf hC hn => y_ldPIn (ρ := a.eval) (.tmp 0) (ad := ⟨pb, 0, none⟩) rfl (hf.ev (by kernel_rfl) h0) W (((blk_cell hC.1.pbh 0).trans rfl)))
   ·exact istep_q (d := 12) (.pointer (some ⟨ib, 0, none⟩)) ⟨some 12, _, _, _, _, none⟩ rfl rfl (fun a w' hf hC hn => (iwanted_no rfl)) (fun _ _ => rfl) (fun a W hf hC hn => y_ldPIn (ρ := a.eval) (.tmp 0) (ad := ⟨pb, 0, none⟩) rfl (hf.ev (by kernel_rfl) h0) W (((blk_cell hC.1.pbh 0).trans rfl)))
   ·exact istep_q (d := 12) (.pointer (some ⟨ib, 0, none⟩)) ⟨some 12, _, _, _, _, none⟩ rfl rfl (fun a w' hf hC hn => (iwanted_no rfl)) (fun _ _ => rfl) (fun a W hf hC hn => y_ldPIn (ρ := a.eval) (.tmp 0) (ad := ⟨pb, 0, none⟩) rfl (hf.ev (by kernel_rfl) h0) W (((blk_cell hC.1.pbh 0).trans rfl)))
   ·exact istep_q (d := 12) (.pointer (some ⟨ib, 0, none⟩)) ⟨some 12, _, _, _, _, none⟩ rfl rfl (fun a w' hf hC hn => (iwanted_no rfl)) (fun _ _ => rfl) (fun a W hf hC hn => y_ldPIn (ρ := a.eval) (.tmp 0) (ad := ⟨pb, 0, none⟩) rfl (hf.ev (by kernel_rfl) h0) W (((blk_cell hC.1.pbh 0).trans rfl)))
   ·exact istep_q (d := 12) (.pointer (some ⟨ib, 0, none⟩)) ⟨some 12, _, _, _, _, none⟩ rfl rfl (fun a w' hf hC hn => (iwanted_no rfl)) (fun _ _ => rfl) (fun a W hf hC hn => y_ldPIn (ρ := a.eval) (.tmp 0) (ad := ⟨pb, 0, none⟩) rfl (hf.ev (by kernel_rfl) h0) W (((blk_cell hC.1.pbh 0).trans rfl)))
  case c11 => intro _ kst hkst; exact (List.not_mem_nil (show kst ∈ ([] : List Nat) from hkst)).elim
  case c12 =>
   intro _ kst hkst
   replace hkst : kst ∈ ([6] : List Nat) := hkst
   simp only [List.mem_cons, List.not_mem_nil, or_false] at hkst
   rcases hkst with rfl
   ·exact istep_q (d := 14) (.agg #[.int .i64 x0, .string q1, .string q2, .int .i64 x3, .int .i64 x4, .int .i64 x5]) ⟨some 14, _, _, _, _, none⟩ rfl rfl (fun a w' hf hC hn => (iwanted_no rfl)) (fun _ _ => rfl) (fun a W hf hC hn => y_bdMessage (ρ := a.eval) (.tmp 3) (.tmp 5) (.tmp 7) (.tmp 9) (.tmp 11) (.tmp 13) rfl (hn 1 (by decide)) (hn 3 (by decide)) (hn 5 (by decide)) (hn 7 (by decide)) (hn 9 (by decide)) (hn 11 (by decide)) rfl rfl rfl rfl rfl rfl W)
  case c13 => intro hne; exact absurd rfl hne
 ·show ∀ k, k < 6 -> _
  refine all_lt1 (all_lt1 (all_lt1 (all_lt1 (all_lt1 (all_lt1 (all_lt0) ?e1) ?e3) ?e5) ?e7) ?e9) ?e11
  case e1 =>
   show IStep2 _ _ _ _ _ _ (fun W => SDec w ib pb gb fb L0 W /\ W.heap[rb]? = some (.cells #[.int .i64 0, .string ⟨#[]⟩, .string ⟨#[]⟩, .int .i64 0, .int .i64 0, .int .i64 0] 50 (0, 0)) /\ Tch (FF ib gb) w1 W) (fun W => SDec w ib pb gb fb L1 W /\ W.heap[rb]? = some (.cells #[.int .i64 0, .string ⟨#[]⟩, .string ⟨#[]⟩, .int .i64 0, .int .i64 0, .int .i64 0] 50 (0, 0)) /\ Tch (FF ib gb) w1 W) _ _ _ _ _ 1
   refine istep_w2 (i := 1) ⟨some 3, _, _, _, _, none⟩ rfl (fun a w' hf hC hn => (iwanted_no rfl)) (fun a W hf hk hC hn K hK => ?_)
   refine w_call Tryz.func114 (by kernel_rfl) (by kernel_rfl) [.tmp 2] _ rfl [.pointer (some ⟨ib, 0, none⟩)] (map1 (hn 0 (by decide))) (HC0.out W hC.1) (fun e w' h => ?_)
   obtain ⟨he, hI, tI⟩ := h
   exact ⟨_, he, hK _ _ ⟨hI, blk_tch tI hC.2.1 (fun e => by have := HRB.out; rcases e with e | e <;> omega), hC.2.2.trans tI (fun _ _ e => e)⟩ rfl (by intro j hj h1 h2 h3; exfalso; revert j; decide)⟩
  case e3 =>
   show IStep2 _ _ _ _ _ _ (fun W => SDec w ib pb gb fb L1 W /\ W.heap[rb]? = some (.cells #[.int .i64 0, .string ⟨#[]⟩, .string ⟨#[]⟩, .int .i64 0, .int .i64 0, .int .i64 0] 50 (0, 0)) /\ Tch (FF ib gb) w1 W) (fun W => SDec w ib pb gb fb L2 W /\ W.heap[rb]? = some (.cells #[.int .i64 0, .string ⟨#[]⟩, .string ⟨#[]⟩, .int .i64 0, .int .i64 0, .int .i64 0] 50 (0, 0)) /\ Tch (FF ib gb) w1 W) _ _ _ _ _ 3
   refine istep_w2 (i := 3) ⟨some 5, _, _, _, _, none⟩ rfl (fun a w' hf hC hn => (iwanted_no rfl)) (fun a W hf hk hC hn K hK => ?_)
   refine w_call Tryz.func112 (by kernel_rfl) (by kernel_rfl) [.tmp 4] _ rfl [.pointer (some ⟨ib, 0, none⟩)] (map1 (hn 2 (by decide))) (HC1.out W hC.1) (fun e w' h => ?_)
   obtain ⟨he, hI, tI⟩ := h
   exact ⟨_, he, hK _ _ ⟨hI, blk_tch tI hC.2.1 (fun e => by have := HRB.out; rcases e with e | e <;> omega), hC.2.2.trans tI (fun _ _ e => e)⟩ rfl (by intro j hj h1 h2 h3; exfalso; revert j; decide)⟩
  case e5 =>
   show IStep2 _ _ _ _ _ _ (fun W => SDec w ib pb gb fb L2 W /\ W.heap[rb]? = some (.cells #[.int .i64 0, .string ⟨#[]⟩, .string ⟨#[]⟩, .int .i64 0, .int .i64 0, .int .i64 0] 50 (0, 0)) /\ Tch (FF ib gb) w1 W) (fun W => SDec w ib pb gb fb L3 W /\ W.heap[rb]? = some (.cells #[.int .i64 0, .string ⟨#[]⟩, .string ⟨#[]⟩, .int .i64 0, .int .i64 0, .int .i64 0] 50 (0, 0)) /\ Tch (FF ib gb) w1 W) _ _ _ _ _ 5
   refine istep_w2 (i := 5) ⟨some 7, _, _, _, _, none⟩ rfl (fun a w' hf hC hn => (iwanted_no rfl)) (fun a W hf hk hC hn K hK => ?_)
   refine w_call Tryz.func112 (by kernel_rfl) (by kernel_rfl) [.tmp 6] _ rfl [.pointer (some ⟨ib, 0, none⟩)] (map1 (hn 4 (by decide))) (HC2.out W hC.1) (fun e w' h => ?_)
   obtain ⟨he, hI, tI⟩ := h
   exact ⟨_, he, hK _ _ ⟨hI, blk_tch tI hC.2.1 (fun e => by have := HRB.out; rcases e with e | e <;> omega), hC.2.2.trans tI (fun _ _ e => e)⟩ rfl (by intro j hj h1 h2 h3; exfalso; revert j; decide)⟩
  case e7 =>
   show IStep2 _ _ _ _ _ _ (fun W => SDec w ib pb gb fb L3 W /\ W.heap[rb]? = some (.cells #[.int .i64 0, .string ⟨#[]⟩, .string ⟨#[]⟩, .int .i64 0, .int .i64 0, .int .i64 0] 50 (0, 0)) /\ Tch (FF ib gb) w1 W) (fun W => SDec w ib pb gb fb L4 W /\ W.heap[rb]? = some (.cells #[.int .i64 0, .string ⟨#[]⟩, .string ⟨#[]⟩, .int .i64 0, .int .i64 0, .int .i64 0] 50 (0, 0)) /\ Tch (FF ib gb) w1 W) _ _ _ _ _ 7
   refine istep_w2 (i := 7) ⟨some 9, _, _, _, _, none⟩ rfl (fun a w' hf hC hn => (iwanted_no rfl)) (fun a W hf hk hC hn K hK => ?_)
   refine w_call Tryz.func114 (by kernel_rfl) (by kernel_rfl) [.tmp 8] _ rfl [.pointer (some ⟨ib, 0, none⟩)] (map1 (hn 6 (by decide))) (HC3.out W hC.1) (fun e w' h => ?_)
   obtain ⟨he, hI, tI⟩ := h
   exact ⟨_, he, hK _ _ ⟨hI, blk_tch tI hC.2.1 (fun e => by have := HRB.out; rcases e with e | e <;> omega), hC.2.2.trans tI (fun _ _ e => e)⟩ rfl (by intro j hj h1 h2 h3; exfalso; revert j; decide)⟩
  case e9 =>
   show IStep2 _ _ _ _ _ _ (fun W => SDec w ib pb gb fb L4 W /\ W.heap[rb]? = some (.cells #[.int .i64 0, .string ⟨#[]⟩, .string ⟨#[]⟩, .int .i64 0, .int .i64 0, .int .i64 0] 50 (0, 0)) /\ Tch (FF ib gb) w1 W) (fun W => SDec w ib pb gb fb L5 W /\ W.heap[rb]? = some (.cells #[.int .i64 0, .string ⟨#[]⟩, .string ⟨#[]⟩, .int .i64 0, .int .i64 0, .int .i64 0] 50 (0, 0)) /\ Tch (FF ib gb) w1 W) _ _ _ _ _ 9
   refine istep_w2 (i := 9) ⟨some 11, _, _, _, _, none⟩ rfl (fun a w' hf hC hn => (iwanted_no rfl)) (fun a W hf hk hC hn K hK => ?_)
   refine w_call Tryz.func113 (by kernel_rfl) (by kernel_rfl) [.tmp 10] _ rfl [.pointer (some ⟨ib, 0, none⟩)] (map1 (hn 8 (by decide))) (HC4.out W hC.1) (fun e w' h => ?_)
   obtain ⟨he, hI, tI⟩ := h
   exact ⟨_, he, hK _ _ ⟨hI, blk_tch tI hC.2.1 (fun e => by have := HRB.out; rcases e with e | e <;> omega), hC.2.2.trans tI (fun _ _ e => e)⟩ rfl (by intro j hj h1 h2 h3; exfalso; revert j; decide)⟩
  case e11 =>
   show IStep2 _ _ _ _ _ _ (fun W => SDec w ib pb gb fb L5 W /\ W.heap[rb]? = some (.cells #[.int .i64 0, .string ⟨#[]⟩, .string ⟨#[]⟩, .int .i64 0, .int .i64 0, .int .i64 0] 50 (0, 0)) /\ Tch (FF ib gb) w1 W) (fun W => SDec w ib pb gb fb L6 W /\ W.heap[rb]? = some (.cells #[.int .i64 0, .string ⟨#[]⟩, .string ⟨#[]⟩, .int .i64 0, .int .i64 0, .int .i64 0] 50 (0, 0)) /\ Tch (FF ib gb) w1 W) _ _ _ _ _ 11
   refine istep_w2 (i := 11) ⟨some 13, _, _, _, _, none⟩ rfl (fun a w' hf hC hn => (iwanted_no rfl)) (fun a W hf hk hC hn K hK => ?_)
   refine w_call Tryz.func114 (by kernel_rfl) (by kernel_rfl) [.tmp 12] _ rfl [.pointer (some ⟨ib, 0, none⟩)] (map1 (hn 10 (by decide))) (HC5.out W hC.1) (fun e w' h => ?_)
   obtain ⟨he, hI, tI⟩ := h
   exact ⟨_, he, hK _ _ ⟨hI, blk_tch tI hC.2.1 (fun e => by have := HRB.out; rcases e with e | e <;> omega), hC.2.2.trans tI (fun _ _ e => e)⟩ rfl (by intro j hj h1 h2 h3; exfalso; revert j; decide)⟩
 ·refine last_by ⟨none, _, _, _, _, none⟩ rfl rfl (fun af wf hf hC hR K hK => ?_)
  replace hC : (fun W => SDec w ib pb gb fb L6 W /\ W.heap[rb]? = some (.cells #[.int .i64 0, .string ⟨#[]⟩, .string ⟨#[]⟩, .int .i64 0, .int .i64 0, .int .i64 0] 50 (0, 0)) /\ Tch (FF ib gb) w1 W) wf := hC
  obtain ⟨vs, hl, rfl⟩ := hf
  have hl : vs.length = 13 := hl
  obtain ⟨u0, vs0, hv0, hl⟩ := vs_cons hl
  obtain ⟨u1, vs1, hv1, hl⟩ := vs_cons hl
  obtain ⟨u2, vs2, hv2, hl⟩ := vs_cons hl
  obtain ⟨u3, vs3, hv3, hl⟩ := vs_cons hl
  obtain ⟨u4, vs4, hv4, hl⟩ := vs_cons hl
  obtain ⟨u5, vs5, hv5, hl⟩ := vs_cons hl
  obtain ⟨u6, vs6, hv6, hl⟩ := vs_cons hl
  obtain ⟨u7, vs7, hv7, hl⟩ := vs_cons hl
  obtain ⟨u8, vs8, hv8, hl⟩ := vs_cons hl
  obtain ⟨u9, vs9, hv9, hl⟩ := vs_cons hl
  obtain ⟨u10, vs10, hv10, hl⟩ := vs_cons hl
  obtain ⟨u11, vs11, hv11, hl⟩ := vs_cons hl
  obtain ⟨u12, vs12, hv12, hl⟩ := vs_cons hl
  have hvn := vs_nil hl
  have hvs : vs = [u0, u1, u2, u3, u4, u5, u6, u7, u8, u9, u10, u11, u12] := by rw [hv0, hv1, hv2, hv3, hv4, hv5, hv6, hv7, hv8, hv9, hv10, hv11, hv12, hvn]
  clear hvn hl hv0 hv1 hv2 hv3 hv4 hv5 hv6 hv7 hv8 hv9 hv10 hv11 hv12
  have e12 : (putAll fr [2, 3, 4, 5, 6, 7, 8, 9, 10, 11, 12, 13, 14] vs).eval (.tmp 14) = u12 := by rw [hvs]; exact putAll_get 12 (by decide) rfl rfl rfl (by rw [hsz]; decide)
  have r12 : u12 = .agg #[.int .i64 x0, .string q1, .string q2, .int .i64 x3, .int .i64 x4, .int .i64 x5] := by
   have h : (fun x _ => x = .agg #[.int .i64 x0, .string q1, .string q2, .int .i64 x3, .int .i64 x4, .int .i64 x5]) ((putAll fr [2, 3, 4, 5, 6, 7, 8, 9, 10, 11, 12, 13, 14] vs).eval (.tmp 14)) wf := hR 12 (by decide) (by decide) (by decide)
   rw [e12] at h
   exact h
  have ey : (putAll fr [2, 3, 4, 5, 6, 7, 8, 9, 10, 11, 12, 13, 14] vs).eval (.tmp 1) = .pointer (some ⟨rb, 0, none⟩) := (putAll_ev _ _ _ _ (by decide)).trans h1
  refine w_stMsg (.tmp 1) (.tmp 14) rfl rfl ey (e12.trans r12) rfl rfl rfl rfl rfl rfl hC.2.1 (fun z => hK _ _ ?_)
  obtain ⟨D6, B6, T6⟩ := hC
  obtain ⟨g1, g2⟩ := set6e (.int .i64 x0) (.string q1) (.string q2) (.int .i64 x3) (.int .i64 x4) (.int .i64 x5) B6
  obtain ⟨wz, hwz⟩ : ∃ x, (((((wf.setCell ⟨rb, 0, none⟩ (.int .i64 x0)).setCell ⟨rb, 1, none⟩ (.string q1)).setCell ⟨rb, 2, none⟩ (.string q2)).setCell ⟨rb, 3, none⟩ (.int .i64 x3)).setCell ⟨rb, 4, none⟩ (.int .i64 x4)).setCell ⟨rb, 5, none⟩ (.int .i64 x5) = x := ⟨_, rfl⟩
  rw [hwz] at g1 g2 ⊢
  clear hR hlist hK K e12 ey
  subst hvs
  have hfr2 := hfr.out
  subst hfr2
  simp only [putAll, Act.put, List.setIfInBounds_toArray, List.set_cons_succ, List.set_cons_zero]
  obtain ⟨qq0, qq1, qq2, qq3, qq4, qq5⟩ := kc6 g1
  have DF := Lib.hid (D6.keepF g2 (fun k e => by have := HRB.out; omega))
  have TF : Hid (Tch (FF ib gb) W wz) := (((T1.out.no.trans T6 (fun _ _ e => e))).trans0 (Tch.refl _ _)).trans g2 (fun k hk e => by have := HRB2.out; omega)
  clear g1 g2 hwz D6 B6 T6
  go_wp2_with fail
  refine bodyPost_ret (v := .agg #[.int .i64 x0, .string q1, .string q2, .int .i64 x3, .int .i64 x4, .int .i64 x5]) (by simp [results, Tryz.results116, go_sem, qq0, qq1, qq2, qq3, qq4, qq5]) rfl ?_
  exact ⟨rfl, DF.out, TF.out⟩
end
section
open Go.RowKit Go.Maps
theorem dbranch_any (w : World) (ib pb gb fb : Nat) (m : BrM) (hok : OkRec (recBr m)) (hb : recB (recBr m) = true) (hl : (encRecM (recBr m)).length < 65536) (rest : List UInt8) (W : World) (h : SDec w ib pb gb fb (textM (encRecM (recBr m)) ++ rest) W) :
  Calls Tryz.prog 118 #[.pointer (some ⟨fb, 0, none⟩)] W fun e w' => ∃ a n c, e = .returned (.agg #[.int .i64 m.tid, .slice a n c]) /\ (∀ W2, Tch (fun k => k < W.heap.size) w' W2 -> IsPuts W2 (.slice a n c) m.puts) /\ SDec w ib pb gb fb rest w' /\ Tch (FF ib gb) W w' := by
 have HS := Lib.hid h
 have hbs := h.lt
 obtain ⟨rb, hrb⟩ : ∃ x, W.heap.size = x := ⟨_, rfl⟩
 obtain ⟨W1, hW1⟩ : ∃ x, W.alloc (.cells #[.int .i64 0, .slice none 0 0] 81) = x := ⟨_, rfl⟩
 have HB1 : Hid (W1.heap[rb]? = some (.cells #[.int .i64 0, .slice none 0 0] 81 (0, 0))) := by rw [Hid, <- hW1, <- hrb]; exact blk_new W _
 have T1 : Hid (Tch No W W1) := by rw [Hid, <- hW1]; exact Tch.alloc _ _
 have HRB : Hid (W.heap.size = rb /\ rb < W1.heap.size) := ⟨hrb, blk_lt HB1.out⟩
 have S1 := Lib.hid (HS.out.keep T1.out)
 have HF := Lib.hid (sframe_any w ib pb gb fb (recBr m) hb hok hl rest W1 S1.out)
 have f1 : W1.cell? ⟨fb, 0, none⟩ = some (.func (.func 110) #[] #[.pointer (some ⟨pb, 0, none⟩), .pointer (some ⟨gb, 0, none⟩)]) := (blk_cell S1.out.fbh 0).trans rfl
 have HLT := Lib.hid hbs
 obtain ⟨x0, x1⟩ := m
 simp only [recBr] at HF
 clear h hb hok hbs
 go_enter Tryz.func118, Tryz.ntmps118
 go_wp2_with fail
 clear hW1 hrb
 refine HF.out.mono ?_
 rintro e w2 ⟨a, n, c, a', n', c', rfl, q2, s2, t2⟩
 have Q2 := Lib.hid q2
 have S2 := Lib.hid s2
 have T2 := Lib.hid t2
 clear q2 s2 t2 f1 HF
 have HB2 := Lib.hid (blk_tch T2.out HB1.out (fun e => by have h1 := HLT.out; have h2 := HRB.out; rcases e with e | e <;> omega))
 obtain ⟨w3, hw3⟩ : ∃ x, w2.alloc (.cells #[.int .i64 4, .int .i64 x0, .int .i64 0, .bool false, .slice a n c, .slice a' n' c'] 37) = x := ⟨_, rfl⟩
 have T3 : Hid (Tch No w2 w3) := by rw [Hid, <- hw3]; exact Tch.alloc _ _
 have HB3 := Lib.hid (blk_tch T3.out HB2.out (fun h => h))
 obtain ⟨wz, hwz, HRZ, TZ⟩ : ∃ V, (w3.setCell ⟨rb, 0, none⟩ (.int .i64 x0)).setCell ⟨rb, 1, none⟩ (.slice a' n' c') = V /\ Hid (V.heap[rb]? = some (.cells #[.int .i64 x0, .slice a' n' c'] 81 (0, 0))) /\ Hid (Tch (fun k => k = rb) w3 V) :=
  ⟨_, rfl, by rw [Hid]; simpa using blk_set (blk_set HB3.out 0 (.int .i64 x0)) 1 (.slice a' n' c'), Tch.setCells (F := fun k => k = rb) (b := rb) rfl [.int .i64 x0, .slice a' n' c'] 0 w3⟩
 obtain ⟨r0, r1⟩ := kc2 HB3.out
 obtain ⟨g0, g1⟩ := kf2 HB3.out
 have HW3 := Lib.hid hw3
 have e0 := box_cell w2 #[.int .i64 4, .int .i64 x0, .int .i64 0, .bool false, .slice a n c, .slice a' n' c'] 37 1 (by simp)
 have e1 := box_cell w2 #[.int .i64 4, .int .i64 x0, .int .i64 0, .bool false, .slice a n c, .slice a' n' c'] 37 5 (by simp)
 simp only [List.getElem_toArray, List.getElem_cons_zero, List.getElem_cons_succ] at e0 e1
 rw [hw3] at e0 e1
 go_wp2_with fail
 obtain ⟨q0, q1⟩ := kc2 HRZ.out
 refine bodyPost_ret (v := .agg #[.int .i64 x0, .slice a' n' c']) (by simp [results, Tryz.results118, go_sem, q0, q1]) rfl ?_
 have hS : SDec w ib pb gb fb rest wz := (S2.out.keep T3.out).keepF TZ.out (fun k e => by have h1 := HLT.out; have h2 := HRB.out; omega)
 have hT : Tch (FF ib gb) W wz := ((T1.out.no.trans T2.out (fun _ _ e => e)).trans0 T3.out).trans TZ.out (fun k hk e => by have h2 := HRB.out; omega)
 exact ⟨_, _, _, rfl, fun W2 t => (Q2.out W2 ((T3.out.no.trans TZ.out (fun k _ e => by have h2 := HRB.out; omega)).trans t (fun k _ e => by have h2 := HRB.out; omega))).2, hS, hT⟩
theorem dend_any (w : World) (ib pb gb fb : Nat) (m : EndM) (hok : OkRec (recEnd m)) (hb : recB (recEnd m) = true) (hl : (encRecM (recEnd m)).length < 65536) (rest : List UInt8) (W : World) (h : SDec w ib pb gb fb (textM (encRecM (recEnd m)) ++ rest) W) :
  Calls Tryz.prog 120 #[.pointer (some ⟨fb, 0, none⟩)] W fun e w' => e = .returned (.agg #[.int .i64 m.tid, .bool m.yes]) /\ SDec w ib pb gb fb rest w' /\ Tch (FF ib gb) W w' := by
 have HS := Lib.hid h
 have hbs := h.lt
 obtain ⟨rb, hrb⟩ : ∃ x, W.heap.size = x := ⟨_, rfl⟩
 obtain ⟨W1, hW1⟩ : ∃ x, W.alloc (.cells #[.int .i64 0, .bool false] 59) = x := ⟨_, rfl⟩
 have HB1 : Hid (W1.heap[rb]? = some (.cells #[.int .i64 0, .bool false] 59 (0, 0))) := by rw [Hid, <- hW1, <- hrb]; exact blk_new W _
 have T1 : Hid (Tch No W W1) := by rw [Hid, <- hW1]; exact Tch.alloc _ _
 have HRB : Hid (W.heap.size = rb /\ rb < W1.heap.size) := ⟨hrb, blk_lt HB1.out⟩
 have S1 := Lib.hid (HS.out.keep T1.out)
 have HF := Lib.hid (sframe_any w ib pb gb fb (recEnd m) hb hok hl rest W1 S1.out)
 have f1 : W1.cell? ⟨fb, 0, none⟩ = some (.func (.func 110) #[] #[.pointer (some ⟨pb, 0, none⟩), .pointer (some ⟨gb, 0, none⟩)]) := (blk_cell S1.out.fbh 0).trans rfl
 have HLT := Lib.hid hbs
 obtain ⟨x0, x1⟩ := m
 simp only [recEnd] at HF
 clear h hb hok hbs
 go_enter Tryz.func120, Tryz.ntmps120
 go_wp2_with fail
 clear hW1 hrb
 refine HF.out.mono ?_
 rintro e w2 ⟨a, n, c, a', n', c', rfl, q2, s2, t2⟩
 have Q2 := Lib.hid q2
 have S2 := Lib.hid s2
 have T2 := Lib.hid t2
 clear q2 s2 t2 f1 HF
 have HB2 := Lib.hid (blk_tch T2.out HB1.out (fun e => by have h1 := HLT.out; have h2 := HRB.out; rcases e with e | e <;> omega))
 obtain ⟨w3, hw3⟩ : ∃ x, w2.alloc (.cells #[.int .i64 5, .int .i64 x0, .int .i64 0, .bool x1, .slice a n c, .slice a' n' c'] 37) = x := ⟨_, rfl⟩
 have T3 : Hid (Tch No w2 w3) := by rw [Hid, <- hw3]; exact Tch.alloc _ _
 have HB3 := Lib.hid (blk_tch T3.out HB2.out (fun h => h))
 obtain ⟨wz, hwz, HRZ, TZ⟩ : ∃ V, (w3.setCell ⟨rb, 0, none⟩ (.int .i64 x0)).setCell ⟨rb, 1, none⟩ (.bool x1) = V /\ Hid (V.heap[rb]? = some (.cells #[.int .i64 x0, .bool x1] 59 (0, 0))) /\ Hid (Tch (fun k => k = rb) w3 V) :=
  ⟨_, rfl, by rw [Hid]; simpa using blk_set (blk_set HB3.out 0 (.int .i64 x0)) 1 (.bool x1), Tch.setCells (F := fun k => k = rb) (b := rb) rfl [.int .i64 x0, .bool x1] 0 w3⟩
 obtain ⟨r0, r1⟩ := kc2 HB3.out
 obtain ⟨g0, g1⟩ := kf2 HB3.out
 have HW3 := Lib.hid hw3
 have e0 := box_cell w2 #[.int .i64 5, .int .i64 x0, .int .i64 0, .bool x1, .slice a n c, .slice a' n' c'] 37 1 (by simp)
 have e1 := box_cell w2 #[.int .i64 5, .int .i64 x0, .int .i64 0, .bool x1, .slice a n c, .slice a' n' c'] 37 3 (by simp)
 simp only [List.getElem_toArray, List.getElem_cons_zero, List.getElem_cons_succ] at e0 e1
 rw [hw3] at e0 e1
 go_wp2_with fail
 obtain ⟨q0, q1⟩ := kc2 HRZ.out
 refine bodyPost_ret (v := .agg #[.int .i64 x0, .bool x1]) (by simp [results, Tryz.results120, go_sem, q0, q1]) rfl ?_
 have hS : SDec w ib pb gb fb rest wz := (S2.out.keep T3.out).keepF TZ.out (fun k e => by have h1 := HLT.out; have h2 := HRB.out; omega)
 have hT : Tch (FF ib gb) W wz := ((T1.out.no.trans T2.out (fun _ _ e => e)).trans0 T3.out).trans TZ.out (fun k hk e => by have h2 := HRB.out; omega)
 exact ⟨rfl, hS, hT⟩
theorem dpend_any (w : World) (ib pb gb fb : Nat) (m : PendM) (hok : OkRec (recPend m)) (hb : recB (recPend m) = true) (hl : (encRecM (recPend m)).length < 65536) (rest : List UInt8) (W : World) (h : SDec w ib pb gb fb (textM (encRecM (recPend m)) ++ rest) W) :
  Calls Tryz.prog 121 #[.pointer (some ⟨fb, 0, none⟩)] W fun e w' => ∃ a n c, e = .returned (.agg #[.int .i64 m.tid, .slice a n c]) /\ (∀ W2, Tch (fun k => k < W.heap.size) w' W2 -> IsInts W2 (.slice a n c) m.parts) /\ SDec w ib pb gb fb rest w' /\ Tch (FF ib gb) W w' := by
 have HS := Lib.hid h
 have hbs := h.lt
 obtain ⟨rb, hrb⟩ : ∃ x, W.heap.size = x := ⟨_, rfl⟩
 obtain ⟨W1, hW1⟩ : ∃ x, W.alloc (.cells #[.int .i64 0, .slice none 0 0] 63) = x := ⟨_, rfl⟩
 have HB1 : Hid (W1.heap[rb]? = some (.cells #[.int .i64 0, .slice none 0 0] 63 (0, 0))) := by rw [Hid, <- hW1, <- hrb]; exact blk_new W _
 have T1 : Hid (Tch No W W1) := by rw [Hid, <- hW1]; exact Tch.alloc _ _
 have HRB : Hid (W.heap.size = rb /\ rb < W1.heap.size) := ⟨hrb, blk_lt HB1.out⟩
 have S1 := Lib.hid (HS.out.keep T1.out)
 have HF := Lib.hid (sframe_any w ib pb gb fb (recPend m) hb hok hl rest W1 S1.out)
 have f1 : W1.cell? ⟨fb, 0, none⟩ = some (.func (.func 110) #[] #[.pointer (some ⟨pb, 0, none⟩), .pointer (some ⟨gb, 0, none⟩)]) := (blk_cell S1.out.fbh 0).trans rfl
 have HLT := Lib.hid hbs
 obtain ⟨x0, x1⟩ := m
 simp only [recPend] at HF
 clear h hb hok hbs
 go_enter Tryz.func121, Tryz.ntmps121
 go_wp2_with fail
 clear hW1 hrb
 refine HF.out.mono ?_
 rintro e w2 ⟨a, n, c, a', n', c', rfl, q2, s2, t2⟩
 have Q2 := Lib.hid q2
 have S2 := Lib.hid s2
 have T2 := Lib.hid t2
 clear q2 s2 t2 f1 HF
 have HB2 := Lib.hid (blk_tch T2.out HB1.out (fun e => by have h1 := HLT.out; have h2 := HRB.out; rcases e with e | e <;> omega))
 obtain ⟨w3, hw3⟩ : ∃ x, w2.alloc (.cells #[.int .i64 6, .int .i64 x0, .int .i64 0, .bool false, .slice a n c, .slice a' n' c'] 37) = x := ⟨_, rfl⟩
 have T3 : Hid (Tch No w2 w3) := by rw [Hid, <- hw3]; exact Tch.alloc _ _
 have HB3 := Lib.hid (blk_tch T3.out HB2.out (fun h => h))
 obtain ⟨wz, hwz, HRZ, TZ⟩ : ∃ V, (w3.setCell ⟨rb, 0, none⟩ (.int .i64 x0)).setCell ⟨rb, 1, none⟩ (.slice a n c) = V /\ Hid (V.heap[rb]? = some (.cells #[.int .i64 x0, .slice a n c] 63 (0, 0))) /\ Hid (Tch (fun k => k = rb) w3 V) :=
  ⟨_, rfl, by rw [Hid]; simpa using blk_set (blk_set HB3.out 0 (.int .i64 x0)) 1 (.slice a n c), Tch.setCells (F := fun k => k = rb) (b := rb) rfl [.int .i64 x0, .slice a n c] 0 w3⟩
 obtain ⟨r0, r1⟩ := kc2 HB3.out
 obtain ⟨g0, g1⟩ := kf2 HB3.out
 have HW3 := Lib.hid hw3
 have e0 := box_cell w2 #[.int .i64 6, .int .i64 x0, .int .i64 0, .bool false, .slice a n c, .slice a' n' c'] 37 1 (by simp)
 have e1 := box_cell w2 #[.int .i64 6, .int .i64 x0, .int .i64 0, .bool false, .slice a n c, .slice a' n' c'] 37 4 (by simp)
 simp only [List.getElem_toArray, List.getElem_cons_zero, List.getElem_cons_succ] at e0 e1
 rw [hw3] at e0 e1
 go_wp2_with fail
 obtain ⟨q0, q1⟩ := kc2 HRZ.out
 refine bodyPost_ret (v := .agg #[.int .i64 x0, .slice a n c]) (by simp [results, Tryz.results121, go_sem, q0, q1]) rfl ?_
 have hS : SDec w ib pb gb fb rest wz := (S2.out.keep T3.out).keepF TZ.out (fun k e => by have h1 := HLT.out; have h2 := HRB.out; omega)
 have hT : Tch (FF ib gb) W wz := ((T1.out.no.trans T2.out (fun _ _ e => e)).trans0 T3.out).trans TZ.out (fun k hk e => by have h2 := HRB.out; omega)
 exact ⟨_, _, _, rfl, fun W2 t => (Q2.out W2 ((T3.out.no.trans TZ.out (fun k _ e => by have h2 := HRB.out; omega)).trans t (fun k _ e => by have h2 := HRB.out; omega))).1, hS, hT⟩
end
end Go.Proofs.YtfedhcnmdmhppaaGreat
