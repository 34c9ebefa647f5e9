/- Part 24 of what the proof of OrderRoom rests on. No condition. -/
import Derived.Test.YtfedhcnmdmhppaaGreatPOrderRoom18
import Derived.Test.YtfedhcnmdmhppaaGreatPOrderRoom23
namespace Go.Proofs.YtfedhcnmdmhppaaGreat
set_option maxRecDepth 100000
set_option maxHeartbeats 60000000
set_option linter.unusedVariables false
set_option linter.unusedSimpArgs false
section
open Go.RowKit Go.Maps
theorem sencode_any (s : StM) (hok : OkSt s) (hlen : (encStM s).length <= 800000) (v : Value) (w : World) (h : IsSt w v s) :
  Calls Tryz.prog 43 #[v] w fun e w' => Tch No w w' /\ ((mayM s = false /\ e = .returned (.slice none 0 0)) ∨ (mayM s = true /\ ∃ v', e = .returned v' /\ SlB w' v' (encStM s) /\ v' ≠ .slice none 0 0 /\ ∀ k, v'.ownBlock = some k -> w.heap.size <= k)) := by
 have HMY := Lib.hid (fun W h => may_any s hok v W h)
 have HST := Lib.hid h
 obtain ⟨vm, vw, ve, vo, vn, rfl, hm, hw, he, ho, hn⟩ := h
 obtain ⟨prw, qw1, qw2, qw3⟩ := brs_pairs.1 hw
 obtain ⟨pro, qo1, qo2, qo3⟩ := pends_pairs.1 ho
 obtain ⟨prn, qn1, qn2, qn3⟩ := pends_pairs.1 hn
 obtain ⟨am, cm, rfl, _, _⟩ := CellsAt.shape hm
 obtain ⟨aw, cw, rfl, _, _⟩ := CellsAt.shape qw2
 obtain ⟨ae, ce, rfl, _, _⟩ := CellsAt.shape he
 obtain ⟨ao, co, rfl, _, _⟩ := CellsAt.shape qo2
 obtain ⟨an, cn, rfl, _, _⟩ := CellsAt.shape qn2
 obtain ⟨brk, nid, nseq, tx, ms, waits, ends, opens, noes⟩ := s
 have HOK := Lib.hid hok
 have HLEN := Lib.hid hlen
 simp only at hm he qw1 qo1 qn1 ⊢
 clear hw ho hn hok hlen
 obtain ⟨nm, hnm⟩ : ∃ n, ms.length = n := ⟨_, rfl⟩
 obtain ⟨nw, hnw⟩ : ∃ n, prw.length = n := ⟨_, rfl⟩
 obtain ⟨ne, hne⟩ : ∃ n, ends.length = n := ⟨_, rfl⟩
 obtain ⟨no, hno⟩ : ∃ n, pro.length = n := ⟨_, rfl⟩
 obtain ⟨nn, hnn⟩ : ∃ n, prn.length = n := ⟨_, rfl⟩
 have HMY2 : Hid (∀ W, Tch No w W -> Calls Tryz.prog 18 #[.agg #[.int .i64 brk, .int .i64 nid, .int .i64 nseq, .int .i64 tx, .slice am nm cm, .slice aw nw cw, .slice ae ne ce, .slice ao no co, .slice an nn cn]] W fun e w' => e = .returned (.bool (mayM ⟨brk, nid, nseq, tx, ms, waits, ends, opens, noes⟩)) /\ Tch No W w') := fun W t => by
  have := HMY.out W (HST.out.keep t)
  simp only [hnm, hnw, hne, hno, hnn] at this
  exact this
 clear HMY HST
 have HM := Lib.hid hm
 have HW := Lib.hid qw2
 have HE := Lib.hid he
 have HO := Lib.hid qo2
 have HN := Lib.hid qn2
 have HW3 := Lib.hid qw3
 have HO3 := Lib.hid qo3
 have HN3 := Lib.hid qn3
 have HW1 := Lib.hid qw1
 have HO1 := Lib.hid qo1
 have HN1 := Lib.hid qn1
 unfold IsMsgs at HM
 unfold IsEnds at HE
 unfold IsL at HW HO HN
 rw [hnm] at HM ⊢
 rw [hnw] at HW ⊢
 rw [hne] at HE ⊢
 rw [hno] at HO ⊢
 rw [hnn] at HN ⊢
 have HNM := Lib.hid hnm
 have HNW := Lib.hid hnw
 have HNE := Lib.hid hne
 have HNO := Lib.hid hno
 have HNN := Lib.hid hnn
 clear hm he qw1 qo1 qn1 qw2 qo2 qn2 qw3 qo3 qn3 hnm hnw hne hno hnn
 cases hb : mayM ⟨brk, nid, nseq, tx, ms, waits, ends, opens, noes⟩ with
 | false =>
  rw [hb] at HMY2
  clear hb
  go_enter Tryz.func43, Tryz.ntmps43
  go_wp2_with fail
  refine (HMY2.out _ (Tch.alloc _ _)).mono ?_
  rintro e w1 ⟨rfl, T1⟩
  go_wp2_with fail
  go_ret
  exact ⟨(Tch.alloc _ _).trans0 T1, .inl ⟨trivial, rfl⟩⟩
 | true =>
 rw [hb] at HMY2
 have HP := Lib.hid ((may_iff _).1 hb)
 clear hb
 obtain ⟨sb, hsb⟩ : ∃ x, w.heap.size = x := ⟨_, rfl⟩
 go_enter Tryz.func43, Tryz.ntmps43
 go_wp2_with fail
 refine (HMY2.out _ (Tch.alloc _ _)).mono ?_
 rintro e w1 ⟨rfl, T1⟩
 have HSB : Hid (w1.heap[sb]? = some (.cells #[.int .i64 brk, .int .i64 nid, .int .i64 nseq, .int .i64 tx, .slice am nm cm, .slice aw nw cw, .slice ae ne ce, .slice ao no co, .slice an nn cn] 27 (0, 0))) := by rw [<- hsb]; exact blk_tch T1 (blk_new w _) (fun h => h)
 have TW1 : Hid (Tch No w w1) := (Tch.alloc _ _).trans0 T1
 try rw [hsb]
 have HSBW := Lib.hid hsb
 clear T1 hsb HMY2
 obtain ⟨ob, hob⟩ : ∃ x, w1.heap.size = x := ⟨_, rfl⟩
 have HOB := Lib.hid hob
 obtain ⟨wA, hwA⟩ : ∃ x, w1.alloc (.cells #[.slice none 0 0] 146) = x := ⟨_, rfl⟩
 have hsA : wA.heap.size = ob + 1 := by rw [<- hwA, <- hob]; simp
 obtain ⟨K, hK⟩ : ∃ K : Nat -> Prop, K = fun k => k < ob ∨ k = ob + 1 := ⟨_, rfl⟩
 have h1 : ∀ x, IsOut (wA.alloc (.cells #[x] 144)) ob (.slice none 0 0) [] := fun x => by
  rw [<- hwA, <- hob]; exact (IsOut.made w1).tch (Tch.alloc _ _) (fun _ _ h => h)
 obtain ⟨w3, hw3⟩ : ∃ x, wA.alloc (.cells #[.pointer (some ⟨ob, 0, none⟩)] 144) = x := ⟨_, rfl⟩
 have hs3 : w3.heap.size = ob + 2 := by rw [<- hw3]; simp [hsA]
 have O1 : Hid (OutK K w3 ob [] w3) := ⟨⟨_, by rw [<- hw3]; exact h1 _, fun k hk => by simp [Value.ownBlock] at hk⟩, Tch.refl _ _, by rw [hK]; show ¬ (ob < ob ∨ ob = ob + 1); omega, fun k hk => by rw [hK] at hk; have hk : k < ob ∨ k = ob + 1 := hk; omega⟩
 have HKK : Hid (K (ob + 1) /\ ∀ k, k < w1.heap.size -> K k) := by rw [hK, hob]; exact ⟨.inr rfl, fun k hk => .inl hk⟩
 have TW3 : Hid (Tch No w1 w3) := by rw [Hid, <- hw3, <- hwA]; exact (Tch.alloc _ _).trans0 (Tch.alloc _ _)
 have HPB1 : Hid (w3.cell? ⟨ob + 1, 0, none⟩ = some (.pointer (some ⟨ob, 0, none⟩))) := by
  rw [Hid, <- hw3, <- hsA]; exact box_cell wA _ _ 0 (by simp)
 have HPB : Hid (∀ bs' W, OutK K w3 ob bs' W -> W.cell? ⟨ob + 1, 0, none⟩ = some (.pointer (some ⟨ob, 0, none⟩))) := fun bs' W hh => hh.cell HKK.out.1 HPB1.out
 have HSL : Hid (sb < ob) := by rw [<- hob]; exact blk_lt HSB.out
 have HBX : Hid (∀ bs' W, OutK K w3 ob bs' W -> ∀ i (hi : i < (#[.int .i64 brk, .int .i64 nid, .int .i64 nseq, .int .i64 tx, .slice am nm cm, .slice aw nw cw, .slice ae ne ce, .slice ao no co, .slice an nn cn] : Array Value).size), W.cell? ⟨sb, i, none⟩ = some ((#[.int .i64 brk, .int .i64 nid, .int .i64 nseq, .int .i64 tx, .slice am nm cm, .slice aw nw cw, .slice ae ne ce, .slice ao no co, .slice an nn cn] : Array Value)[i])) := fun bs' W hh i hi => hh.cell (HKK.out.2 _ (by rw [HOB.out]; exact HSL.out)) (TW3.out.cell ((blk_cell HSB.out i).trans (Array.getElem?_eq_getElem hi)) (fun h => h))
 obtain ⟨L1, hL1⟩ : ∃ x, ms.flatMap encMsgM = x := ⟨_, rfl⟩
 obtain ⟨L2, hL2⟩ : ∃ x, waits.flatMap encBrM = x := ⟨_, rfl⟩
 obtain ⟨L3, hL3⟩ : ∃ x, ends.flatMap encEndM = x := ⟨_, rfl⟩
 obtain ⟨L4, hL4⟩ : ∃ x, opens.flatMap encPendM = x := ⟨_, rfl⟩
 obtain ⟨L5, hL5⟩ : ∃ x, noes.flatMap encPendM = x := ⟨_, rfl⟩
 have HL1 := Lib.hid hL1; have HL2 := Lib.hid hL2; have HL3 := Lib.hid hL3; have HL4 := Lib.hid hL4; have HL5 := Lib.hid hL5
 have hWL : waits.length = nw := by rw [<- HW1.out, List.length_map, HNW.out]
 have hOL : opens.length = no := by rw [<- HO1.out, List.length_map, HNO.out]
 have hNL : noes.length = nn := by rw [<- HN1.out, List.length_map, HNN.out]
 have HES : Hid (encStM ⟨brk, nid, nseq, tx, ms, waits, ends, opens, noes⟩ = [] ++ leBytes 2 brk.toNat ++ leBytes 8 (u64of nid) ++ leBytes 8 (u64of nseq) ++ leBytes 8 (u64of tx) ++ leBytes 2 nm ++ L1 ++ leBytes 2 nw ++ L2 ++ leBytes 2 ne ++ L3 ++ leBytes 2 no ++ L4 ++ leBytes 2 nn ++ L5) := by
  simp only [Hid, encStM, listM, hL1, hL2, hL3, hL4, hL5, hWL, hOL, hNL, HNM.out, HNE.out, List.nil_append, List.append_assoc]
 have hLT : L1.length + L2.length + L3.length + L4.length + L5.length <= 800000 := by
  have := HLEN.out
  rw [HES.out] at this
  simp only [List.length_append, leBytes_length, List.length_nil] at this
  omega
 have hNM : nm <= 72 := by have := HP.out.lms; have := HNM.out; simp only at *; omega
 have hNW2 : nw <= 2000 := by have := HP.out.lw; simp only at *; omega
 have hNE2 : ne <= 2000 := by have := HP.out.le; have := HNE.out; simp only at *; omega
 have hNO2 : no <= 2000 := by have := HP.out.lo; simp only at *; omega
 have hNN2 : nn <= 2000 := by have := HP.out.ln; simp only at *; omega
 have HWL := Lib.hid hWL; have HOL := Lib.hid hOL; have HNL := Lib.hid hNL
 have HBR : Hid (1 <= brk /\ brk <= 8) := HP.out.br
 have HT13 : Hid (Tch No w w3) := TW1.out.trans0 TW3.out
 have HK0 : Hid (∀ k, k < w.heap.size -> K k) := fun k hk => HKK.out.2 k (Nat.lt_of_lt_of_le hk TW1.out.size)
 clear hL1 hL2 hL3 hL4 hL5 hWL hOL hNL h1 hs3 hK
 have p1 := HPB.out _ _ O1.out
 have s1 := HBX.out _ _ O1.out 0 (by simp)
 simp only [List.getElem_toArray, List.getElem_cons_zero, List.getElem_cons_succ] at s1
 have t0 := TW1.out
 go_wp2_with fail
 try rw [hwA]
 clear hwA hw3 t0 hob hsA
 refine (O1.out.smallz (by (try simp only [List.length_append, leBytes_length, List.length_nil]); omega) brk (by have := HBR.out; omega) (by have := HBR.out; omega)).mono ?_
 rintro e w5 ⟨rfl, o2⟩
 have O2 := Lib.hid o2
 clear o2 s1 p1
 have p2 := HPB.out _ _ O2.out
 have s2 := HBX.out _ _ O2.out 1 (by simp)
 simp only [List.getElem_toArray, List.getElem_cons_zero, List.getElem_cons_succ] at s2
 go_wp2_with fail
 refine (O2.out.long (by (try simp only [List.length_append, leBytes_length, List.length_nil]); omega) nid HOK.out.nid).mono ?_
 rintro e w6 ⟨rfl, o3⟩
 have O3 := Lib.hid o3
 clear o3 s2 p2
 have p3 := HPB.out _ _ O3.out
 have s3 := HBX.out _ _ O3.out 2 (by simp)
 simp only [List.getElem_toArray, List.getElem_cons_zero, List.getElem_cons_succ] at s3
 go_wp2_with fail
 refine (O3.out.long (by (try simp only [List.length_append, leBytes_length, List.length_nil]); omega) nseq HOK.out.nseq).mono ?_
 rintro e w7 ⟨rfl, o4⟩
 have O4 := Lib.hid o4
 clear o4 s3 p3
 have p4 := HPB.out _ _ O4.out
 have s4 := HBX.out _ _ O4.out 3 (by simp)
 simp only [List.getElem_toArray, List.getElem_cons_zero, List.getElem_cons_succ] at s4
 go_wp2_with fail
 refine (O4.out.long (by (try simp only [List.length_append, leBytes_length, List.length_nil]); omega) tx HOK.out.tx).mono ?_
 rintro e w8 ⟨rfl, o5⟩
 have O5 := Lib.hid o5
 clear o5 s4 p4
 have p5 := HPB.out _ _ O5.out
 have s5 := HBX.out _ _ O5.out 4 (by simp)
 simp only [List.getElem_toArray, List.getElem_cons_zero, List.getElem_cons_succ] at s5
 go_wp2_with fail
 have HC0 := Lib.hid (slist_msg K w w3 ob 127 #[.pointer (some ⟨ob + 1, 0, none⟩)] (enters_of Tryz.func127 rfl rfl) ms nm HNM.out (by omega) (fun k => ([] ++ leBytes 2 brk.toNat ++ leBytes 8 (u64of nid) ++ leBytes 8 (u64of nseq) ++ leBytes 8 (u64of tx) ++ leBytes 2 nm) ++ (ms.take k).flatMap encMsgM) HK0.out HT13.out (fun k hk W hW => by
  rw [take_flat_succ encMsgM ms k hk]
  exact enc1_any K w3 ob (ob + 1) HKK.out.1 HPB1.out ms[k] (msgSz (HOK.out.ms _ (List.getElem_mem hk)) (HP.out.ms _ (List.getElem_mem hk))) _ (by have := take_flat_len encMsgM ms k; rw [HL1.out] at this; simp only [List.length_append, leBytes_length, List.length_nil]; omega) W hW) _ (by simp only [List.length_append, leBytes_length, List.length_nil]; omega) (by simp) _ _ HM.out O5.out)
 clear s5 p5 O5
 refine HC0.out.mono ?_
 rintro e w9 ⟨rfl, o6⟩
 have O6 : Hid (OutK K w3 ob ([] ++ leBytes 2 brk.toNat ++ leBytes 8 (u64of nid) ++ leBytes 8 (u64of nseq) ++ leBytes 8 (u64of tx) ++ leBytes 2 nm ++ L1) w9) := by
  have e : ms.take nm = ms := by rw [<- HNM.out, List.take_length]
  simp only [e, HL1.out] at o6
  exact o6
 clear o6 HC0
 have p6 := HPB.out _ _ O6.out
 have s6 := HBX.out _ _ O6.out 5 (by simp)
 simp only [List.getElem_toArray, List.getElem_cons_zero, List.getElem_cons_succ] at s6
 go_wp2_with fail
 have HSQ1 : Hid (∀ x ∈ prw, ∃ a n c, x.2 = .slice a n c) := fun x hx => by
  obtain ⟨a, c, e, _⟩ := CellsAt.shape (HW3.out x hx)
  exact ⟨a, _, c, e⟩
 have HC1 := Lib.hid (slist_br K w w3 ob 130 #[.pointer (some ⟨ob + 1, 0, none⟩)] (enters_of Tryz.func130 rfl rfl) prw nw HNW.out (by omega) (fun k => ([] ++ leBytes 2 brk.toNat ++ leBytes 8 (u64of nid) ++ leBytes 8 (u64of nseq) ++ leBytes 8 (u64of tx) ++ leBytes 2 nm ++ L1 ++ leBytes 2 nw) ++ (waits.take k).flatMap encBrM) HK0.out HT13.out HSQ1.out (fun k hk W hW => by
  have hk2 : k < waits.length := by rw [HWL.out]; have := HNW.out; omega
  obtain ⟨ea, en, ec, hsl⟩ := HSQ1.out _ (List.getElem_mem hk)
  show Calls _ _ #[.agg #[.int .i64 (prw[k].1).tid, prw[k].2], .pointer (some ⟨ob + 1, 0, none⟩)] W _
  rw [take_flat_succ encBrM waits k hk2, fst_get HW1.out hk hk2, hsl]
  exact enc2_any K w3 ob (ob + 1) HKK.out.1 HPB1.out waits[k] ea en ec (fun W t => by have h3 := HW3.out _ (List.getElem_mem hk); rw [fst_get HW1.out hk hk2, hsl] at h3; exact h3.keep (HT13.out.fresh t (fun q hq => Nat.le_of_not_lt (fun e => hq (HK0.out q e))))) (recBr_ok (HOK.out.waits _ (List.getElem_mem hk2))) (recBr_b (HP.out.waits _ (List.getElem_mem hk2))) (Nat.le_trans (encRec_len (recBr_b (HP.out.waits _ (List.getElem_mem hk2)))) (by decide)) _ (by have := take_flat_len encBrM waits k; rw [HL2.out] at this; simp only [List.length_append, leBytes_length, List.length_nil]; omega) W hW) _ (by simp only [List.length_append, leBytes_length, List.length_nil]; omega) (by simp) _ _ HW.out O6.out)
 clear s6 p6 O6
 refine HC1.out.mono ?_
 rintro e w10 ⟨rfl, o7⟩
 have O7 : Hid (OutK K w3 ob ([] ++ leBytes 2 brk.toNat ++ leBytes 8 (u64of nid) ++ leBytes 8 (u64of nseq) ++ leBytes 8 (u64of tx) ++ leBytes 2 nm ++ L1 ++ leBytes 2 nw ++ L2) w10) := by
  have e : waits.take nw = waits := by rw [<- HWL.out, List.take_length]
  simp only [e, HL2.out] at o7
  exact o7
 clear o7 HC1
 have p7 := HPB.out _ _ O7.out
 have s7 := HBX.out _ _ O7.out 6 (by simp)
 simp only [List.getElem_toArray, List.getElem_cons_zero, List.getElem_cons_succ] at s7
 go_wp2_with fail
 have HC2 := Lib.hid (slist_end K w w3 ob 133 #[.pointer (some ⟨ob + 1, 0, none⟩)] (enters_of Tryz.func133 rfl rfl) ends ne HNE.out (by omega) (fun k => ([] ++ leBytes 2 brk.toNat ++ leBytes 8 (u64of nid) ++ leBytes 8 (u64of nseq) ++ leBytes 8 (u64of tx) ++ leBytes 2 nm ++ L1 ++ leBytes 2 nw ++ L2 ++ leBytes 2 ne) ++ (ends.take k).flatMap encEndM) HK0.out HT13.out (fun k hk W hW => by
  rw [take_flat_succ encEndM ends k hk]
  exact enc3_any K w3 ob (ob + 1) HKK.out.1 HPB1.out ends[k] (recEnd_ok (HOK.out.ends _ (List.getElem_mem hk))) (recEnd_b (HP.out.ends _ (List.getElem_mem hk))) (Nat.le_trans (encRec_len (recEnd_b (HP.out.ends _ (List.getElem_mem hk)))) (by decide)) _ (by have := take_flat_len encEndM ends k; rw [HL3.out] at this; simp only [List.length_append, leBytes_length, List.length_nil]; omega) W hW) _ (by simp only [List.length_append, leBytes_length, List.length_nil]; omega) (by simp) _ _ HE.out O7.out)
 clear s7 p7 O7
 refine HC2.out.mono ?_
 rintro e w11 ⟨rfl, o8⟩
 have O8 : Hid (OutK K w3 ob ([] ++ leBytes 2 brk.toNat ++ leBytes 8 (u64of nid) ++ leBytes 8 (u64of nseq) ++ leBytes 8 (u64of tx) ++ leBytes 2 nm ++ L1 ++ leBytes 2 nw ++ L2 ++ leBytes 2 ne ++ L3) w11) := by
  have e : ends.take ne = ends := by rw [<- HNE.out, List.take_length]
  simp only [e, HL3.out] at o8
  exact o8
 clear o8 HC2
 have p8 := HPB.out _ _ O8.out
 have s8 := HBX.out _ _ O8.out 7 (by simp)
 simp only [List.getElem_toArray, List.getElem_cons_zero, List.getElem_cons_succ] at s8
 go_wp2_with fail
 have HSQ3 : Hid (∀ x ∈ pro, ∃ a n c, x.2 = .slice a n c) := fun x hx => by
  obtain ⟨a, c, e, _⟩ := CellsAt.shape (HO3.out x hx)
  exact ⟨a, _, c, e⟩
 have HC3 := Lib.hid (slist_pend K w w3 ob 134 #[.pointer (some ⟨ob + 1, 0, none⟩)] (enters_of Tryz.func134 rfl rfl) pro no HNO.out (by omega) (fun k => ([] ++ leBytes 2 brk.toNat ++ leBytes 8 (u64of nid) ++ leBytes 8 (u64of nseq) ++ leBytes 8 (u64of tx) ++ leBytes 2 nm ++ L1 ++ leBytes 2 nw ++ L2 ++ leBytes 2 ne ++ L3 ++ leBytes 2 no) ++ (opens.take k).flatMap encPendM) HK0.out HT13.out HSQ3.out (fun k hk W hW => by
  have hk2 : k < opens.length := by rw [HOL.out]; have := HNO.out; omega
  obtain ⟨ea, en, ec, hsl⟩ := HSQ3.out _ (List.getElem_mem hk)
  show Calls _ _ #[.agg #[.int .i64 (pro[k].1).tid, pro[k].2], .pointer (some ⟨ob + 1, 0, none⟩)] W _
  rw [take_flat_succ encPendM opens k hk2, fst_get HO1.out hk hk2, hsl]
  exact enc4_any K w3 ob (ob + 1) HKK.out.1 HPB1.out opens[k] ea en ec (fun W t => by have h3 := HO3.out _ (List.getElem_mem hk); rw [fst_get HO1.out hk hk2, hsl] at h3; exact h3.keep (HT13.out.fresh t (fun q hq => Nat.le_of_not_lt (fun e => hq (HK0.out q e))))) (recPend_ok (HOK.out.opens _ (List.getElem_mem hk2))) (recPend_b HBR.out.1 (HP.out.opens _ (List.getElem_mem hk2)).1) (Nat.le_trans (encRec_len (recPend_b HBR.out.1 (HP.out.opens _ (List.getElem_mem hk2)).1)) (by decide)) _ (by have := take_flat_len encPendM opens k; rw [HL4.out] at this; simp only [List.length_append, leBytes_length, List.length_nil]; omega) W hW) _ (by simp only [List.length_append, leBytes_length, List.length_nil]; omega) (by simp) _ _ HO.out O8.out)
 clear s8 p8 O8
 refine HC3.out.mono ?_
 rintro e w12 ⟨rfl, o9⟩
 have O9 : Hid (OutK K w3 ob ([] ++ leBytes 2 brk.toNat ++ leBytes 8 (u64of nid) ++ leBytes 8 (u64of nseq) ++ leBytes 8 (u64of tx) ++ leBytes 2 nm ++ L1 ++ leBytes 2 nw ++ L2 ++ leBytes 2 ne ++ L3 ++ leBytes 2 no ++ L4) w12) := by
  have e : opens.take no = opens := by rw [<- HOL.out, List.take_length]
  simp only [e, HL4.out] at o9
  exact o9
 clear o9 HC3
 have p9 := HPB.out _ _ O9.out
 have s9 := HBX.out _ _ O9.out 8 (by simp)
 simp only [List.getElem_toArray, List.getElem_cons_zero, List.getElem_cons_succ] at s9
 go_wp2_with fail
 have HSQ4 : Hid (∀ x ∈ prn, ∃ a n c, x.2 = .slice a n c) := fun x hx => by
  obtain ⟨a, c, e, _⟩ := CellsAt.shape (HN3.out x hx)
  exact ⟨a, _, c, e⟩
 have HC4 := Lib.hid (slist_pend K w w3 ob 134 #[.pointer (some ⟨ob + 1, 0, none⟩)] (enters_of Tryz.func134 rfl rfl) prn nn HNN.out (by omega) (fun k => ([] ++ leBytes 2 brk.toNat ++ leBytes 8 (u64of nid) ++ leBytes 8 (u64of nseq) ++ leBytes 8 (u64of tx) ++ leBytes 2 nm ++ L1 ++ leBytes 2 nw ++ L2 ++ leBytes 2 ne ++ L3 ++ leBytes 2 no ++ L4 ++ leBytes 2 nn) ++ (noes.take k).flatMap encPendM) HK0.out HT13.out HSQ4.out (fun k hk W hW => by
  have hk2 : k < noes.length := by rw [HNL.out]; have := HNN.out; omega
  obtain ⟨ea, en, ec, hsl⟩ := HSQ4.out _ (List.getElem_mem hk)
  show Calls _ _ #[.agg #[.int .i64 (prn[k].1).tid, prn[k].2], .pointer (some ⟨ob + 1, 0, none⟩)] W _
  rw [take_flat_succ encPendM noes k hk2, fst_get HN1.out hk hk2, hsl]
  exact enc4_any K w3 ob (ob + 1) HKK.out.1 HPB1.out noes[k] ea en ec (fun W t => by have h3 := HN3.out _ (List.getElem_mem hk); rw [fst_get HN1.out hk hk2, hsl] at h3; exact h3.keep (HT13.out.fresh t (fun q hq => Nat.le_of_not_lt (fun e => hq (HK0.out q e))))) (recPend_ok (HOK.out.noes _ (List.getElem_mem hk2))) (recPend_b HBR.out.1 (HP.out.noes _ (List.getElem_mem hk2)).1) (Nat.le_trans (encRec_len (recPend_b HBR.out.1 (HP.out.noes _ (List.getElem_mem hk2)).1)) (by decide)) _ (by have := take_flat_len encPendM noes k; rw [HL5.out] at this; simp only [List.length_append, leBytes_length, List.length_nil]; omega) W hW) _ (by simp only [List.length_append, leBytes_length, List.length_nil]; omega) (by simp) _ _ HN.out O9.out)
 clear s9 p9 O9
 refine HC4.out.mono ?_
 rintro e w13 ⟨rfl, o10⟩
 have O10 : Hid (OutK K w3 ob ([] ++ leBytes 2 brk.toNat ++ leBytes 8 (u64of nid) ++ leBytes 8 (u64of nseq) ++ leBytes 8 (u64of tx) ++ leBytes 2 nm ++ L1 ++ leBytes 2 nw ++ L2 ++ leBytes 2 ne ++ L3 ++ leBytes 2 no ++ L4 ++ leBytes 2 nn ++ L5) w13) := by
  have e : noes.take nn = noes := by rw [<- HNL.out, List.take_length]
  simp only [e, HL5.out] at o10
  exact o10
 clear o10 HC4
 rw [<- HES.out] at O10
 obtain ⟨vr, c10, q10, r10, n10⟩ := O10.out.cell0 (by have := HLEN.out; unfold lim; omega)
 have Q10 := Lib.hid q10; have R10 := Lib.hid r10; have N10 := Lib.hid n10
 have p10 := HPB.out _ _ O10.out
 clear q10 r10 n10
 go_wp2_with fail
 go_ret
 refine ⟨HT13.out.fresh O10.out.tch (fun q hq => Nat.le_of_not_lt (fun e => hq (HK0.out q e))), .inr ⟨trivial, vr, rfl, Q10.out, R10.out (by simp [encStM, leBytes]), fun k hk => Nat.le_of_not_lt (fun e => N10.out k hk (HK0.out k e))⟩⟩
end
section
open Go.RowKit Go.Maps
structure SDec (w : World) (ib pb gb fb : Nat) (rest : List UInt8) (W : World) : Prop where
 inn : InS w ib rest W
 pbh : W.heap[pb]? = some (.cells #[.pointer (some ⟨ib, 0, none⟩)] 128 (0, 0))
 gbh : W.heap[gb]? = some (.cells #[.bool true] 4 (0, 0))
 fbh : W.heap[fb]? = some (.cells #[.func (.func 110) #[] #[.pointer (some ⟨pb, 0, none⟩), .pointer (some ⟨gb, 0, none⟩)]] 133 (0, 0))
 o : ib < pb /\ pb < gb /\ gb < fb
def FF (ib gb : Nat) : Nat -> Prop := fun k => k = ib ∨ k = gb
theorem SDec.keepF {F : Nat -> Prop} {w W W' : World} {ib pb gb fb : Nat} {l : List UInt8} (h : SDec w ib pb gb fb l W) (t : Tch F W W') (hF : ∀ k, F k -> fb < k ∨ (w.heap.size <= k /\ k < ib)) : SDec w ib pb gb fb l W' := by
 obtain ⟨o1, o2, o3⟩ := h.o
 have hn := h.inn.new
 exact ⟨h.inn.keepF t (fun e => by have := hF _ e; omega) (fun k e => by have := hF _ e; omega), blk_tch t h.pbh (fun e => by have := hF _ e; omega), blk_tch t h.gbh (fun e => by have := hF _ e; omega), blk_tch t h.fbh (fun e => by have := hF _ e; omega), h.o⟩
theorem SDec.keep {w W W' : World} {ib pb gb fb : Nat} {l : List UInt8} (h : SDec w ib pb gb fb l W) (t : Tch No W W') : SDec w ib pb gb fb l W' := h.keepF t (fun _ h => h.elim)
theorem SDec.read {w W W' : World} {ib pb gb fb : Nat} {l l' : List UInt8} (h : SDec w ib pb gb fb l W) (i : InS w ib l' W') (t : Tch (InF ib) W W') : SDec w ib pb gb fb l' W' := by
 obtain ⟨o1, o2, o3⟩ := h.o
 exact ⟨i, blk_tch t h.pbh (fun e => by rw [InF] at e; omega), blk_tch t h.gbh (fun e => by rw [InF] at e; omega), blk_tch t h.fbh (fun e => by rw [InF] at e; omega), h.o⟩
theorem SDec.good {w W : World} {ib pb gb fb : Nat} {l : List UInt8} (h : SDec w ib pb gb fb l W) : SDec w ib pb gb fb l (W.setCell ⟨gb, 0, none⟩ (.bool true)) /\ Tch (FF ib gb) W (W.setCell ⟨gb, 0, none⟩ (.bool true)) := by
 obtain ⟨o1, o2, o3⟩ := h.o
 have t := Tch.setCell (F := fun q => q = gb) W ⟨gb, 0, none⟩ (.bool true) (fun _ => rfl)
 have hn := h.inn.new
 exact ⟨⟨h.inn.keepF t (fun e => by omega) (fun k e => by omega), blk_tch t h.pbh (fun e => by omega), by simpa using blk_set h.gbh 0 (.bool true), blk_tch t h.fbh (fun e => by omega), h.o⟩, t.mono (fun _ _ e => .inr e)⟩
theorem SDec.lt {w W : World} {ib pb gb fb : Nat} {l : List UInt8} (h : SDec w ib pb gb fb l W) : w.heap.size <= ib /\ ib < pb /\ pb < gb /\ gb < fb /\ fb < W.heap.size := ⟨h.inn.new, h.o.1, h.o.2.1, h.o.2.2, blk_lt h.fbh⟩
theorem FF.lt {ib gb k n : Nat} (h : FF ib gb k) (h1 : ib < n) (h2 : gb < n) : k < n := by
 rcases h with rfl | rfl <;> assumption
theorem inF_FF {ib gb : Nat} {W W' : World} (t : Tch (InF ib) W W') : Tch (FF ib gb) W W' := t.mono (fun k _ e => by rw [InF] at e; exact .inl e)
variable {ρ : Operand -> Value} {o : Oper}
theorem y_ldPIn (x : Operand) {ad : Addr} {v : Value} (ho : o.op = .load 128 x) (hx : ρ x = .pointer (some ad)) (W : World) (hc : W.cell? ad = some v) : Runs Tryz.prog ρ o W (v) W := by
 constructor
 unfold execOp
 simp only [ho, hx]
 go_simp
theorem y_bdState4 (x0 x1 x2 x3 : Operand) {v0 v1 v2 v3 : Value} (ho : o.op = .build 27 #[(0, x0), (1, x1), (2, x2), (3, x3)]) (h0 : ρ x0 = v0) (h1 : ρ x1 = v1) (h2 : ρ x2 = v2) (h3 : ρ x3 = v3) (k0 : v0.oneCell' = true) (k1 : v1.oneCell' = true) (k2 : v2.oneCell' = true) (k3 : v3.oneCell' = true) (W : World) : Runs Tryz.prog ρ o W (.agg #[v0, v1, v2, v3, .slice none 0 0, .slice none 0 0, .slice none 0 0, .slice none 0 0, .slice none 0 0]) W := by
 constructor
 unfold execOp
 simp only [ho, h0, h1, h2, h3]
 have c0 := one_cells k0; have c1 := one_cells k1; have c2 := one_cells k2; have c3 := one_cells k3
 simp only [Value.cells] at c0 c1 c2 c3
 go_simp
theorem y_alState (ho : o.op = .alloc 27) (W : World) : Runs Tryz.prog ρ o W (.pointer (some ⟨W.heap.size, 0, none⟩)) (W.alloc (.cells #[.int .i64 0, .int .i64 0, .int .i64 0, .int .i64 0, .slice none 0 0, .slice none 0 0, .slice none 0 0, .slice none 0 0, .slice none 0 0] 27)) := by
 constructor
 unfold execOp
 simp only [ho]
 go_simp
theorem w_stMsg (x y : Operand) {a : Act} {w : World} {K : Act -> World -> Prop} {Q : Exit -> Act -> World -> Prop} {b : Nat} {v0 v1 v2 v3 v4 v5 c0 c1 c2 c3 c4 c5 : Value} (ho : o.op = .store 50 x y) (hd : o.dst = none) (hx : a.eval x = .pointer (some ⟨b, 0, none⟩)) (hy : a.eval y = .agg #[v0, v1, v2, v3, v4, v5]) (k0 : v0.oneCell' = true) (k1 : v1.oneCell' = true) (k2 : v2.oneCell' = true) (k3 : v3.oneCell' = true) (k4 : v4.oneCell' = true) (k5 : v5.oneCell' = true) (hc : w.heap[b]? = some (.cells #[c0, c1, c2, c3, c4, c5] 50 (0, 0)))
  (h : ∀ z, K (a.put o.dst z) ((((((w.setCell ⟨b, 0, none⟩ v0).setCell ⟨b, 1, none⟩ v1).setCell ⟨b, 2, none⟩ v2).setCell ⟨b, 3, none⟩ v3).setCell ⟨b, 4, none⟩ v4).setCell ⟨b, 5, none⟩ v5)) : Oper.wp Tryz.prog o a w K Q := by
 have h' : K a ((((((w.setCell ⟨b, 0, none⟩ v0).setCell ⟨b, 1, none⟩ v1).setCell ⟨b, 2, none⟩ v2).setCell ⟨b, 3, none⟩ v3).setCell ⟨b, 4, none⟩ v4).setCell ⟨b, 5, none⟩ v5) := by have := h undef; rw [hd] at this; exact this
 have e0 := one_cells k0; have e1 := one_cells k1; have e2 := one_cells k2; have e3 := one_cells k3; have e4 := one_cells k4; have e5 := one_cells k5
 have q0 : w.cell? ⟨b, 0, none⟩ = some c0 := (blk_cell hc 0).trans rfl; have q1 : w.cell? ⟨b, 1, none⟩ = some c1 := (blk_cell hc 1).trans rfl; have q2 : w.cell? ⟨b, 2, none⟩ = some c2 := (blk_cell hc 2).trans rfl; have q3 : w.cell? ⟨b, 3, none⟩ = some c3 := (blk_cell hc 3).trans rfl; have q4 : w.cell? ⟨b, 4, none⟩ = some c4 := (blk_cell hc 4).trans rfl; have q5 : w.cell? ⟨b, 5, none⟩ = some c5 := (blk_cell hc 5).trans rfl
 have f0 : w.frozen? ⟨b, 0, none⟩ = false := blk_free hc 0; have f1 : w.frozen? ⟨b, 1, none⟩ = false := blk_free hc 1; have f2 : w.frozen? ⟨b, 2, none⟩ = false := blk_free hc 2; have f3 : w.frozen? ⟨b, 3, none⟩ = false := blk_free hc 3; have f4 : w.frozen? ⟨b, 4, none⟩ = false := blk_free hc 4; have f5 : w.frozen? ⟨b, 5, none⟩ = false := blk_free hc 5
 simp only [Value.cells] at e0 e1 e2 e3 e4 e5
 have hr0 := fun W m => run_store Tryz.prog W ⟨b, 0, none⟩ v0 m k0; have hr1 := fun W m => run_store Tryz.prog W ⟨b, 1, none⟩ v1 m k1; have hr2 := fun W m => run_store Tryz.prog W ⟨b, 2, none⟩ v2 m k2; have hr3 := fun W m => run_store Tryz.prog W ⟨b, 3, none⟩ v3 m k3; have hr4 := fun W m => run_store Tryz.prog W ⟨b, 4, none⟩ v4 m k4; have hr5 := fun W m => run_store Tryz.prog W ⟨b, 5, none⟩ v5 m k5
 unfold Oper.wp execOp
 simp only [ho, hx, hy]
 go_simp
 exact h'
theorem w_stSt (x y : Operand) {a : Act} {w : World} {K : Act -> World -> Prop} {Q : Exit -> Act -> World -> Prop} {b : Nat} {v0 v1 v2 v3 v4 v5 v6 v7 v8 c0 c1 c2 c3 c4 c5 c6 c7 c8 : Value} (ho : o.op = .store 27 x y) (hd : o.dst = none) (hx : a.eval x = .pointer (some ⟨b, 0, none⟩)) (hy : a.eval y = .agg #[v0, v1, v2, v3, v4, v5, v6, v7, v8]) (k0 : v0.oneCell' = true) (k1 : v1.oneCell' = true) (k2 : v2.oneCell' = true) (k3 : v3.oneCell' = true) (k4 : v4.oneCell' = true) (k5 : v5.oneCell' = true) (k6 : v6.oneCell' = true) (k7 : v7.oneCell' = true) (k8 : v8.oneCell' = true) (hc : w.heap[b]? = some (.cells #[c0, c1, c2, c3, c4, c5, c6, c7, c8] 27 (0, 0)))
  (h : ∀ z, K (a.put o.dst z) (((((((((w.setCell ⟨b, 0, none⟩ v0).setCell ⟨b, 1, none⟩ v1).setCell ⟨b, 2, none⟩ v2).setCell ⟨b, 3, none⟩ v3).setCell ⟨b, 4, none⟩ v4).setCell ⟨b, 5, none⟩ v5).setCell ⟨b, 6, none⟩ v6).setCell ⟨b, 7, none⟩ v7).setCell ⟨b, 8, none⟩ v8)) : Oper.wp Tryz.prog o a w K Q := by
 have h' : K a (((((((((w.setCell ⟨b, 0, none⟩ v0).setCell ⟨b, 1, none⟩ v1).setCell ⟨b, 2, none⟩ v2).setCell ⟨b, 3, none⟩ v3).setCell ⟨b, 4, none⟩ v4).setCell ⟨b, 5, none⟩ v5).setCell ⟨b, 6, none⟩ v6).setCell ⟨b, 7, none⟩ v7).setCell ⟨b, 8, none⟩ v8) := by have := h undef; rw [hd] at this; exact this
 have e0 := one_cells k0; have e1 := one_cells k1; have e2 := one_cells k2; have e3 := one_cells k3; have e4 := one_cells k4; have e5 := one_cells k5; have e6 := one_cells k6; have e7 := one_cells k7; have e8 := one_cells k8
 have q0 : w.cell? ⟨b, 0, none⟩ = some c0 := (blk_cell hc 0).trans rfl; have q1 : w.cell? ⟨b, 1, none⟩ = some c1 := (blk_cell hc 1).trans rfl; have q2 : w.cell? ⟨b, 2, none⟩ = some c2 := (blk_cell hc 2).trans rfl; have q3 : w.cell? ⟨b, 3, none⟩ = some c3 := (blk_cell hc 3).trans rfl; have q4 : w.cell? ⟨b, 4, none⟩ = some c4 := (blk_cell hc 4).trans rfl; have q5 : w.cell? ⟨b, 5, none⟩ = some c5 := (blk_cell hc 5).trans rfl; have q6 : w.cell? ⟨b, 6, none⟩ = some c6 := (blk_cell hc 6).trans rfl; have q7 : w.cell? ⟨b, 7, none⟩ = some c7 := (blk_cell hc 7).trans rfl; have q8 : w.cell? ⟨b, 8, none⟩ = some c8 := (blk_cell hc 8).trans rfl
 have f0 : w.frozen? ⟨b, 0, none⟩ = false := blk_free hc 0; have f1 : w.frozen? ⟨b, 1, none⟩ = false := blk_free hc 1; have f2 : w.frozen? ⟨b, 2, none⟩ = false := blk_free hc 2; have f3 : w.frozen? ⟨b, 3, none⟩ = false := blk_free hc 3; have f4 : w.frozen? ⟨b, 4, none⟩ = false := blk_free hc 4; have f5 : w.frozen? ⟨b, 5, none⟩ = false := blk_free hc 5; have f6 : w.frozen? ⟨b, 6, none⟩ = false := blk_free hc 6; have f7 : w.frozen? ⟨b, 7, none⟩ = false := blk_free hc 7; have f8 : w.frozen? ⟨b, 8, none⟩ = false := blk_free hc 8
 simp only [Value.cells] at e0 e1 e2 e3 e4 e5 e6 e7 e8
 have hr0 := fun W m => run_store Tryz.prog W ⟨b, 0, none⟩ v0 m k0; have hr1 := fun W m => run_store Tryz.prog W ⟨b, 1, none⟩ v1 m k1; have hr2 := fun W m => run_store Tryz.prog W ⟨b, 2, none⟩ v2 m k2; have hr3 := fun W m => run_store Tryz.prog W ⟨b, 3, none⟩ v3 m k3; have hr4 := fun W m => run_store Tryz.prog W ⟨b, 4, none⟩ v4 m k4; have hr5 := fun W m => run_store Tryz.prog W ⟨b, 5, none⟩ v5 m k5; have hr6 := fun W m => run_store Tryz.prog W ⟨b, 6, none⟩ v6 m k6; have hr7 := fun W m => run_store Tryz.prog W ⟨b, 7, none⟩ v7 m k7; have hr8 := fun W m => run_store Tryz.prog W ⟨b, 8, none⟩ v8 m k8
 unfold Oper.wp execOp
 simp only [ho, hx, hy]
 go_simp
 exact h'
theorem conv_bytes (w : World) (bs : List UInt8) (hl : bs.length <= lim) : ∃ c w', (convert 9 48 (.string ⟨bs.toArray⟩)).run Tryz.prog w = .ok (.slice (some ⟨w.heap.size, 0, none⟩) bs.length c) w' /\ Tch No w w' /\ SlB w' (.slice (some ⟨w.heap.size, 0, none⟩) bs.length c) bs := by
 have h := run_bytes_of_string (P := Tryz.prog) w 9 48 5 ⟨bs.toArray⟩ Tryz.underlying9 Tryz.underlying48 Tryz.underlying5
 have hs : (ByteArray.mk bs.toArray).size = bs.length := by simp [ByteArray.size]
 rw [hs] at h
 refine ⟨_, _, h, (Tch.drew w).trans0 (Tch.alloc _ _), ⟨hl, .inr ⟨w.heap.size, 0, _, rfl, grownCap_ge _ _ _ _, grownCap_le_maxLen _ _ _ _ (by unfold lim at hl; unfold maxLen; omega), by simp, fun i hi => ?_⟩⟩⟩
 rw [Nat.zero_add]
 refine (World.cell?_alloc_mark w.drew _ _ _ _).trans ?_
 exact bytesRow_at _ _ _ (by simpa using hi)
theorem sframe_any (w : World) (ib pb gb fb : Nat) (r : RecM) (hb : recB r = true) (hok : OkRec r) (hl : (encRecM r).length < 65536) (rest : List UInt8) (W : World) (h : SDec w ib pb gb fb (textM (encRecM r) ++ rest) W) :
  Calls Tryz.prog 110 #[.int .i64 r.kind, .pointer (some ⟨pb, 0, none⟩), .pointer (some ⟨gb, 0, none⟩)] W fun e w' => ∃ a n c a' n' c', e = .returned (.agg #[.int .i64 r.kind, .int .i64 r.tid, .int .i64 r.id, .bool r.yes, .slice a n c, .slice a' n' c']) /\
   (∀ W2, Tch (fun k => k < W.heap.size) w' W2 -> IsInts W2 (.slice a n c) r.parts /\ IsPuts W2 (.slice a' n' c') r.puts) /\ SDec w ib pb gb fb rest w' /\ Tch (FF ib gb) W w' := by
 have HD := Lib.hid (fun v W h => recdecode_any r hb hok v W h)
 have HS := Lib.hid h
 have hbs := h.lt
 obtain ⟨rb, hrb⟩ : ∃ x, W.heap.size = x := ⟨_, rfl⟩
 obtain ⟨W1, hW1⟩ : ∃ x, W.alloc (.cells #[.int .i64 0, .int .i64 0, .int .i64 0, .bool false, .slice none 0 0, .slice none 0 0] 37) = x := ⟨_, rfl⟩
 have HB1 : Hid (W1.heap[rb]? = some (.cells #[.int .i64 0, .int .i64 0, .int .i64 0, .bool false, .slice none 0 0, .slice none 0 0] 37 (0, 0))) := by rw [Hid, <- hW1, <- hrb]; exact blk_new W _
 have T1 : Hid (Tch No W W1) := by rw [Hid, <- hW1]; exact Tch.alloc _ _
 have S1 := Lib.hid (HS.out.keep T1.out)
 have HRB := Lib.hid hrb
 have HLT := Lib.hid hbs
 have HSZ0 : Hid (rb < W1.heap.size) := blk_lt HB1.out
 have p1 : W1.cell? ⟨pb, 0, none⟩ = some (.pointer (some ⟨ib, 0, none⟩)) := (blk_cell S1.out.pbh 0).trans rfl
 clear h hb hok
 go_enter Tryz.func110, Tryz.ntmps110
 go_wp2_with fail
 clear hW1
 refine (S1.out.inn.text (encRecM r) rest hl).mono ?_
 rintro e w2 ⟨rfl, i2, t2⟩
 have S2 := Lib.hid (S1.out.read i2 t2)
 have T2 := Lib.hid t2
 clear i2 t2 p1
 obtain ⟨cc, w3, hcv, tcv, scv⟩ := conv_bytes w2 (encRecM r) (by unfold lim; omega)
 unfold strV
 go_wp2_with fail
 refine (HD.out _ _ scv).mono ?_
 rintro e w4 ⟨v4, rfl, q4, t4⟩
 have i4 := q4 _ (Tch.refl _ _)
 obtain ⟨vp, vu, rfl, hp, hu⟩ := i4
 obtain ⟨xa, xc, rfl, _, _⟩ := CellsAt.shape hp
 obtain ⟨ya, yc, rfl, _, _⟩ := CellsAt.shape hu
 have S4 := Lib.hid (S2.out.keep (tcv.trans0 t4))
 have B4 := Lib.hid (blk_tch (tcv.trans0 t4) (blk_tch T2.out HB1.out (fun e => by have h1 := HRB.out; rw [InF] at e; omega)) (fun h => h))
 have Q4 := Lib.hid q4
 have T4 : Hid (Tch (FF ib gb) W w4) := ((T1.out.no.trans (inF_FF T2.out) (fun _ _ e => e)).trans0 tcv).trans0 t4
 have HSZ1 : Hid (rb < w3.heap.size) := Nat.lt_of_lt_of_le HSZ0.out (Nat.le_trans T2.out.size tcv.size)
 have HSZ : Hid (W.heap.size <= w3.heap.size) := Nat.le_trans T1.out.size (Nat.le_trans T2.out.size tcv.size)
 clear hcv tcv scv t4 q4 hp hu HD
 obtain ⟨np, hnp⟩ : ∃ n, r.parts.length = n := ⟨_, rfl⟩
 obtain ⟨nu, hnu⟩ : ∃ n, r.puts.length = n := ⟨_, rfl⟩
 rw [hnp] at Q4 ⊢
 rw [hnu] at Q4 ⊢
 clear hnp hnu
 obtain ⟨kd, tid, id, yes, parts, puts⟩ := r
 simp only at Q4 ⊢
 obtain ⟨w5, hw5⟩ : ∃ x, w4.alloc (.cells #[.int .i64 kd, .int .i64 tid, .int .i64 id, .bool yes, .slice xa np xc, .slice ya nu yc] 37) = x := ⟨_, rfl⟩
 obtain ⟨xb, hxb⟩ : ∃ x, w4.heap.size = x := ⟨_, rfl⟩
 have T5 : Hid (Tch No w4 w5) := by rw [Hid, <- hw5]; exact Tch.alloc _ _
 have S5 := Lib.hid (S4.out.keep T5.out)
 have X5 : Hid (w5.heap[xb]? = some (.cells #[.int .i64 kd, .int .i64 tid, .int .i64 id, .bool yes, .slice xa np xc, .slice ya nu yc] 37 (0, 0))) := by rw [Hid, <- hw5, <- hxb]; exact blk_new _ _
 have B5 := Lib.hid (blk_tch T5.out B4.out (fun h => h))
 obtain ⟨w6, hw6⟩ : ∃ x, w5.setCell ⟨gb, 0, none⟩ (.bool true) = x := ⟨_, rfl⟩
 obtain ⟨s6, t6⟩ := S5.out.good
 rw [hw6] at s6 t6
 have S6 := Lib.hid s6
 have T6 := Lib.hid t6
 have HXB : Hid (W.heap.size = rb /\ rb < xb) := ⟨HRB.out, by rw [<- hxb]; exact blk_lt B4.out⟩
 have X6 := Lib.hid (blk_tch t6 X5.out (fun e => by have h1 := HXB.out; rcases e with e | e <;> omega))
 have B6 := Lib.hid (blk_tch t6 B5.out (fun e => by have h1 := HXB.out; rcases e with e | e <;> omega))
 have g5 : w5.cell? ⟨gb, 0, none⟩ = some (.bool true) := (blk_cell S5.out.gbh 0).trans rfl
 have gf : w5.frozen? ⟨gb, 0, none⟩ = false := blk_free S5.out.gbh 0
 have x50 : w5.cell? ⟨xb, 0, none⟩ = some (.int .i64 kd) := (blk_cell X5.out 0).trans rfl
 obtain ⟨x60, x61, x62, x63, x64, x65⟩ := kc6 X6.out
 obtain ⟨r60, r61, r62, r63, r64, r65⟩ := kc6 B6.out
 obtain ⟨fr0, fr1, fr2, fr3, fr4, fr5⟩ := kf6 B6.out
 obtain ⟨wz, hwz, HRZ, TZ⟩ : ∃ X, (((((w6.setCell ⟨rb, 0, none⟩ (.int .i64 kd)).setCell ⟨rb, 1, none⟩ (.int .i64 tid)).setCell ⟨rb, 2, none⟩ (.int .i64 id)).setCell ⟨rb, 3, none⟩ (.bool yes)).setCell ⟨rb, 4, none⟩ (.slice xa np xc)).setCell ⟨rb, 5, none⟩ (.slice ya nu yc) = X /\ Hid (X.heap[rb]? = some (.cells #[.int .i64 kd, .int .i64 tid, .int .i64 id, .bool yes, .slice xa np xc, .slice ya nu yc] 37 (0, 0))) /\ Hid (Tch (fun k => k = rb) w6 X) := by
  obtain ⟨g1, g2⟩ := set6e (.int .i64 kd) (.int .i64 tid) (.int .i64 id) (.bool yes) (.slice xa np xc) (.slice ya nu yc) B6.out
  exact ⟨_, rfl, g1, g2⟩
 clear s6 t6
 go_wp2_with fail
 obtain ⟨q0, q1, q2, q3, q4, q5⟩ := kc6 HRZ.out
 refine bodyPost_ret (v := .agg #[.int .i64 kd, .int .i64 tid, .int .i64 id, .bool yes, .slice xa np xc, .slice ya nu yc]) (by simp [results, Tryz.results110, go_sem, q0, q1, q2, q3, q4, q5]) rfl ?_
 refine ⟨_, _, _, _, _, _, rfl, fun W2 t => ?_, S6.out.keepF TZ.out (fun k e => by have h1 := HXB.out; have h2 := HLT.out; omega), (((T4.out.trans0 T5.out).trans T6.out (fun _ _ e => e)).trans TZ.out (fun k hk e => by have h1 := HXB.out; omega))⟩
 have h1 := HXB.out; have h2 := HLT.out; have h3 := HSZ.out; have h4 := HSZ1.out
 have e1 : Tch (fun k => k < w3.heap.size) w4 w6 := T5.out.no.trans T6.out (fun k _ e => by rcases e with e | e <;> omega)
 have e2 : Tch (fun k => k < w3.heap.size) w4 wz := e1.trans TZ.out (fun k _ e => by omega)
 obtain ⟨_, _, hv, hi, hu⟩ := Q4.out W2 (e2.trans t (fun k _ e => by omega))
 simp only [Value.agg.injEq, Array.mk.injEq, List.cons.injEq, and_true, true_and] at hv
 obtain ⟨rfl, rfl⟩ := hv
 exact ⟨hi, hu⟩
end
end Go.Proofs.YtfedhcnmdmhppaaGreat
