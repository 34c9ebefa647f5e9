/- Part 29 of what the proof of OrderRoom rests on. No condition. -/
import Derived.Test.YtfedhcnmdmhppaaGreatPOrderRoom26
import Derived.Test.YtfedhcnmdmhppaaGreatPOrderRoom28
namespace Go.Proofs.YtfedhcnmdmhppaaGreat
set_option maxRecDepth 100000
set_option maxHeartbeats 60000000
set_option linter.unusedVariables false
set_option linter.unusedSimpArgs false
section
open Go.RowKit Go.Maps
theorem OwnN.keepS {w0 : World} {e : TypeId} {m n : Nat} {cs : List Value} {v : Value} {W W' : World} {sb : Nat} (h : OwnN w0 e m n cs v W) (t : Tch (fun k => k = sb) W W') (hs : w0.heap.size <= sb -> False) : OwnN w0 e m n cs v W' :=
 ⟨own_tch h.1 t (fun b hb e => by have h1 := h.2 b hb; exact hs (by omega)), h.2⟩
theorem drop_enc {α : Type} (enc : α -> List UInt8) (l : List α) (k : Nat) (h : k < l.length) (r : List UInt8) : (l.drop k).flatMap enc ++ r = enc l[k] ++ ((l.drop (k + 1)).flatMap enc ++ r) := by
 rw [List.drop_eq_getElem_cons h, List.flatMap_cons, List.append_assoc]
theorem drop_enc0 {α : Type} (enc : α -> List UInt8) (l : List α) (k : Nat) (h : l.length = k) (r : List UInt8) : (l.drop k).flatMap enc ++ r = r := by
 rw [<- h, List.drop_length]; rfl
theorem sdecode_any (s : StM) (hok : OkSt s) (hb : mayM s = true) (v : Value) (w : World) (h : SlB w v (encStM s)) :
  Calls Tryz.prog 42 #[v] w fun e w' => ∃ v', e = .returned (.tuple #[v', .int .i64 0]) /\ (∀ W2, Tch (fun k => k < w.heap.size) w' W2 -> IsSt W2 v' s) /\ Tch No w w' := by
 obtain ⟨a, n, cap, rfl, _⟩ := h.shape'
 have HMB := Lib.hid hb
 have HOK := Lib.hid hok
 have HP := Lib.hid ((may_iff _).1 hb)
 obtain ⟨rb, hrb⟩ : ∃ x, w.heap.size = x := ⟨_, rfl⟩
 have I0 : Hid (InS w (w.alloc (.cells #[.int .i64 0, .int .i64 0, .int .i64 0, .int .i64 0, .slice none 0 0, .slice none 0 0, .slice none 0 0, .slice none 0 0, .slice none 0 0] 27)).heap.size (encStM s) ((w.alloc (.cells #[.int .i64 0, .int .i64 0, .int .i64 0, .int .i64 0, .slice none 0 0, .slice none 0 0, .slice none 0 0, .slice none 0 0, .slice none 0 0] 27)).alloc (.cells #[.slice a n cap, .bool false] 185))) := InS.made (Tch.alloc _ _) (h.keep (fun k hk => (Tch.alloc w _).block k (h.blt k hk) (fun h => h))) h.blt
 have B0 : Hid (((w.alloc (.cells #[.int .i64 0, .int .i64 0, .int .i64 0, .int .i64 0, .slice none 0 0, .slice none 0 0, .slice none 0 0, .slice none 0 0, .slice none 0 0] 27)).alloc (.cells #[.slice a n cap, .bool false] 185)).heap[w.heap.size]? = some (.cells #[.int .i64 0, .int .i64 0, .int .i64 0, .int .i64 0, .slice none 0 0, .slice none 0 0, .slice none 0 0, .slice none 0 0, .slice none 0 0] 27 (0, 0))) := blk_tch (Tch.alloc _ _) (blk_new w _) (fun h => h)
 obtain ⟨brk, nid, nseq, tx, ms, waits, ends, opens, noes⟩ := s
 obtain ⟨nm, hnm⟩ : ∃ n, ms.length = n := ⟨_, rfl⟩
 have HB0 := Lib.hid hnm
 obtain ⟨nw, hnw⟩ : ∃ n, waits.length = n := ⟨_, rfl⟩
 have HB1 := Lib.hid hnw
 obtain ⟨ne, hne⟩ : ∃ n, ends.length = n := ⟨_, rfl⟩
 have HB2 := Lib.hid hne
 obtain ⟨no, hno⟩ : ∃ n, opens.length = n := ⟨_, rfl⟩
 have HB3 := Lib.hid hno
 obtain ⟨nn, hnn⟩ : ∃ n, noes.length = n := ⟨_, rfl⟩
 have HB4 := Lib.hid hnn
 have hNM : nm <= 72 := by have := HP.out.lms; simp only at *; omega
 have hNW2 : nw <= 2000 := by have := HP.out.lw; simp only at *; omega
 have hNE2 : ne <= 2000 := by have := HP.out.le; simp only at *; omega
 have hNO2 : no <= 2000 := by have := HP.out.lo; simp only at *; omega
 have hNN2 : nn <= 2000 := by have := HP.out.ln; simp only at *; omega
 have HBR : Hid (1 <= brk /\ brk <= 8) := HP.out.br
 obtain ⟨L9, hL9⟩ : ∃ x : List UInt8, [] = x := ⟨_, rfl⟩
 obtain ⟨L8, hL8⟩ : ∃ x, leBytes 2 nn ++ (noes.flatMap encPendM ++ L9) = x := ⟨_, rfl⟩
 obtain ⟨L7, hL7⟩ : ∃ x, leBytes 2 no ++ (opens.flatMap encPendM ++ L8) = x := ⟨_, rfl⟩
 obtain ⟨L6, hL6⟩ : ∃ x, leBytes 2 ne ++ (ends.flatMap encEndM ++ L7) = x := ⟨_, rfl⟩
 obtain ⟨L5, hL5⟩ : ∃ x, leBytes 2 nw ++ (waits.flatMap encBrM ++ L6) = x := ⟨_, rfl⟩
 obtain ⟨L4, hL4⟩ : ∃ x, leBytes 2 nm ++ (ms.flatMap encMsgM ++ L5) = x := ⟨_, rfl⟩
 obtain ⟨L3, hL3⟩ : ∃ x, leBytes 8 (u64of tx) ++ L4 = x := ⟨_, rfl⟩
 obtain ⟨L2, hL2⟩ : ∃ x, leBytes 8 (u64of nseq) ++ L3 = x := ⟨_, rfl⟩
 obtain ⟨L1, hL1⟩ : ∃ x, leBytes 8 (u64of nid) ++ L2 = x := ⟨_, rfl⟩
 obtain ⟨L0, hL0⟩ : ∃ x, leBytes 2 brk.toNat ++ L1 = x := ⟨_, rfl⟩
 have hLL : encStM ⟨brk, nid, nseq, tx, ms, waits, ends, opens, noes⟩ = L0 := by
  rw [<- hL0, <- hL1, <- hL2, <- hL3, <- hL4, <- hL5, <- hL6, <- hL7, <- hL8, <- hL9]
  simp [encStM, listM, List.append_assoc, hnm, hnw, hne, hno, hnn]
 rw [hLL] at I0
 clear hLL hnm hnw hne hno hnn
 have HL9 : Hid (L9 = []) := hL9.symm
 have HC0 : Hid (∀ ib pb W, SDec w ib pb (pb + 1) (pb + 2) L0 W -> Calls Tryz.prog 113 #[.pointer (some ⟨ib, 0, none⟩)] W fun e w' => e = .returned (.int .i64 brk) /\ SDec w ib pb (pb + 1) (pb + 2) L1 w' /\ Tch (FF ib (pb + 1)) W w') := fun ib pb W hh => by
  have hi := hh.inn
  rw [<- hL0] at hi
  refine (InS.small brk.toNat _ hi (by have := HBR.out; omega)).mono ?_
  rintro e w' ⟨rfl, i2, t2⟩
  exact ⟨by rw [show ((brk.toNat : Nat) : Int) = brk by have := HBR.out; omega], hh.read i2 t2, inF_FF t2⟩
 have HC1 : Hid (∀ ib pb W, SDec w ib pb (pb + 1) (pb + 2) L1 W -> Calls Tryz.prog 114 #[.pointer (some ⟨ib, 0, none⟩)] W fun e w' => e = .returned (.int .i64 nid) /\ SDec w ib pb (pb + 1) (pb + 2) L2 w' /\ Tch (FF ib (pb + 1)) W w') := fun ib pb W hh => by
  have hi := hh.inn
  rw [<- hL1] at hi
  refine (InS.long nid _ hi HOK.out.nid).mono ?_
  rintro e w' ⟨rfl, i2, t2⟩
  exact ⟨rfl, hh.read i2 t2, inF_FF t2⟩
 have HC2 : Hid (∀ ib pb W, SDec w ib pb (pb + 1) (pb + 2) L2 W -> Calls Tryz.prog 114 #[.pointer (some ⟨ib, 0, none⟩)] W fun e w' => e = .returned (.int .i64 nseq) /\ SDec w ib pb (pb + 1) (pb + 2) L3 w' /\ Tch (FF ib (pb + 1)) W w') := fun ib pb W hh => by
  have hi := hh.inn
  rw [<- hL2] at hi
  refine (InS.long nseq _ hi HOK.out.nseq).mono ?_
  rintro e w' ⟨rfl, i2, t2⟩
  exact ⟨rfl, hh.read i2 t2, inF_FF t2⟩
 have HC3 : Hid (∀ ib pb W, SDec w ib pb (pb + 1) (pb + 2) L3 W -> Calls Tryz.prog 114 #[.pointer (some ⟨ib, 0, none⟩)] W fun e w' => e = .returned (.int .i64 tx) /\ SDec w ib pb (pb + 1) (pb + 2) L4 w' /\ Tch (FF ib (pb + 1)) W w') := fun ib pb W hh => by
  have hi := hh.inn
  rw [<- hL3] at hi
  refine (InS.long tx _ hi HOK.out.tx).mono ?_
  rintro e w' ⟨rfl, i2, t2⟩
  exact ⟨rfl, hh.read i2 t2, inF_FF t2⟩
 have HL0 : Hid (∀ ib pb W0, SDec w ib pb (pb + 1) (pb + 2) L4 W0 -> Calls Tryz.prog 115 #[.pointer (some ⟨ib, 0, none⟩), .func (.func 116) #[] #[.pointer (some ⟨pb, 0, none⟩)]] W0 fun e w' => ∃ a c, e = .returned (.slice a nm c) /\ OwnN W0 50 6 nm (ms.flatMap encMsg) (.slice a nm c) w' /\ SDec w ib pb (pb + 1) (pb + 2) L5 w' /\ Tch (FF ib (pb + 1)) W0 w') := fun ib pb W0 hh => by
  refine (some_msg w ib pb (pb + 1) (pb + 2) 116 #[.pointer (some ⟨pb, 0, none⟩)] (enters_of Tryz.func116 rfl rfl) ms nm HB0.out (by omega) (fun k => (ms.drop k).flatMap encMsgM ++ L5) (fun k hk W hW => ?_) W0 (by show SDec _ _ _ _ _ (leBytes 2 nm ++ ((ms.drop 0).flatMap encMsgM ++ L5)) W0; rw [List.drop_zero, hL4]; exact hh)).mono (fun e w' hh => ?_)
  ·replace hW : SDec w ib pb (pb + 1) (pb + 2) ((ms.drop k).flatMap encMsgM ++ L5) W := hW
   rw [drop_enc encMsgM ms k hk] at hW
   exact (dmsg_any w ib pb (pb + 1) (pb + 2) ms[k] (msgSz (HOK.out.ms _ (List.getElem_mem hk)) (HP.out.ms _ (List.getElem_mem hk))) (by have := (HP.out.ms _ (List.getElem_mem hk)).cnt; omega) _ W hW).mono (fun e w' hh => hh)
  ·have e : (ms.drop nm).flatMap encMsgM ++ L5 = L5 := drop_enc0 _ _ _ HB0.out _
   simp only [e] at hh
   exact hh
 have HL1 : Hid (∀ ib pb W0, SDec w ib pb (pb + 1) (pb + 2) L5 W0 -> Calls Tryz.prog 117 #[.pointer (some ⟨ib, 0, none⟩), .func (.func 118) #[] #[.pointer (some ⟨pb + 2, 0, none⟩)]] W0 fun e w' => ∃ a c, ∃ pr : List (BrM × Value), e = .returned (.slice a nw c) /\ pr.map Prod.fst = waits /\ OwnN W0 81 2 nw (pr.flatMap (encPr (fun q : BrM => q.tid))) (.slice a nw c) w' /\ (∀ x ∈ pr, ∀ W2, Tch (fun k => k < W0.heap.size) w' W2 -> IsPuts W2 x.2 x.1.puts) /\ SDec w ib pb (pb + 1) (pb + 2) L6 w' /\ Tch (FF ib (pb + 1)) W0 w') := fun ib pb W0 hh => by
  refine (some_br w ib pb (pb + 1) (pb + 2) 118 #[.pointer (some ⟨pb + 2, 0, none⟩)] (enters_of Tryz.func118 rfl rfl) waits nw HB1.out (by omega) (fun k => (waits.drop k).flatMap encBrM ++ L6) (fun k hk W hW => ?_) W0 (by show SDec _ _ _ _ _ (leBytes 2 nw ++ ((waits.drop 0).flatMap encBrM ++ L6)) W0; rw [List.drop_zero, hL5]; exact hh)).mono (fun e w' hh => ?_)
  ·replace hW : SDec w ib pb (pb + 1) (pb + 2) ((waits.drop k).flatMap encBrM ++ L6) W := hW
   rw [drop_enc encBrM waits k hk] at hW
   exact (dbranch_any w ib pb (pb + 1) (pb + 2) waits[k] (recBr_ok (HOK.out.waits _ (List.getElem_mem hk))) (recBr_b (HP.out.waits _ (List.getElem_mem hk))) (Nat.lt_of_le_of_lt (encRec_len (recBr_b (HP.out.waits _ (List.getElem_mem hk)))) (by decide)) _ W hW)
  ·have e : (waits.drop nw).flatMap encBrM ++ L6 = L6 := drop_enc0 _ _ _ HB1.out _
   simp only [e] at hh
   exact hh
 have HL2 : Hid (∀ ib pb W0, SDec w ib pb (pb + 1) (pb + 2) L6 W0 -> Calls Tryz.prog 119 #[.pointer (some ⟨ib, 0, none⟩), .func (.func 120) #[] #[.pointer (some ⟨pb + 2, 0, none⟩)]] W0 fun e w' => ∃ a c, e = .returned (.slice a ne c) /\ OwnN W0 59 2 ne (ends.flatMap encEnd) (.slice a ne c) w' /\ SDec w ib pb (pb + 1) (pb + 2) L7 w' /\ Tch (FF ib (pb + 1)) W0 w') := fun ib pb W0 hh => by
  refine (some_end w ib pb (pb + 1) (pb + 2) 120 #[.pointer (some ⟨pb + 2, 0, none⟩)] (enters_of Tryz.func120 rfl rfl) ends ne HB2.out (by omega) (fun k => (ends.drop k).flatMap encEndM ++ L7) (fun k hk W hW => ?_) W0 (by show SDec _ _ _ _ _ (leBytes 2 ne ++ ((ends.drop 0).flatMap encEndM ++ L7)) W0; rw [List.drop_zero, hL6]; exact hh)).mono (fun e w' hh => ?_)
  ·replace hW : SDec w ib pb (pb + 1) (pb + 2) ((ends.drop k).flatMap encEndM ++ L7) W := hW
   rw [drop_enc encEndM ends k hk] at hW
   exact (dend_any w ib pb (pb + 1) (pb + 2) ends[k] (recEnd_ok (HOK.out.ends _ (List.getElem_mem hk))) (recEnd_b (HP.out.ends _ (List.getElem_mem hk))) (Nat.lt_of_le_of_lt (encRec_len (recEnd_b (HP.out.ends _ (List.getElem_mem hk)))) (by decide)) _ W hW)
  ·have e : (ends.drop ne).flatMap encEndM ++ L7 = L7 := drop_enc0 _ _ _ HB2.out _
   simp only [e] at hh
   exact hh
 have HL3 : Hid (∀ ib pb W0, SDec w ib pb (pb + 1) (pb + 2) L7 W0 -> Calls Tryz.prog 122 #[.pointer (some ⟨ib, 0, none⟩), .func (.func 121) #[] #[.pointer (some ⟨pb + 2, 0, none⟩)]] W0 fun e w' => ∃ a c, ∃ pr : List (PendM × Value), e = .returned (.slice a no c) /\ pr.map Prod.fst = opens /\ OwnN W0 63 2 no (pr.flatMap (encPr (fun q : PendM => q.tid))) (.slice a no c) w' /\ (∀ x ∈ pr, ∀ W2, Tch (fun k => k < W0.heap.size) w' W2 -> IsInts W2 x.2 x.1.parts) /\ SDec w ib pb (pb + 1) (pb + 2) L8 w' /\ Tch (FF ib (pb + 1)) W0 w') := fun ib pb W0 hh => by
  refine (some_pend w ib pb (pb + 1) (pb + 2) 121 #[.pointer (some ⟨pb + 2, 0, none⟩)] (enters_of Tryz.func121 rfl rfl) opens no HB3.out (by omega) (fun k => (opens.drop k).flatMap encPendM ++ L8) (fun k hk W hW => ?_) W0 (by show SDec _ _ _ _ _ (leBytes 2 no ++ ((opens.drop 0).flatMap encPendM ++ L8)) W0; rw [List.drop_zero, hL7]; exact hh)).mono (fun e w' hh => ?_)
  ·replace hW : SDec w ib pb (pb + 1) (pb + 2) ((opens.drop k).flatMap encPendM ++ L8) W := hW
   rw [drop_enc encPendM opens k hk] at hW
   exact (dpend_any w ib pb (pb + 1) (pb + 2) opens[k] (recPend_ok (HOK.out.opens _ (List.getElem_mem hk))) (recPend_b HBR.out.1 (HP.out.opens _ (List.getElem_mem hk)).1) (Nat.lt_of_le_of_lt (encRec_len (recPend_b HBR.out.1 (HP.out.opens _ (List.getElem_mem hk)).1)) (by decide)) _ W hW)
  ·have e : (opens.drop no).flatMap encPendM ++ L8 = L8 := drop_enc0 _ _ _ HB3.out _
   simp only [e] at hh
   exact hh
 have HL4 : Hid (∀ ib pb W0, SDec w ib pb (pb + 1) (pb + 2) L8 W0 -> Calls Tryz.prog 122 #[.pointer (some ⟨ib, 0, none⟩), .func (.func 121) #[] #[.pointer (some ⟨pb + 2, 0, none⟩)]] W0 fun e w' => ∃ a c, ∃ pr : List (PendM × Value), e = .returned (.slice a nn c) /\ pr.map Prod.fst = noes /\ OwnN W0 63 2 nn (pr.flatMap (encPr (fun q : PendM => q.tid))) (.slice a nn c) w' /\ (∀ x ∈ pr, ∀ W2, Tch (fun k => k < W0.heap.size) w' W2 -> IsInts W2 x.2 x.1.parts) /\ SDec w ib pb (pb + 1) (pb + 2) L9 w' /\ Tch (FF ib (pb + 1)) W0 w') := fun ib pb W0 hh => by
  refine (some_pend w ib pb (pb + 1) (pb + 2) 121 #[.pointer (some ⟨pb + 2, 0, none⟩)] (enters_of Tryz.func121 rfl rfl) noes nn HB4.out (by omega) (fun k => (noes.drop k).flatMap encPendM ++ L9) (fun k hk W hW => ?_) W0 (by show SDec _ _ _ _ _ (leBytes 2 nn ++ ((noes.drop 0).flatMap encPendM ++ L9)) W0; rw [List.drop_zero, hL8]; exact hh)).mono (fun e w' hh => ?_)
  ·replace hW : SDec w ib pb (pb + 1) (pb + 2) ((noes.drop k).flatMap encPendM ++ L9) W := hW
   rw [drop_enc encPendM noes k hk] at hW
   exact (dpend_any w ib pb (pb + 1) (pb + 2) noes[k] (recPend_ok (HOK.out.noes _ (List.getElem_mem hk))) (recPend_b HBR.out.1 (HP.out.noes _ (List.getElem_mem hk)).1) (Nat.lt_of_le_of_lt (encRec_len (recPend_b HBR.out.1 (HP.out.noes _ (List.getElem_mem hk)).1)) (by decide)) _ W hW)
  ·have e : (noes.drop nn).flatMap encPendM ++ L9 = L9 := drop_enc0 _ _ _ HB4.out _
   simp only [e] at hh
   exact hh
 clear hL0 hL1 hL2 hL3 hL4 hL5 hL6 hL7 hL8 hL9 hok hb h
 go_enter Tryz.func42, Tryz.ntmps42
 go_wp2_with fail
 refine (read_any a n cap _).mono ?_
 rintro e w1 ⟨rfl, hw1⟩
 rw [<- hw1] at I0 B0
 clear hw1
 have HIB : Hid ((w.alloc (.cells #[.int .i64 0, .int .i64 0, .int .i64 0, .int .i64 0, .slice none 0 0, .slice none 0 0, .slice none 0 0, .slice none 0 0, .slice none 0 0] 27)).heap.size = rb + 1) := by rw [Hid, <- hrb]; simp
 obtain ⟨ib, hib⟩ : ∃ x, (w.alloc (.cells #[.int .i64 0, .int .i64 0, .int .i64 0, .int .i64 0, .slice none 0 0, .slice none 0 0, .slice none 0 0, .slice none 0 0, .slice none 0 0] 27)).heap.size = x := ⟨_, rfl⟩
 rw [hib] at I0 HIB ⊢
 rw [hrb] at B0
 have hRI : Hid (w.heap.size = rb /\ ib = rb + 1) := ⟨hrb, HIB.out⟩
 clear hib HIB hrb
 obtain ⟨pb, hpb⟩ : ∃ x, w1.heap.size = x := ⟨_, rfl⟩
 have HIP : Hid (ib < pb) := by
  obtain ⟨_, h1, _⟩ := I0.out.ex
  rw [Hid, <- hpb]; exact blk_lt h1.cell
 obtain ⟨w4, hw4⟩ : ∃ x, ((w1.alloc (.cells #[.pointer (some ⟨ib, 0, none⟩)] 128)).alloc (.cells #[.bool true] 4)).alloc (.cells #[.func (.func 110) #[] #[.pointer (some ⟨pb, 0, none⟩), .pointer (some ⟨pb + 1, 0, none⟩)]] 133) = x := ⟨_, rfl⟩
 have T14 : Hid (Tch No w1 w4) := by rw [Hid, <- hw4]; exact ((Tch.alloc _ _).trans0 (Tch.alloc _ _)).trans0 (Tch.alloc _ _)
 have S4 : Hid (SDec w ib pb (pb + 1) (pb + 2) L0 w4) := by
  refine ⟨I0.out.keep T14.out, ?_, ?_, ?_, ⟨HIP.out, by omega, by omega⟩⟩
  ·rw [<- hw4, <- hpb]; exact blk_tch ((Tch.alloc _ _).trans0 (Tch.alloc _ _)) (blk_new _ _) (fun h => h)
  ·rw [<- hw4, <- hpb]; exact blk_tch (Tch.alloc _ _) (by have h := blk_new (w1.alloc (.cells #[.pointer (some ⟨ib, 0, none⟩)] 128)) (.cells #[.bool true] 4); rwa [size_alloc] at h) (fun h => h)
  ·rw [<- hw4, <- hpb]; have h := blk_new ((w1.alloc (.cells #[.pointer (some ⟨ib, 0, none⟩)] 128)).alloc (.cells #[.bool true] 4)) (.cells #[.func (.func 110) #[] #[.pointer (some ⟨w1.heap.size, 0, none⟩), .pointer (some ⟨w1.heap.size + 1, 0, none⟩)]] 133); rwa [size_alloc, size_alloc] at h
 have RB4 := Lib.hid (blk_tch T14.out B0.out (fun h => h))
 have HRB : Hid (w.heap.size = rb /\ rb < ib /\ ib < pb) := ⟨hRI.out.1, by have := hRI.out; omega, HIP.out⟩
 clear I0 B0 T14
 have hrs := fun (W : World) (ad : Addr) (m : Mode) => run_store Tryz.prog W ad (.func (.func 110) #[] #[.pointer (some ⟨pb, 0, none⟩), .pointer (some ⟨pb + 1, 0, none⟩)]) m rfl
 go_upto_region 4 with fail
 clear hrs
 try rw [hw4]
 try rw [show pb + 1 + 1 = pb + 2 from rfl]
 clear hw4 hpb
 replace HC0 := Lib.hid (HC0.out ib pb)
 replace HC1 := Lib.hid (HC1.out ib pb)
 replace HC2 := Lib.hid (HC2.out ib pb)
 replace HC3 := Lib.hid (HC3.out ib pb)
 replace HL0 := Lib.hid (HL0.out ib pb)
 replace HL1 := Lib.hid (HL1.out ib pb)
 replace HL2 := Lib.hid (HL2.out ib pb)
 replace HL3 := Lib.hid (HL3.out ib pb)
 replace HL4 := Lib.hid (HL4.out ib pb)
 refine frame_var 56 rfl (fun fr hfr hsz => ?_)
 have h4 : fr.eval (.tmp 4) = .pointer (some ⟨pb, 0, none⟩) := by rw [hfr.out]; rfl
 have hlist : ∀ f ∈ ([(fun x _ => x = .pointer (some ⟨ib, 0, none⟩)), (fun x _ => x = .int .i64 brk), (fun x _ => x = .pointer (some ⟨ib, 0, none⟩)), (fun x _ => x = .int .i64 nid), (fun x _ => x = .pointer (some ⟨ib, 0, none⟩)), (fun x _ => x = .int .i64 nseq), (fun x _ => x = .pointer (some ⟨ib, 0, none⟩)), (fun x _ => x = .int .i64 tx), (fun x _ => x = .agg #[.int .i64 brk, .int .i64 nid, .int .i64 nseq, .int .i64 tx, .slice none 0 0, .slice none 0 0, .slice none 0 0, .slice none 0 0, .slice none 0 0]), (fun (x : Value) (W : World) => ∃ b, x = .pointer (some ⟨b, 0, none⟩) /\ pb + 2 < b /\ w4.heap.size <= b /\ W.heap[b]? = some (.cells #[.int .i64 0, .int .i64 0, .int .i64 0, .int .i64 0, .slice none 0 0, .slice none 0 0, .slice none 0 0, .slice none 0 0, .slice none 0 0] 27 (0, 0))), (fun x _ => True)] : List (Value -> World -> Prop)), Stb f :=
  all_mem1 ((pur_eq _).stb) (all_mem1 ((pur_eq _).stb) (all_mem1 ((pur_eq _).stb) (all_mem1 ((pur_eq _).stb) (all_mem1 ((pur_eq _).stb) (all_mem1 ((pur_eq _).stb) (all_mem1 ((pur_eq _).stb) (all_mem1 ((pur_eq _).stb) (all_mem1 ((pur_eq _).stb) (all_mem1 ((fun x w w' t h => by obtain ⟨b, h1, h2, h3, h4⟩ := h; exact ⟨b, h1, h2, h3, blk_tch t h4 (fun h => h)⟩)) (all_mem1 (pur_any.stb) (all_mem0)))))))))))
 refine wp_region_inv6 10 [1, 3, 5, 7] (fun i => ([[0], [], [0, 1], [], [0, 1, 2], [], [0, 1, 2, 3], [], [4], [0, 1, 2, 3, 4], [0, 1, 2, 3, 4]][i]?).getD []) (fun kst : Nat => match kst with | 0 => (fun W => SDec w ib pb (pb + 1) (pb + 2) L0 W /\ Tch (FF ib (pb + 1)) w4 W) | 1 => (fun W => SDec w ib pb (pb + 1) (pb + 2) L1 W /\ Tch (FF ib (pb + 1)) w4 W) | 2 => (fun W => SDec w ib pb (pb + 1) (pb + 2) L2 W /\ Tch (FF ib (pb + 1)) w4 W) | 3 => (fun W => SDec w ib pb (pb + 1) (pb + 2) L3 W /\ Tch (FF ib (pb + 1)) w4 W) | _ => (fun W => SDec w ib pb (pb + 1) (pb + 2) L4 W /\ Tch (FF ib (pb + 1)) w4 W)) (RL [(fun x _ => x = .pointer (some ⟨ib, 0, none⟩)), (fun x _ => x = .int .i64 brk), (fun x _ => x = .pointer (some ⟨ib, 0, none⟩)), (fun x _ => x = .int .i64 nid), (fun x _ => x = .pointer (some ⟨ib, 0, none⟩)), (fun x _ => x = .int .i64 nseq), (fun x _ => x = .pointer (some ⟨ib, 0, none⟩)), (fun x _ => x = .int .i64 tx), (fun x _ => x = .agg #[.int .i64 brk, .int .i64 nid, .int .i64 nseq, .int .i64 tx, .slice none 0 0, .slice none 0 0, .slice none 0 0, .slice none 0 0, .slice none 0 0]), (fun (x : Value) (W : World) => ∃ b, x = .pointer (some ⟨b, 0, none⟩) /\ pb + 2 < b /\ w4.heap.size <= b /\ W.heap[b]? = some (.cells #[.int .i64 0, .int .i64 0, .int .i64 0, .int .i64 0, .slice none 0 0, .slice none 0 0, .slice none 0 0, .slice none 0 0, .slice none 0 0] 27 (0, 0))), (fun x _ => True)]) [9] [12, 13, 14, 15, 16, 17, 18, 19, 20, 7] [(some 12, [4], []), (some 13, [12], [0]), (some 14, [4], []), (some 15, [14], [2, 1]), (some 16, [4], []), (some 17, [16], [4, 3]), (some 18, [4], []), (some 19, [18], [6, 5]), (some 20, [13, 15, 17, 19], [1, 3, 5, 7]), (some 7, [], []), (none, [7, 20], [9, 8, 7, 0, 1, 2, 3, 4, 5, 6, 7, 8, 9])] (fun i => ([[], [0], [], [0, 1, 2], [], [0, 1, 2, 3, 4], [], [0, 1, 2, 3, 4, 5, 6], [0, 1, 2, 3, 4, 5, 6, 7], [], [0, 1, 2, 3, 4, 5, 6, 7, 8, 9]][i]?).getD []) (fun i => ([[], [0], [], [2], [], [4], [], [6], [1, 3, 5, 7], [], [8, 9]][i]?).getD []) (fun _ => []) (fun i => ([[], [], [], [], [], [], [], [], [], [], []][i]?).getD []) (by kernel_rfl) (by kernel_rfl) (by kernel_rfl) (by rw [hsz]; kernel_rfl) (by kernel_rfl) (by kernel_rfl) (by kernel_rfl) ?_ (rl_pur ?_) ?_ ?_ ?_
 ·exact ⟨S4.out.keep (Tch.drew _), (Tch.drew _).no⟩
 ·show ∀ j, j < 11 -> _ ∨ _
  refine all_lt1 (all_lt1 (all_lt1 (all_lt1 (all_lt1 (all_lt1 (all_lt1 (all_lt1 (all_lt1 (all_lt1 (all_lt1 (all_lt0) (Or.inr (pur_eq _))) (Or.inr (pur_eq _))) (Or.inr (pur_eq _))) (Or.inr (pur_eq _))) (Or.inr (pur_eq _))) (Or.inr (pur_eq _))) (Or.inr (pur_eq _))) (Or.inr (pur_eq _))) (Or.inr (pur_eq _))) (Or.inl (by decide))) (Or.inr pur_any)
 ·show ∀ i, i < 11 -> _
  refine all_lt1 (all_lt1 (all_lt1 (all_lt1 (all_lt1 (all_lt1 (all_lt1 (all_lt1 (all_lt1 (all_lt1 (all_lt1 (all_lt0) ?c0) ?c1) ?c2) ?c3) ?c4) ?c5) ?c6) ?c7) ?c8) ?c9) ?c10
  case c0 =>
   intro _ kst hkst
   replace hkst : kst ∈ ([0] : List Nat) := hkst
   simp only [List.mem_cons, List.not_mem_nil, or_false] at hkst
   rcases hkst with rfl
   ·exact istep_q (d := 12) (.pointer (some ⟨ib, 0, none⟩)) ⟨some 12, _, _, _, _, none⟩ rfl rfl (fun a w' hf hC hn => (iwanted_no rfl)) (fun _ _ => rfl) (fun a W hf hC hn => y_ldPIn (ρ := a.eval) (.tmp 4) (ad := ⟨pb, 0, none⟩) rfl (hf.ev (by kernel_rfl) h4) W (((blk_cell hC.1.pbh 0).trans rfl)))
  case c1 => intro _ kst hkst; exact (List.not_mem_nil (show kst ∈ ([] : List Nat) from hkst)).elim
  case c2 =>
   intro _ kst hkst
   replace hkst : kst ∈ ([0, 1] : List Nat) := hkst
   simp only [List.mem_cons, List.not_mem_nil, or_false] at hkst
   rcases hkst with rfl | rfl
   ·exact istep_q (d := 14) (.pointer (some ⟨ib, 0, none⟩)) ⟨some 14, _, _, _, _, none⟩ rfl rfl (fun a w' hf hC hn => (iwanted_no rfl)) (fun _ _ => rfl) (fun a W hf hC hn => y_ldPIn (ρ := a.eval) (.tmp 4) (ad := ⟨pb, 0, none⟩) rfl (hf.ev (by kernel_rfl) h4) W (((blk_cell hC.1.pbh 0).trans rfl)))
   ·exact istep_q (d := 14) (.pointer (some ⟨ib, 0, none⟩)) ⟨some 14, _, _, _, _, none⟩ rfl rfl (fun a w' hf hC hn => (iwanted_no rfl)) (fun _ _ => rfl) (fun a W hf hC hn => y_ldPIn (ρ := a.eval) (.tmp 4) (ad := ⟨pb, 0, none⟩) rfl (hf.ev (by kernel_rfl) h4) W (((blk_cell hC.1.pbh 0).trans rfl)))
  case c3 => intro _ kst hkst; exact (List.not_mem_nil (show kst ∈ ([] : List Nat) from hkst)).elim
  case c4 =>
   intro _ kst hkst
   replace hkst : kst ∈ ([0, 1, 2] : List Nat) := hkst
   simp only [List.mem_cons, List.not_mem_nil, or_false] at hkst
   rcases hkst with rfl | rfl | rfl
   ·exact istep_q (d := 16) (.pointer (some ⟨ib, 0, none⟩)) ⟨some 16, _, _, _, _, none⟩ rfl rfl (fun a w' hf hC hn => (iwanted_no rfl)) (fun _ _ => rfl) (fun a W hf hC hn => y_ldPIn (ρ := a.eval) (.tmp 4) (ad := ⟨pb, 0, none⟩) rfl (hf.ev (by kernel_rfl) h4) W (((blk_cell hC.1.pbh 0).trans rfl)))
   ·exact istep_q (d := 16) (.pointer (some ⟨ib, 0, none⟩)) ⟨some 16, _, _, _, _, none⟩ rfl rfl (fun a w' hf hC hn => (iwanted_no rfl)) (fun _ _ => rfl) (fun a W hf hC hn => y_ldPIn (ρ := a.eval) (.tmp 4) (ad := ⟨pb, 0, none⟩) rfl (hf.ev (by kernel_rfl) h4) W (((blk_cell hC.1.pbh 0).trans rfl)))
   ·exact istep_q (d := 16) (.pointer (some ⟨ib, 0, none⟩)) ⟨some 16, _, _, _, _, none⟩ rfl rfl (fun a w' hf hC hn => (iwanted_no rfl)) (fun _ _ => rfl) (fun a W hf hC hn => y_ldPIn (ρ := a.eval) (.tmp 4) (ad := ⟨pb, 0, none⟩) rfl (hf.ev (by kernel_rfl) h4) W (((blk_cell hC.1.pbh 0).trans rfl)))
  case c5 => intro _ kst hkst; exact (List.not_mem_nil (show kst ∈ ([] : List Nat) from hkst)).elim
  case c6 =>
   intro _ kst hkst
   replace hkst : kst ∈ ([0, 1, 2, 3] : List Nat) := hkst
   simp only [List.mem_cons, List.not_mem_nil, or_false] at hkst
   rcases hkst with rfl | rfl | rfl | rfl
   ·exact istep_q (d := 18) (.pointer (some ⟨ib, 0, none⟩)) ⟨some 18, _, _, _, _, none⟩ rfl rfl (fun a w' hf hC hn => (iwanted_no rfl)) (fun _ _ => rfl) (fun a W hf hC hn => y_ldPIn (ρ := a.eval) (.tmp 4) (ad := ⟨pb, 0, none⟩) rfl (hf.ev (by kernel_rfl) h4) W (((blk_cell hC.1.pbh 0).trans rfl)))
   ·exact istep_q (d := 18) (.pointer (some ⟨ib, 0, none⟩)) ⟨some 18, _, _, _, _, none⟩ rfl rfl (fun a w' hf hC hn => (iwanted_no rfl)) (fun _ _ => rfl) (fun a W hf hC hn => y_ldPIn (ρ := a.eval) (.tmp 4) (ad := ⟨pb, 0, none⟩) rfl (hf.ev (by kernel_rfl) h4) W (((blk_cell hC.1.pbh 0).trans rfl)))
   ·exact istep_q (d := 18) (.pointer (some ⟨ib, 0, none⟩)) ⟨some 18, _, _, _, _, none⟩ rfl rfl (fun a w' hf hC hn => (iwanted_no rfl)) (fun _ _ => rfl) (fun a W hf hC hn => y_ldPIn (ρ := a.eval) (.tmp 4) (ad := ⟨pb, 0, none⟩) rfl (hf.ev (by kernel_rfl) h4) W (((blk_cell hC.1.pbh 0).trans rfl)))
   ·exact istep_q (d := 18) (.pointer (some ⟨ib, 0, none⟩)) ⟨some 18, _, _, _, _, none⟩ rfl rfl (fun a w' hf hC hn => (iwanted_no rfl)) (fun _ _ => rfl) (fun a W hf hC hn => y_ldPIn (ρ := a.eval) (.tmp 4) (ad := ⟨pb, 0, none⟩) rfl (hf.ev (by kernel_rfl) h4) W (((blk_cell hC.1.pbh 0).trans rfl)))
  case c7 => intro _ kst hkst; exact (List.not_mem_nil (show kst ∈ ([] : List Nat) from hkst)).elim
  case c8 =>
   intro _ kst hkst
   replace hkst : kst ∈ ([4] : List Nat) := hkst
   simp only [List.mem_cons, List.not_mem_nil, or_false] at hkst
   rcases hkst with rfl
   ·refine istep_w ⟨some 20, _, _, _, _, none⟩ rfl (fun a w' hf hC hn => (iwanted_no rfl)) (fun a W hf hC hn K hK => ?_)
    refine wp_runs (y_bdState4 (ρ := a.eval) (.tmp 13) (.tmp 15) (.tmp 17) (.tmp 19) rfl (hn 1 (by decide)) (hn 3 (by decide)) (hn 5 (by decide)) (hn 7 (by decide)) rfl rfl rfl rfl W) ?_
    exact hK _ _ hC rfl (fun j _ _ _ _ x h => h)
  case c9 =>
   intro _ kst hkst
   replace hkst : kst ∈ ([0, 1, 2, 3, 4] : List Nat) := hkst
   simp only [List.mem_cons, List.not_mem_nil, or_false] at hkst
   rcases hkst with rfl | rfl | rfl | rfl | rfl
   ·refine istep_w ⟨some 7, _, _, _, _, none⟩ rfl (fun a w' hf hC hn => (iwanted_no rfl)) (fun a W hf hC hn K hK => ?_)
    refine wp_runs (y_alState (ρ := a.eval) rfl W) ?_
    exact hK _ _ ⟨hC.1.keep (Tch.alloc _ _), hC.2.trans0 (Tch.alloc _ _)⟩ ⟨_, rfl, hC.1.lt.2.2.2.2, hC.2.size, blk_new _ _⟩ (fun j _ _ _ _ x h => rl_stb hlist j x _ _ (Tch.alloc _ _) h)
   ·refine istep_w ⟨some 7, _, _, _, _, none⟩ rfl (fun a w' hf hC hn => (iwanted_no rfl)) (fun a W hf hC hn K hK => ?_)
    refine wp_runs (y_alState (ρ := a.eval) rfl W) ?_
    exact hK _ _ ⟨hC.1.keep (Tch.alloc _ _), hC.2.trans0 (Tch.alloc _ _)⟩ ⟨_, rfl, hC.1.lt.2.2.2.2, hC.2.size, blk_new _ _⟩ (fun j _ _ _ _ x h => rl_stb hlist j x _ _ (Tch.alloc _ _) h)
   ·refine istep_w ⟨some 7, _, _, _, _, none⟩ rfl (fun a w' hf hC hn => (iwanted_no rfl)) (fun a W hf hC hn K hK => ?_)
    refine wp_runs (y_alState (ρ := a.eval) rfl W) ?_
    exact hK _ _ ⟨hC.1.keep (Tch.alloc _ _), hC.2.trans0 (Tch.alloc _ _)⟩ ⟨_, rfl, hC.1.lt.2.2.2.2, hC.2.size, blk_new _ _⟩ (fun j _ _ _ _ x h => rl_stb hlist j x _ _ (Tch.alloc _ _) h)
   ·refine istep_w ⟨some 7, _, _, _, _, none⟩ rfl (fun a w' hf hC hn => (iwanted_no rfl)) (fun a W hf hC hn K hK => ?_)
    refine wp_runs (y_alState (ρ := a.eval) rfl W) ?_
    exact hK _ _ ⟨hC.1.keep (Tch.alloc _ _), hC.2.trans0 (Tch.alloc _ _)⟩ ⟨_, rfl, hC.1.lt.2.2.2.2, hC.2.size, blk_new _ _⟩ (fun j _ _ _ _ x h => rl_stb hlist j x _ _ (Tch.alloc _ _) h)
   ·refine istep_w ⟨some 7, _, _, _, _, none⟩ rfl (fun a w' hf hC hn => (iwanted_no rfl)) (fun a W hf hC hn K hK => ?_)
    refine wp_runs (y_alState (ρ := a.eval) rfl W) ?_
    exact hK _ _ ⟨hC.1.keep (Tch.alloc _ _), hC.2.trans0 (Tch.alloc _ _)⟩ ⟨_, rfl, hC.1.lt.2.2.2.2, hC.2.size, blk_new _ _⟩ (fun j _ _ _ _ x h => rl_stb hlist j x _ _ (Tch.alloc _ _) h)
  case c10 => intro hne; exact absurd rfl hne
 ·show ∀ k, k < 4 -> _
  refine all_lt1 (all_lt1 (all_lt1 (all_lt1 (all_lt0) ?e1) ?e3) ?e5) ?e7
  case e1 =>
   show IStep2 _ _ _ _ _ _ (fun W => SDec w ib pb (pb + 1) (pb + 2) L0 W /\ Tch (FF ib (pb + 1)) w4 W) (fun W => SDec w ib pb (pb + 1) (pb + 2) L1 W /\ Tch (FF ib (pb + 1)) w4 W) _ _ _ _ _ 1
   refine istep_w2 (i := 1) ⟨some 13, _, _, _, _, none⟩ rfl (fun a w' hf hC hn => (iwanted_no rfl)) (fun a W hf hk hC hn K hK => ?_)
   refine w_call Tryz.func113 (by kernel_rfl) (by kernel_rfl) [.tmp 12] _ rfl [.pointer (some ⟨ib, 0, none⟩)] (map1 (hn 0 (by decide))) (HC0.out W hC.1) (fun e w' h => ?_)
   obtain ⟨he, hI, tI⟩ := h
   exact ⟨_, he, hK _ _ ⟨hI, hC.2.trans tI (fun _ _ e => e)⟩ rfl (by
     intro j hj h1 h2 h3 x hx
     obtain rfl : j = 9 := by simpa using hj
     obtain ⟨b, hb1, hb2, hb3, hb4⟩ := hx
     exact ⟨b, hb1, hb2, hb3, blk_tch tI hb4 (fun e => by have := hC.1.lt; rcases e with e | e <;> omega)⟩)⟩
  case e3 =>
   show IStep2 _ _ _ _ _ _ (fun W => SDec w ib pb (pb + 1) (pb + 2) L1 W /\ Tch (FF ib (pb + 1)) w4 W) (fun W => SDec w ib pb (pb + 1) (pb + 2) L2 W /\ Tch (FF ib (pb + 1)) w4 W) _ _ _ _ _ 3
   refine istep_w2 (i := 3) ⟨some 15, _, _, _, _, none⟩ rfl (fun a w' hf hC hn => (iwanted_no rfl)) (fun a W hf hk hC hn K hK => ?_)
   refine w_call Tryz.func114 (by kernel_rfl) (by kernel_rfl) [.tmp 14] _ rfl [.pointer (some ⟨ib, 0, none⟩)] (map1 (hn 2 (by decide))) (HC1.out W hC.1) (fun e w' h => ?_)
   obtain ⟨he, hI, tI⟩ := h
   exact ⟨_, he, hK _ _ ⟨hI, hC.2.trans tI (fun _ _ e => e)⟩ rfl (by
     intro j hj h1 h2 h3 x hx
     obtain rfl : j = 9 := by simpa using hj
     obtain ⟨b, hb1, hb2, hb3, hb4⟩ := hx
     exact ⟨b, hb1, hb2, hb3, blk_tch tI hb4 (fun e => by have := hC.1.lt; rcases e with e | e <;> omega)⟩)⟩
  case e5 =>
   show IStep2 _ _ _ _ _ _ (fun W => SDec w ib pb (pb + 1) (pb + 2) L2 W /\ Tch (FF ib (pb + 1)) w4 W) (fun W => SDec w ib pb (pb + 1) (pb + 2) L3 W /\ Tch (FF ib (pb + 1)) w4 W) _ _ _ _ _ 5
   refine istep_w2 (i := 5) ⟨some 17, _, _, _, _, none⟩ rfl (fun a w' hf hC hn => (iwanted_no rfl)) (fun a W hf hk hC hn K hK => ?_)
   refine w_call Tryz.func114 (by kernel_rfl) (by kernel_rfl) [.tmp 16] _ rfl [.pointer (some ⟨ib, 0, none⟩)] (map1 (hn 4 (by decide))) (HC2.out W hC.1) (fun e w' h => ?_)
   obtain ⟨he, hI, tI⟩ := h
   exact ⟨_, he, hK _ _ ⟨hI, hC.2.trans tI (fun _ _ e => e)⟩ rfl (by
     intro j hj h1 h2 h3 x hx
     obtain rfl : j = 9 := by simpa using hj
     obtain ⟨b, hb1, hb2, hb3, hb4⟩ := hx
     exact ⟨b, hb1, hb2, hb3, blk_tch tI hb4 (fun e => by have := hC.1.lt; rcases e with e | e <;> omega)⟩)⟩
  case e7 =>
   show IStep2 _ _ _ _ _ _ (fun W => SDec w ib pb (pb + 1) (pb + 2) L3 W /\ Tch (FF ib (pb + 1)) w4 W) (fun W => SDec w ib pb (pb + 1) (pb + 2) L4 W /\ Tch (FF ib (pb + 1)) w4 W) _ _ _ _ _ 7
   refine istep_w2 (i := 7) ⟨some 19, _, _, _, _, none⟩ rfl (fun a w' hf hC hn => (iwanted_no rfl)) (fun a W hf hk hC hn K hK => ?_)
   refine w_call Tryz.func114 (by kernel_rfl) (by kernel_rfl) [.tmp 18] _ rfl [.pointer (some ⟨ib, 0, none⟩)] (map1 (hn 6 (by decide))) (HC3.out W hC.1) (fun e w' h => ?_)
   obtain ⟨he, hI, tI⟩ := h
   exact ⟨_, he, hK _ _ ⟨hI, hC.2.trans tI (fun _ _ e => e)⟩ rfl (by
     intro j hj h1 h2 h3 x hx
     obtain rfl : j = 9 := by simpa using hj
     obtain ⟨b, hb1, hb2, hb3, hb4⟩ := hx
     exact ⟨b, hb1, hb2, hb3, blk_tch tI hb4 (fun e => by have := hC.1.lt; rcases e with e | e <;> omega)⟩)⟩
 ·refine last_by ⟨none, _, _, _, _, none⟩ rfl rfl (fun af wf hf hC hR K hK => ?_)
  replace hC : (fun W => SDec w ib pb (pb + 1) (pb + 2) L4 W /\ Tch (FF ib (pb + 1)) w4 W) wf := hC
  obtain ⟨vs, hl, rfl⟩ := hf
  have hl : vs.length = 10 := hl
  obtain ⟨u0, vs0, hv0, hl⟩ := vs_cons hl
  obtain ⟨u1, vs1, hv1, hl⟩ := vs_cons hl
  obtain ⟨u2, vs2, hv2, hl⟩ := vs_cons hl
  obtain ⟨u3, vs3, hv3, hl⟩ := vs_cons hl
  obtain ⟨u4, vs4, hv4, hl⟩ := vs_cons hl
  obtain ⟨u5, vs5, hv5, hl⟩ := vs_cons hl
  obtain ⟨u6, vs6, hv6, hl⟩ := vs_cons hl
  obtain ⟨u7, vs7, hv7, hl⟩ := vs_cons hl
  obtain ⟨u8, vs8, hv8, hl⟩ := vs_cons hl
  obtain ⟨u9, vs9, hv9, hl⟩ := vs_cons hl
  have hvn := vs_nil hl
  have hvs : vs = [u0, u1, u2, u3, u4, u5, u6, u7, u8, u9] := by rw [hv0, hv1, hv2, hv3, hv4, hv5, hv6, hv7, hv8, hv9, hvn]
  clear hvn hl hv0 hv1 hv2 hv3 hv4 hv5 hv6 hv7 hv8 hv9
  have e8 : (putAll fr [12, 13, 14, 15, 16, 17, 18, 19, 20, 7] vs).eval (.tmp 20) = u8 := by rw [hvs]; exact putAll_get 8 (by decide) rfl rfl rfl (by rw [hsz]; decide)
  have r8 : u8 = .agg #[.int .i64 brk, .int .i64 nid, .int .i64 nseq, .int .i64 tx, .slice none 0 0, .slice none 0 0, .slice none 0 0, .slice none 0 0, .slice none 0 0] := by
   have h : (fun x _ => x = .agg #[.int .i64 brk, .int .i64 nid, .int .i64 nseq, .int .i64 tx, .slice none 0 0, .slice none 0 0, .slice none 0 0, .slice none 0 0, .slice none 0 0]) ((putAll fr [12, 13, 14, 15, 16, 17, 18, 19, 20, 7] vs).eval (.tmp 20)) wf := hR 8 (by decide) (by decide) (by decide)
   rw [e8] at h
   exact h
  have e9 : (putAll fr [12, 13, 14, 15, 16, 17, 18, 19, 20, 7] vs).eval (.tmp 7) = u9 := by rw [hvs]; exact putAll_get 9 (by decide) rfl rfl rfl (by rw [hsz]; decide)
  have r9 : ∃ b, u9 = .pointer (some ⟨b, 0, none⟩) /\ pb + 2 < b /\ w4.heap.size <= b /\ wf.heap[b]? = some (.cells #[.int .i64 0, .int .i64 0, .int .i64 0, .int .i64 0, .slice none 0 0, .slice none 0 0, .slice none 0 0, .slice none 0 0, .slice none 0 0] 27 (0, 0)) := by
   have h : (fun x W => ∃ b, x = .pointer (some ⟨b, 0, none⟩) /\ pb + 2 < b /\ w4.heap.size <= b /\ W.heap[b]? = some (.cells #[.int .i64 0, .int .i64 0, .int .i64 0, .int .i64 0, .slice none 0 0, .slice none 0 0, .slice none 0 0, .slice none 0 0, .slice none 0 0] 27 (0, 0))) ((putAll fr [12, 13, 14, 15, 16, 17, 18, 19, 20, 7] vs).eval (.tmp 7)) wf := hR 9 (by decide) (by decide) (by decide)
   rw [e9] at h
   exact h
  obtain ⟨sb, hsb1, hsb2, hsb3, hsb4⟩ := r9
  refine w_stSt (.tmp 7) (.tmp 20) rfl rfl (e9.trans hsb1) (e8.trans r8) rfl rfl rfl rfl rfl rfl rfl rfl rfl hsb4 (fun z => hK _ _ ?_)
  obtain ⟨D0, T40⟩ := hC
  obtain ⟨g1, g2⟩ := set9e (.int .i64 brk) (.int .i64 nid) (.int .i64 nseq) (.int .i64 tx) (.slice none 0 0) (.slice none 0 0) (.slice none 0 0) (.slice none 0 0) (.slice none 0 0) hsb4
  obtain ⟨w5, hw5⟩ : ∃ x, ((((((((wf.setCell ⟨sb, 0, none⟩ (.int .i64 brk)).setCell ⟨sb, 1, none⟩ (.int .i64 nid)).setCell ⟨sb, 2, none⟩ (.int .i64 nseq)).setCell ⟨sb, 3, none⟩ (.int .i64 tx)).setCell ⟨sb, 4, none⟩ (.slice none 0 0)).setCell ⟨sb, 5, none⟩ (.slice none 0 0)).setCell ⟨sb, 6, none⟩ (.slice none 0 0)).setCell ⟨sb, 7, none⟩ (.slice none 0 0)).setCell ⟨sb, 8, none⟩ (.slice none 0 0) = x := ⟨_, rfl⟩
  rw [hw5] at g1 g2 ⊢
  clear hR hlist hK K e8 e9
  subst hvs
  have hfr2 := hfr.out
  subst hfr2
  simp only [putAll, Act.put, List.setIfInBounds_toArray, List.set_cons_succ, List.set_cons_zero]
  subst hsb1
  have S5 : Hid (SDec w ib pb (pb + 1) (pb + 2) L4 w5) := D0.keepF g2 (fun k e => by omega)
  have B5 := Lib.hid g1
  have HSB : Hid (pb + 2 < sb /\ w4.heap.size <= sb) := ⟨hsb2, hsb3⟩
  have RB5 := Lib.hid (blk_tch (T40.trans g2 (F := FF ib (pb + 1)) (fun k hk e => by omega)) RB4.out (fun e => by have := HRB.out; rcases e with e | e <;> omega))
  clear g1 g2 hw5 D0 T40 hsb2 hsb3 hsb4 r8 RB4
  have p0 : w5.cell? ⟨pb, 0, none⟩ = some (.pointer (some ⟨ib, 0, none⟩)) := (blk_cell S5.out.pbh 0).trans rfl
  have HX0 := Lib.hid (HL0.out w5 S5.out)
  go_wp2_with fail
  refine HX0.out.mono ?_
  rintro e w6 ⟨a0, c0, rfl, ow0, s0, t0⟩
  have HBA0 := Lib.hid (blk_tch t0 B5.out (fun e => by have h1 := HSB.out; have h2 := HRB.out; rcases e with e | e <;> omega))
  obtain ⟨w7, hq0, HBB0, HTB0⟩ : ∃ X, w6.setCell ⟨sb, 4, none⟩ (.slice a0 nm c0) = X /\ Hid (X.heap[sb]? = some (.cells #[.int .i64 brk, .int .i64 nid, .int .i64 nseq, .int .i64 tx, .slice a0 nm c0, .slice none 0 0, .slice none 0 0, .slice none 0 0, .slice none 0 0] 27 (0, 0))) /\ Hid (Tch (fun k => k = sb) w6 X) := ⟨_, rfl, by rw [Hid]; simpa using blk_set HBA0.out 4 (.slice a0 nm c0), Tch.setCell (F := fun q => q = sb) w6 ⟨sb, 4, none⟩ (.slice a0 nm c0) (fun _ => rfl)⟩
  have HSZ0 : Hid (sb < w5.heap.size) := blk_lt B5.out
  have TS0 : Hid (Tch (fun j => j <= sb) w5 w7) := (t0.mono (fun k _ e => by have h1 := HSB.out; have h2 := HRB.out; rcases e with e | e <;> omega)).trans HTB0.out (fun k _ e => by omega)
  have SN0 : Hid (SDec w ib pb (pb + 1) (pb + 2) L5 w7) := SDec.keepF s0 HTB0.out (fun k e => by have h1 := HSB.out; omega)
  have RN0 := Lib.hid (blk_tch HTB0.out (blk_tch t0 RB5.out (fun e => by have h2 := HRB.out; rcases e with e | e <;> omega)) (fun e => by have h1 := HSB.out; have h2 := HRB.out; omega))
  have LN0_0 : Hid (∀ W2, Tch (fun j => j <= sb) w7 W2 -> IsMsgs W2 (.slice a0 nm c0) ms) := fun W2 t => (by
   unfold IsMsgs
   rw [HB0.out]
   exact CellsAt.ofRow (own_tch (OwnN.keepS ow0 HTB0.out (fun e => by have := HSZ0.out; omega)).1 t (fun b hb e => by have h1 := (OwnN.keepS ow0 HTB0.out (fun e => by have := HSZ0.out; omega)).2 b hb; have h2 := HSZ0.out; omega)))
  have m0_4 : w6.cell? ⟨sb, 4, none⟩ = some (.slice none 0 0) := (blk_cell HBA0.out 4).trans rfl
  have fz0 : w6.frozen? ⟨sb, 4, none⟩ = false := blk_free HBA0.out 4
  clear ow0 s0 t0 p0 HX0 B5 S5 RB5  
  have p1 : w7.cell? ⟨pb, 0, none⟩ = some (.pointer (some ⟨ib, 0, none⟩)) := (blk_cell SN0.out.pbh 0).trans rfl
  have HX1 := Lib.hid (HL1.out w7 SN0.out)
  go_wp2_with fail
  refine HX1.out.mono ?_
  rintro e w8 ⟨a1, c1, pr1, rfl, pe1, ow1, it1, s1, t1⟩
  have HBA1 := Lib.hid (blk_tch t1 HBB0.out (fun e => by have h1 := HSB.out; have h2 := HRB.out; rcases e with e | e <;> omega))
  obtain ⟨w9, hq1, HBB1, HTB1⟩ : ∃ X, w8.setCell ⟨sb, 5, none⟩ (.slice a1 nw c1) = X /\ Hid (X.heap[sb]? = some (.cells #[.int .i64 brk, .int .i64 nid, .int .i64 nseq, .int .i64 tx, .slice a0 nm c0, .slice a1 nw c1, .slice none 0 0, .slice none 0 0, .slice none 0 0] 27 (0, 0))) /\ Hid (Tch (fun k => k = sb) w8 X) := ⟨_, rfl, by rw [Hid]; simpa using blk_set HBA1.out 5 (.slice a1 nw c1), Tch.setCell (F := fun q => q = sb) w8 ⟨sb, 5, none⟩ (.slice a1 nw c1) (fun _ => rfl)⟩
  have HSZ1 : Hid (sb < w7.heap.size) := blk_lt HBB0.out
  have TS1 : Hid (Tch (fun j => j <= sb) w7 w9) := (t1.mono (fun k _ e => by have h1 := HSB.out; have h2 := HRB.out; rcases e with e | e <;> omega)).trans HTB1.out (fun k _ e => by omega)
  have SN1 : Hid (SDec w ib pb (pb + 1) (pb + 2) L6 w9) := SDec.keepF s1 HTB1.out (fun k e => by have h1 := HSB.out; omega)
  have RN1 := Lib.hid (blk_tch HTB1.out (blk_tch t1 RN0.out (fun e => by have h2 := HRB.out; rcases e with e | e <;> omega)) (fun e => by have h1 := HSB.out; have h2 := HRB.out; omega))
  have LN1_1 : Hid (∀ W2, Tch (fun j => j <= sb) w9 W2 -> IsBrs W2 (.slice a1 nw c1) waits) := fun W2 t => brs_pairs.2 ⟨pr1, pe1, (by
   unfold IsL
   rw [show pr1.length = nw by rw [<- HB1.out, <- pe1, List.length_map]]
   exact CellsAt.ofRow (own_tch (OwnN.keepS ow1 HTB1.out (fun e => by have := HSZ1.out; omega)).1 t (fun b hb e => by have h1 := (OwnN.keepS ow1 HTB1.out (fun e => by have := HSZ1.out; omega)).2 b hb; have h2 := HSZ1.out; omega))), fun x hx => it1 x hx W2 ((HTB1.out.mono (G := fun k => k < w7.heap.size) (fun k _ e => by have h2 := HSZ1.out; omega)).trans t (fun k _ e => by have h2 := HSZ1.out; omega))⟩
  have LN0_1 : Hid (∀ W2, Tch (fun j => j <= sb) w9 W2 -> IsMsgs W2 (.slice a0 nm c0) ms) := fun W2 t => LN0_0.out W2 (TS1.out.trans t (fun _ _ e => e))
  have m1_5 : w8.cell? ⟨sb, 5, none⟩ = some (.slice none 0 0) := (blk_cell HBA1.out 5).trans rfl
  have fz1 : w8.frozen? ⟨sb, 5, none⟩ = false := blk_free HBA1.out 5
  clear ow1 s1 t1 p1 HX1 HBB0 SN0 RN0 it1 pe1 LN0_0
  have p2 : w9.cell? ⟨pb, 0, none⟩ = some (.pointer (some ⟨ib, 0, none⟩)) := (blk_cell SN1.out.pbh 0).trans rfl
  have HX2 := Lib.hid (HL2.out w9 SN1.out)
  go_wp2_with fail
  refine HX2.out.mono ?_
  rintro e w10 ⟨a2, c2, rfl, ow2, s2, t2⟩
  have HBA2 := Lib.hid (blk_tch t2 HBB1.out (fun e => by have h1 := HSB.out; have h2 := HRB.out; rcases e with e | e <;> omega))
  obtain ⟨w11, hq2, HBB2, HTB2⟩ : ∃ X, w10.setCell ⟨sb, 6, none⟩ (.slice a2 ne c2) = X /\ Hid (X.heap[sb]? = some (.cells #[.int .i64 brk, .int .i64 nid, .int .i64 nseq, .int .i64 tx, .slice a0 nm c0, .slice a1 nw c1, .slice a2 ne c2, .slice none 0 0, .slice none 0 0] 27 (0, 0))) /\ Hid (Tch (fun k => k = sb) w10 X) := ⟨_, rfl, by rw [Hid]; simpa using blk_set HBA2.out 6 (.slice a2 ne c2), Tch.setCell (F := fun q => q = sb) w10 ⟨sb, 6, none⟩ (.slice a2 ne c2) (fun _ => rfl)⟩
  have HSZ2 : Hid (sb < w9.heap.size) := blk_lt HBB1.out
  have TS2 : Hid (Tch (fun j => j <= sb) w9 w11) := (t2.mono (fun k _ e => by have h1 := HSB.out; have h2 := HRB.out; rcases e with e | e <;> omega)).trans HTB2.out (fun k _ e => by omega)
  have SN2 : Hid (SDec w ib pb (pb + 1) (pb + 2) L7 w11) := SDec.keepF s2 HTB2.out (fun k e => by have h1 := HSB.out; omega)
  have RN2 := Lib.hid (blk_tch HTB2.out (blk_tch t2 RN1.out (fun e => by have h2 := HRB.out; rcases e with e | e <;> omega)) (fun e => by have h1 := HSB.out; have h2 := HRB.out; omega))
  have LN2_2 : Hid (∀ W2, Tch (fun j => j <= sb) w11 W2 -> IsEnds W2 (.slice a2 ne c2) ends) := fun W2 t => (by
   unfold IsEnds
   rw [HB2.out]
   exact CellsAt.ofRow (own_tch (OwnN.keepS ow2 HTB2.out (fun e => by have := HSZ2.out; omega)).1 t (fun b hb e => by have h1 := (OwnN.keepS ow2 HTB2.out (fun e => by have := HSZ2.out; omega)).2 b hb; have h2 := HSZ2.out; omega)))
  have LN0_2 : Hid (∀ W2, Tch (fun j => j <= sb) w11 W2 -> IsMsgs W2 (.slice a0 nm c0) ms) := fun W2 t => LN0_1.out W2 (TS2.out.trans t (fun _ _ e => e))
  have LN1_2 : Hid (∀ W2, Tch (fun j => j <= sb) w11 W2 -> IsBrs W2 (.slice a1 nw c1) waits) := fun W2 t => LN1_1.out W2 (TS2.out.trans t (fun _ _ e => e))
  have m2_6 : w10.cell? ⟨sb, 6, none⟩ = some (.slice none 0 0) := (blk_cell HBA2.out 6).trans rfl
  have fz2 : w10.frozen? ⟨sb, 6, none⟩ = false := blk_free HBA2.out 6
  clear ow2 s2 t2 p2 HX2 HBB1 SN1 RN1  LN0_1 LN1_1
  have p3 : w11.cell? ⟨pb, 0, none⟩ = some (.pointer (some ⟨ib, 0, none⟩)) := (blk_cell SN2.out.pbh 0).trans rfl
  have HX3 := Lib.hid (HL3.out w11 SN2.out)
  go_wp2_with fail
  refine HX3.out.mono ?_
  rintro e w12 ⟨a3, c3, pr3, rfl, pe3, ow3, it3, s3, t3⟩
  have HBA3 := Lib.hid (blk_tch t3 HBB2.out (fun e => by have h1 := HSB.out; have h2 := HRB.out; rcases e with e | e <;> omega))
  obtain ⟨w13, hq3, HBB3, HTB3⟩ : ∃ X, w12.setCell ⟨sb, 7, none⟩ (.slice a3 no c3) = X /\ Hid (X.heap[sb]? = some (.cells #[.int .i64 brk, .int .i64 nid, .int .i64 nseq, .int .i64 tx, .slice a0 nm c0, .slice a1 nw c1, .slice a2 ne c2, .slice a3 no c3, .slice none 0 0] 27 (0, 0))) /\ Hid (Tch (fun k => k = sb) w12 X) := ⟨_, rfl, by rw [Hid]; simpa using blk_set HBA3.out 7 (.slice a3 no c3), Tch.setCell (F := fun q => q = sb) w12 ⟨sb, 7, none⟩ (.slice a3 no c3) (fun _ => rfl)⟩
  have HSZ3 : Hid (sb < w11.heap.size) := blk_lt HBB2.out
  have TS3 : Hid (Tch (fun j => j <= sb) w11 w13) := (t3.mono (fun k _ e => by have h1 := HSB.out; have h2 := HRB.out; rcases e with e | e <;> omega)).trans HTB3.out (fun k _ e => by omega)
  have SN3 : Hid (SDec w ib pb (pb + 1) (pb + 2) L8 w13) := SDec.keepF s3 HTB3.out (fun k e => by have h1 := HSB.out; omega)
  have RN3 := Lib.hid (blk_tch HTB3.out (blk_tch t3 RN2.out (fun e => by have h2 := HRB.out; rcases e with e | e <;> omega)) (fun e => by have h1 := HSB.out; have h2 := HRB.out; omega))
  have LN3_3 : Hid (∀ W2, Tch (fun j => j <= sb) w13 W2 -> IsPends W2 (.slice a3 no c3) opens) := fun W2 t => pends_pairs.2 ⟨pr3, pe3, (by
   unfold IsL
   rw [show pr3.length = no by rw [<- HB3.out, <- pe3, List.length_map]]
   exact CellsAt.ofRow (own_tch (OwnN.keepS ow3 HTB3.out (fun e => by have := HSZ3.out; omega)).1 t (fun b hb e => by have h1 := (OwnN.keepS ow3 HTB3.out (fun e => by have := HSZ3.out; omega)).2 b hb; have h2 := HSZ3.out; omega))), fun x hx => it3 x hx W2 ((HTB3.out.mono (G := fun k => k < w11.heap.size) (fun k _ e => by have h2 := HSZ3.out; omega)).trans t (fun k _ e => by have h2 := HSZ3.out; omega))⟩
  have LN0_3 : Hid (∀ W2, Tch (fun j => j <= sb) w13 W2 -> IsMsgs W2 (.slice a0 nm c0) ms) := fun W2 t => LN0_2.out W2 (TS3.out.trans t (fun _ _ e => e))
  have LN1_3 : Hid (∀ W2, Tch (fun j => j <= sb) w13 W2 -> IsBrs W2 (.slice a1 nw c1) waits) := fun W2 t => LN1_2.out W2 (TS3.out.trans t (fun _ _ e => e))
  have LN2_3 : Hid (∀ W2, Tch (fun j => j <= sb) w13 W2 -> IsEnds W2 (.slice a2 ne c2) ends) := fun W2 t => LN2_2.out W2 (TS3.out.trans t (fun _ _ e => e))
  have m3_7 : w12.cell? ⟨sb, 7, none⟩ = some (.slice none 0 0) := (blk_cell HBA3.out 7).trans rfl
  have fz3 : w12.frozen? ⟨sb, 7, none⟩ = false := blk_free HBA3.out 7
  clear ow3 s3 t3 p3 HX3 HBB2 SN2 RN2 it3 pe3 LN0_2 LN1_2 LN2_2
  have p4 : w13.cell? ⟨pb, 0, none⟩ = some (.pointer (some ⟨ib, 0, none⟩)) := (blk_cell SN3.out.pbh 0).trans rfl
  have HX4 := Lib.hid (HL4.out w13 SN3.out)
  go_wp2_with fail
  refine HX4.out.mono ?_
  rintro e w14 ⟨a4, c4, pr4, rfl, pe4, ow4, it4, s4, t4⟩
  have HBA4 := Lib.hid (blk_tch t4 HBB3.out (fun e => by have h1 := HSB.out; have h2 := HRB.out; rcases e with e | e <;> omega))
  obtain ⟨w15, hq4, HBB4, HTB4⟩ : ∃ X, w14.setCell ⟨sb, 8, none⟩ (.slice a4 nn c4) = X /\ Hid (X.heap[sb]? = some (.cells #[.int .i64 brk, .int .i64 nid, .int .i64 nseq, .int .i64 tx, .slice a0 nm c0, .slice a1 nw c1, .slice a2 ne c2, .slice a3 no c3, .slice a4 nn c4] 27 (0, 0))) /\ Hid (Tch (fun k => k = sb) w14 X) := ⟨_, rfl, by rw [Hid]; simpa using blk_set HBA4.out 8 (.slice a4 nn c4), Tch.setCell (F := fun q => q = sb) w14 ⟨sb, 8, none⟩ (.slice a4 nn c4) (fun _ => rfl)⟩
  have HSZ4 : Hid (sb < w13.heap.size) := blk_lt HBB3.out
  have TS4 : Hid (Tch (fun j => j <= sb) w13 w15) := (t4.mono (fun k _ e => by have h1 := HSB.out; have h2 := HRB.out; rcases e with e | e <;> omega)).trans HTB4.out (fun k _ e => by omega)
  have SN4 : Hid (SDec w ib pb (pb + 1) (pb + 2) L9 w15) := SDec.keepF s4 HTB4.out (fun k e => by have h1 := HSB.out; omega)
  have RN4 := Lib.hid (blk_tch HTB4.out (blk_tch t4 RN3.out (fun e => by have h2 := HRB.out; rcases e with e | e <;> omega)) (fun e => by have h1 := HSB.out; have h2 := HRB.out; omega))
  have LN4_4 : Hid (∀ W2, Tch (fun j => j <= sb) w15 W2 -> IsPends W2 (.slice a4 nn c4) noes) := fun W2 t => pends_pairs.2 ⟨pr4, pe4, (by
   unfold IsL
   rw [show pr4.length = nn by rw [<- HB4.out, <- pe4, List.length_map]]
   exact CellsAt.ofRow (own_tch (OwnN.keepS ow4 HTB4.out (fun e => by have := HSZ4.out; omega)).1 t (fun b hb e => by have h1 := (OwnN.keepS ow4 HTB4.out (fun e => by have := HSZ4.out; omega)).2 b hb; have h2 := HSZ4.out; omega))), fun x hx => it4 x hx W2 ((HTB4.out.mono (G := fun k => k < w13.heap.size) (fun k _ e => by have h2 := HSZ4.out; omega)).trans t (fun k _ e => by have h2 := HSZ4.out; omega))⟩
  have LN0_4 : Hid (∀ W2, Tch (fun j => j <= sb) w15 W2 -> IsMsgs W2 (.slice a0 nm c0) ms) := fun W2 t => LN0_3.out W2 (TS4.out.trans t (fun _ _ e => e))
  have LN1_4 : Hid (∀ W2, Tch (fun j => j <= sb) w15 W2 -> IsBrs W2 (.slice a1 nw c1) waits) := fun W2 t => LN1_3.out W2 (TS4.out.trans t (fun _ _ e => e))
  have LN2_4 : Hid (∀ W2, Tch (fun j => j <= sb) w15 W2 -> IsEnds W2 (.slice a2 ne c2) ends) := fun W2 t => LN2_3.out W2 (TS4.out.trans t (fun _ _ e => e))
  have LN3_4 : Hid (∀ W2, Tch (fun j => j <= sb) w15 W2 -> IsPends W2 (.slice a3 no c3) opens) := fun W2 t => LN3_3.out W2 (TS4.out.trans t (fun _ _ e => e))
  have m4_8 : w14.cell? ⟨sb, 8, none⟩ = some (.slice none 0 0) := (blk_cell HBA4.out 8).trans rfl
  have fz4 : w14.frozen? ⟨sb, 8, none⟩ = false := blk_free HBA4.out 8
  clear ow4 s4 t4 p4 HX4 HBB3 SN3 RN3 it4 pe4 LN0_3 LN1_3 LN2_3 LN3_3
  have HIS : Hid (∀ W2, Tch (fun j => j <= sb) w15 W2 -> IsSt W2 (.agg #[.int .i64 brk, .int .i64 nid, .int .i64 nseq, .int .i64 tx, .slice a0 nm c0, .slice a1 nw c1, .slice a2 ne c2, .slice a3 no c3, .slice a4 nn c4]) ⟨brk, nid, nseq, tx, ms, waits, ends, opens, noes⟩) := fun W2 t => ⟨_, _, _, _, _, rfl, LN0_4.out W2 t, LN1_4.out W2 t, LN2_4.out W2 t, LN3_4.out W2 t, LN4_4.out W2 t⟩
  have HMY := Lib.hid (may_any ⟨brk, nid, nseq, tx, ms, waits, ends, opens, noes⟩ HOK.out _ w15 (HIS.out _ (Tch.refl _ _)))
  rw [HMB.out] at HMY
  have gd : w15.cell? ⟨pb + 1, 0, none⟩ = some (.bool true) := (blk_cell SN4.out.gbh 0).trans rfl
  have p5 : w15.cell? ⟨pb, 0, none⟩ = some (.pointer (some ⟨ib, 0, none⟩)) := (blk_cell SN4.out.pbh 0).trans rfl
  obtain ⟨b0, b1, b2, b3, b4, b5, b6, b7, b8⟩ := kc9 HBB4.out
  have HEN : Hid (Calls Tryz.prog 123 #[.pointer (some ⟨ib, 0, none⟩)] w15 fun e w' => e = .returned (.bool true) /\ w15 = w') := InS.ended (by have h1 := SN4.out.inn; rwa [HL9.out] at h1)
  go_wp2_with fail
  refine HEN.out.mono ?_
  rintro e wy ⟨rfl, rfl⟩
  go_wp2_with fail
  refine HMY.out.mono ?_
  rintro e wf2 ⟨rfl, tf⟩
  have TF := Lib.hid tf
  have RF := Lib.hid (blk_tch tf RN4.out (fun h => h))
  have BF := Lib.hid (blk_tch tf HBB4.out (fun h => h))
  clear tf b0 b1 b2 b3 b4 b5 b6 b7 b8 gd p5
  obtain ⟨wz, hwz, HRZ, TZ⟩ : ∃ X, ((((((((wf2.setCell ⟨rb, 0, none⟩ (.int .i64 brk)).setCell ⟨rb, 1, none⟩ (.int .i64 nid)).setCell ⟨rb, 2, none⟩ (.int .i64 nseq)).setCell ⟨rb, 3, none⟩ (.int .i64 tx)).setCell ⟨rb, 4, none⟩ (.slice a0 nm c0)).setCell ⟨rb, 5, none⟩ (.slice a1 nw c1)).setCell ⟨rb, 6, none⟩ (.slice a2 ne c2)).setCell ⟨rb, 7, none⟩ (.slice a3 no c3)).setCell ⟨rb, 8, none⟩ (.slice a4 nn c4) = X /\ Hid (X.heap[rb]? = some (.cells #[.int .i64 brk, .int .i64 nid, .int .i64 nseq, .int .i64 tx, .slice a0 nm c0, .slice a1 nw c1, .slice a2 ne c2, .slice a3 no c3, .slice a4 nn c4] 27 (0, 0))) /\ Hid (Tch (fun k => k = rb) wf2 X) := by
   obtain ⟨g1, g2⟩ := set9e (.int .i64 brk) (.int .i64 nid) (.int .i64 nseq) (.int .i64 tx) (.slice a0 nm c0) (.slice a1 nw c1) (.slice a2 ne c2) (.slice a3 no c3) (.slice a4 nn c4) RF.out
   exact ⟨_, rfl, g1, g2⟩
  obtain ⟨b0, b1, b2, b3, b4, b5, b6, b7, b8⟩ := kc9 BF.out
  obtain ⟨r0, r1, r2, r3, r4, r5, r6, r7, r8⟩ := kc9 RF.out
  obtain ⟨fr0, fr1, fr2, fr3, fr4, fr5, fr6, fr7, fr8⟩ := kf9 RF.out
  go_wp2_with fail
  obtain ⟨q0, q1, q2, q3, q4, q5, q6, q7, q8⟩ := kc9 HRZ.out
  refine bodyPost_ret (v := .tuple #[.agg #[.int .i64 brk, .int .i64 nid, .int .i64 nseq, .int .i64 tx, .slice a0 nm c0, .slice a1 nw c1, .slice a2 ne c2, .slice a3 no c3, .slice a4 nn c4], .int .i64 0]) (by simp [results, Tryz.results42, go_sem, q0, q1, q2, q3, q4, q5, q6, q7, q8]) rfl ?_
  refine ⟨_, rfl, fun W2 t => HIS.out W2 ((TF.out.no.trans TZ.out (fun k _ e => by have h1 := HSB.out; have h2 := HRB.out; omega)).trans t (fun k _ e => by have h1 := HSB.out; have h2 := HRB.out; omega)), ?_⟩
  exact ((SN4.out.inn.tch).trans0 TF.out).fresh TZ.out (fun k e => by have h2 := HRB.out; omega)
end
end Go.Proofs.YtfedhcnmdmhppaaGreat
