/- Part 23 of what the proof of OrderRoom rests on. No condition. -/
import Derived.Test.YtfedhcnmdmhppaaGreatPOrderRoom05
import Derived.Test.YtfedhcnmdmhppaaGreatPOrderRoom13
import Derived.Test.YtfedhcnmdmhppaaGreatPOrderRoom15
import Derived.Test.YtfedhcnmdmhppaaGreatPOrderRoom22
namespace Go.Proofs.YtfedhcnmdmhppaaGreat
set_option maxRecDepth 100000
set_option maxHeartbeats 60000000
set_option linter.unusedVariables false
set_option linter.unusedSimpArgs false
section
open Go.RowKit Go.Maps
structure OutK (K : Nat -> Prop) (w1 : World) (ob : Nat) (bs : List UInt8) (w : World) : Prop where
 ex : ∃ v, IsOut w ob v bs /\ ∀ k, v.ownBlock = some k -> ¬ K k
 tch : Tch (fun k => ¬ K k) w1 w
 ob : ¬ K ob
 lt : ∀ k, K k -> k < w1.heap.size
theorem OutK.keep {K : Nat -> Prop} {w1 w w' : World} {ob : Nat} {bs : List UInt8} (h : OutK K w1 ob bs w) (t : Tch No w w') : OutK K w1 ob bs w' := by
 obtain ⟨v, h1, h2⟩ := h.ex
 exact ⟨⟨v, h1.tch t (fun _ _ h => h), h2⟩, h.tch.trans0 t, h.ob, h.lt⟩
theorem OutK.step {K : Nat -> Prop} {w1 w w' : World} {ob : Nat} {v : Value} {bs2 : List UInt8} (t : Tch (fun k => ¬ K k) w1 w) (ho : ¬ K ob) (hlt : ∀ k, K k -> k < w1.heap.size) (hv : ∀ k, v.ownBlock = some k -> ¬ K k) (h : OutPost w ob v bs2 w') : OutK K w1 ob bs2 w' := by
 obtain ⟨v2, h1, h2, h3⟩ := h
 refine ⟨⟨v2, h1, fun k hk => ?_⟩, t.trans h2 (fun k _ hk => ?_), ho, hlt⟩
 ·rcases h3 k hk with h | h
  ·exact hv k h
  ·intro e
   have h4 := hlt k e
   have h5 := t.size
   omega
 ·rcases hk with rfl | hk
  ·exact ho
  ·exact hv k hk
theorem OutK.base {K : Nat -> Prop} {w1 w : World} {ob : Nat} {bs : List UInt8} (h : OutK K w1 ob bs w) : OutK K w ob bs w :=
 ⟨h.ex, Tch.refl _ _, h.ob, fun k hk => Nat.lt_of_lt_of_le (h.lt k hk) h.tch.size⟩
theorem OutK.add {K : Nat -> Prop} {w1 w : World} {ob : Nat} {bs : List UInt8} (h : OutK K w1 ob bs w) (o : Obj) : OutK (fun k => K k ∨ k = w.heap.size) (w.alloc o) ob bs (w.alloc o) := by
 obtain ⟨v, h1, h2⟩ := h.ex
 have hlt := blk_lt h1.cell
 have hvl := own_loc h1.own
 refine ⟨⟨v, h1.tch (Tch.alloc w o) (fun _ _ h => h), fun k hk e => ?_⟩, Tch.refl _ _, fun e => ?_, fun k e => ?_⟩
 ·rcases e with e | e
  ·exact h2 k hk e
  ·have := hvl k hk; omega
 ·rcases e with e | e
  ·exact h.ob e
  ·omega
 ·have hs : (w.alloc o).heap.size = w.heap.size + 1 := by simp
  rcases e with e | e
  ·have := h.lt k e; have := h.tch.size; omega
  ·omega
theorem OutK.back {K K' : Nat -> Prop} {w1 w2 w : World} {ob : Nat} {bs : List UInt8} (h : OutK K' w2 ob bs w) (t : Tch (fun k => ¬ K k) w1 w2) (hK : ∀ k, K k -> K' k) (hlt : ∀ k, K k -> k < w1.heap.size) : OutK K w1 ob bs w := by
 obtain ⟨v, h1, h2⟩ := h.ex
 exact ⟨⟨v, h1, fun k hk e => h2 k hk (hK k e)⟩, t.trans h.tch (fun k _ e e2 => e (hK k e2)), fun e => h.ob (hK _ e), hlt⟩
theorem OutK.cell {K : Nat -> Prop} {w1 w : World} {ob : Nat} {bs : List UInt8} (h : OutK K w1 ob bs w) {p : Addr} {x : Value} (hp : K p.block) (hc : w1.cell? p = some x) : w.cell? p = some x := h.tch.cell hc (fun e => e hp)
theorem OutK.small {K : Nat -> Prop} {w1 w : World} {ob : Nat} {bs : List UInt8} (h : OutK K w1 ob bs w) (hl : bs.length <= 900000) (n : Nat) (hn : n < 9223372036854775808) :
  Calls Tryz.prog 124 #[.pointer (some ⟨ob, 0, none⟩), .int .i64 n] w fun e w' => e = .returned (.tuple #[]) /\ OutK K w1 ob (bs ++ leBytes 2 n) w' := by
 obtain ⟨v, h1, h2⟩ := h.ex
 refine (osmall_any ob v bs n w hn h1 (by omega)).mono ?_
 rintro e w' ⟨rfl, hP⟩
 exact ⟨rfl, OutK.step h.tch h.ob h.lt h2 hP⟩
theorem OutK.smallz {K : Nat -> Prop} {w1 w : World} {ob : Nat} {bs : List UInt8} (h : OutK K w1 ob bs w) (hl : bs.length <= 900000) (n : Int) (h0 : 0 <= n) (hn : n < 9223372036854775808) :
  Calls Tryz.prog 124 #[.pointer (some ⟨ob, 0, none⟩), .int .i64 n] w fun e w' => e = .returned (.tuple #[]) /\ OutK K w1 ob (bs ++ leBytes 2 n.toNat) w' := by
 have := h.small hl n.toNat (by omega)
 rwa [show ((n.toNat : Nat) : Int) = n by omega] at this
theorem OutK.long {K : Nat -> Prop} {w1 w : World} {ob : Nat} {bs : List UInt8} (h : OutK K w1 ob bs w) (hl : bs.length <= 900000) (n : Int) (hn : I64 n) :
  Calls Tryz.prog 125 #[.pointer (some ⟨ob, 0, none⟩), .int .i64 n] w fun e w' => e = .returned (.tuple #[]) /\ OutK K w1 ob (bs ++ leBytes 8 (u64of n)) w' := by
 obtain ⟨v, h1, h2⟩ := h.ex
 refine (olong_any ob v bs n w hn.1 hn.2 h1 (by omega)).mono ?_
 rintro e w' ⟨rfl, hP⟩
 exact ⟨rfl, OutK.step h.tch h.ob h.lt h2 hP⟩
theorem OutK.text {K : Nat -> Prop} {w1 w : World} {ob : Nat} {bs : List UInt8} (h : OutK K w1 ob bs w) (hl : bs.length <= 900000) (s : Txt) (hs : s.length <= 65535) (q : ByteArray) (hq : (⟨s.toArray⟩ : ByteArray) = q) :
  Calls Tryz.prog 128 #[.pointer (some ⟨ob, 0, none⟩), .string q] w fun e w' => e = .returned (.tuple #[]) /\ OutK K w1 ob (bs ++ textM s) w' := by
 subst hq
 obtain ⟨v, h1, h2⟩ := h.ex
 refine (otext_any ob v bs ⟨s.toArray⟩ w h1 hl (by show s.toArray.size <= 65535; simpa using hs)).mono ?_
 rintro e w' ⟨rfl, hP⟩
 refine ⟨rfl, ?_⟩
 have := OutK.step h.tch h.ob h.lt h2 hP
 rwa [show bs ++ leBytes 2 (ByteArray.size ⟨s.toArray⟩) ++ (ByteArray.data ⟨s.toArray⟩).toList = bs ++ textM s by unfold textM; rw [<- List.append_assoc]; rfl] at this
theorem OutK.cell0 {K : Nat -> Prop} {w1 w : World} {ob : Nat} {bs : List UInt8} (h : OutK K w1 ob bs w) (hl : bs.length <= lim) : ∃ v, w.cell? ⟨ob, 0, none⟩ = some v /\ SlB w v bs /\ (bs ≠ [] -> v ≠ .slice none 0 0) /\ ∀ k, v.ownBlock = some k -> ¬ K k := by
 obtain ⟨v, h1, h2⟩ := h.ex
 refine ⟨v, h1.cell0, SlB.ofRow h1.own hl, fun hb e => ?_, h2⟩
 subst e
 rcases h1.own.2 with ⟨_, h0⟩ | ⟨_, _, _, h0, _⟩
 ·exact hb (List.eq_nil_of_length_eq_zero h0)
 ·cases h0
def encMsgM (m : MsgM) : List UInt8 := leBytes 8 (u64of m.id) ++ textM m.q ++ textM m.b ++ leBytes 8 (u64of m.seq) ++ leBytes 2 m.cnt.toNat ++ leBytes 8 (u64of m.who)
def recBr (b : BrM) : RecM := ⟨4, b.tid, 0, false, [], b.puts⟩
def recEnd (e : EndM) : RecM := ⟨5, e.tid, 0, e.yes, [], []⟩
def recPend (p : PendM) : RecM := ⟨6, p.tid, 0, false, p.parts, []⟩
def encBrM (b : BrM) : List UInt8 := textM (encRecM (recBr b))
def encEndM (e : EndM) : List UInt8 := textM (encRecM (recEnd e))
def encPendM (p : PendM) : List UInt8 := textM (encRecM (recPend p))
def listM {α : Type} (enc : α -> List UInt8) (l : List α) : List UInt8 := leBytes 2 l.length ++ l.flatMap enc
def encStM (s : StM) : List UInt8 :=
 leBytes 2 s.broker.toNat ++ leBytes 8 (u64of s.nid) ++ leBytes 8 (u64of s.nseq) ++ leBytes 8 (u64of s.tx) ++ listM encMsgM s.ms ++ listM encBrM s.waits ++ listM encEndM s.ends ++ listM encPendM s.opens ++ listM encPendM s.noes
theorem frame_any (K : Nat -> Prop) (w1 : World) (ob : Nat) (bs : List UInt8) (r : RecM) (hok : OkRec r) (hb : recB r = true) (hl : bs.length <= 900000) (hr : (encRecM r).length <= 65535) (v : Value) (w : World) (h : IsRec w v r) (ho : OutK K w1 ob bs w) :
  Calls Tryz.prog 131 #[.pointer (some ⟨ob, 0, none⟩), v] w fun e w' => e = .returned (.tuple #[]) /\ OutK K w1 ob (bs ++ textM (encRecM r)) w' := by
 have HE : Hid (∀ W, Tch No w W -> Calls Tryz.prog 179 #[v] W fun e w' => Tch No W w' /\ ∃ v', e = .returned v' /\ SlB w' v' (encRecM r)) := fun W t => (recencode_any r hok v W (h.keep t)).mono (fun e w' hh => by
  obtain ⟨h1, h2 | ⟨_, v', h3, h4, _⟩⟩ := hh
  ·rw [hb] at h2; cases h2.1
  ·exact ⟨h1, v', h3, h4⟩)
 obtain ⟨vp, vu, rfl, hp, hu⟩ := h
 obtain ⟨ap, cp, rfl, _, _⟩ := CellsAt.shape hp
 obtain ⟨au, cu, rfl, _, _⟩ := CellsAt.shape hu
 have HO := Lib.hid ho
 clear hp hu ho hok hb
 go_enter Tryz.func131, Tryz.ntmps131
 go_wp2_with fail
 refine (HE.out _ (Tch.alloc _ _)).mono ?_
 rintro e w2 ⟨t2, v2, rfl, h2⟩
 have hst := h2.str (P := Tryz.prog) Tryz.underlying48 Tryz.underlying5 Tryz.underlying9
 obtain ⟨q, hq⟩ : ∃ q : ByteArray, (⟨(encRecM r).toArray⟩ : ByteArray) = q := ⟨_, rfl⟩
 rw [hq] at hst
 have HT := Lib.hid ((HO.out.keep ((Tch.alloc _ _).trans0 t2)).text hl (encRecM r) hr q hq)
 clear hq t2 h2
 go_wp2_with fail
 refine HT.out.mono ?_
 rintro e w3 ⟨rfl, h3⟩
 go_wp2_with fail
 go_end0
 exact ⟨rfl, h3⟩
structure MsgSz (m : MsgM) : Prop where
 id : I64 m.id
 q : m.q.length <= 300
 b : m.b.length <= 300
 seq : I64 m.seq
 cnt : 0 <= m.cnt /\ m.cnt < 9223372036854775808
 who : I64 m.who
theorem enc1_any (K : Nat -> Prop) (w1 : World) (ob pb : Nat) (hK : K pb) (hp : w1.cell? ⟨pb, 0, none⟩ = some (.pointer (some ⟨ob, 0, none⟩))) (m : MsgM) (hm : MsgSz m) (bs : List UInt8) (hl : bs.length <= 890000) (w : World) (h : OutK K w1 ob bs w) :
  Calls Tryz.prog 127 #[.agg #[.int .i64 m.id, .string ⟨m.q.toArray⟩, .string ⟨m.b.toArray⟩, .int .i64 m.seq, .int .i64 m.cnt, .int .i64 m.who], .pointer (some ⟨pb, 0, none⟩)] w fun e w' => e = .returned (.tuple #[]) /\ OutK K w1 ob (bs ++ encMsgM m) w' := by
 obtain ⟨x0, x1, x2, x3, x4, x5⟩ := m
 have HM := Lib.hid hm
 have hq1l : x1.length <= 300 := hm.q
 have hq2l : x2.length <= 300 := hm.b
 simp only
 obtain ⟨q1, hq1⟩ : ∃ q : ByteArray, (⟨x1.toArray⟩ : ByteArray) = q := ⟨_, rfl⟩
 obtain ⟨q2, hq2⟩ : ∃ q : ByteArray, (⟨x2.toArray⟩ : ByteArray) = q := ⟨_, rfl⟩
 rw [hq1, hq2]
 have HQ1 := Lib.hid hq1
 have HQ2 := Lib.hid hq2
 obtain ⟨K2, hK2⟩ : ∃ K2 : Nat -> Prop, K2 = fun k => K k ∨ k = w.heap.size := ⟨_, rfl⟩
 obtain ⟨wA, hwA⟩ : ∃ x, w.alloc (.cells #[.int .i64 x0, .string q1, .string q2, .int .i64 x3, .int .i64 x4, .int .i64 x5] 50) = x := ⟨_, rfl⟩
 have O1 : Hid (OutK K2 wA ob bs wA) := by rw [Hid, <- hwA, hK2]; exact h.add _
 have HBK : Hid (∀ bs' W, OutK K2 wA ob bs' W -> OutK K w1 ob bs' W) := fun bs' W hh => OutK.back hh (h.tch.trans0 (by rw [<- hwA]; exact Tch.alloc _ _)) (fun k hk => by rw [hK2]; exact .inl hk) h.lt
 have HPB : Hid (∀ bs' W, OutK K2 wA ob bs' W -> W.cell? ⟨pb, 0, none⟩ = some (.pointer (some ⟨ob, 0, none⟩))) := fun bs' W hh => hh.cell (by rw [hK2]; exact .inl hK) (by rw [<- hwA]; exact (Tch.alloc _ _).cell (h.cell hK hp) (fun h => h))
 have HBX : Hid (∀ bs' W, OutK K2 wA ob bs' W -> ∀ i (hi : i < (#[.int .i64 x0, .string q1, .string q2, .int .i64 x3, .int .i64 x4, .int .i64 x5] : Array Value).size), W.cell? ⟨w.heap.size, i, none⟩ = some ((#[.int .i64 x0, .string q1, .string q2, .int .i64 x3, .int .i64 x4, .int .i64 x5] : Array Value)[i])) := fun bs' W hh i hi => hh.cell (by rw [hK2]; exact .inr rfl) (by rw [<- hwA]; exact box_cell w _ _ i hi)
 clear hq1 hq2 h hK2 hm hp
 have p1 := HPB.out _ _ O1.out
 have c0 := HBX.out _ _ O1.out 0 (by simp)
 simp only [List.getElem_toArray, List.getElem_cons_zero, List.getElem_cons_succ] at c0
 go_enter Tryz.func127, Tryz.ntmps127
 go_wp2_with fail
 refine (O1.out.long (by (try simp only [List.length_append, textM, leBytes_length]); omega) x0 HM.out.id).mono ?_
 rintro e w2 ⟨rfl, o2⟩
 have O2 := Lib.hid o2
 clear o2 p1 c0
 have p2 := HPB.out _ _ O2.out
 have c1 := HBX.out _ _ O2.out 1 (by simp)
 simp only [List.getElem_toArray, List.getElem_cons_zero, List.getElem_cons_succ] at c1
 go_wp2_with fail
 refine (O2.out.text (by (try simp only [List.length_append, textM, leBytes_length]); omega) x1 (by omega) q1 HQ1.out).mono ?_
 rintro e w3 ⟨rfl, o3⟩
 have O3 := Lib.hid o3
 clear o3 p2 c1
 have p3 := HPB.out _ _ O3.out
 have c2 := HBX.out _ _ O3.out 2 (by simp)
 simp only [List.getElem_toArray, List.getElem_cons_zero, List.getElem_cons_succ] at c2
 go_wp2_with fail
 refine (O3.out.text (by (try simp only [List.length_append, textM, leBytes_length]); omega) x2 (by omega) q2 HQ2.out).mono ?_
 rintro e w4 ⟨rfl, o4⟩
 have O4 := Lib.hid o4
 clear o4 p3 c2
 have p4 := HPB.out _ _ O4.out
 have c3 := HBX.out _ _ O4.out 3 (by simp)
 simp only [List.getElem_toArray, List.getElem_cons_zero, List.getElem_cons_succ] at c3
 go_wp2_with fail
 refine (O4.out.long (by (try simp only [List.length_append, textM, leBytes_length]); omega) x3 HM.out.seq).mono ?_
 rintro e w5 ⟨rfl, o5⟩
 have O5 := Lib.hid o5
 clear o5 p4 c3
 have p5 := HPB.out _ _ O5.out
 have c4 := HBX.out _ _ O5.out 4 (by simp)
 simp only [List.getElem_toArray, List.getElem_cons_zero, List.getElem_cons_succ] at c4
 go_wp2_with fail
 refine (O5.out.smallz (by (try simp only [List.length_append, textM, leBytes_length]); omega) x4 HM.out.cnt.1 HM.out.cnt.2).mono ?_
 rintro e w6 ⟨rfl, o6⟩
 have O6 := Lib.hid o6
 clear o6 p5 c4
 have p6 := HPB.out _ _ O6.out
 have c5 := HBX.out _ _ O6.out 5 (by simp)
 simp only [List.getElem_toArray, List.getElem_cons_zero, List.getElem_cons_succ] at c5
 go_wp2_with fail
 refine (O6.out.long (by (try simp only [List.length_append, textM, leBytes_length]); omega) x5 HM.out.who).mono ?_
 rintro e w7 ⟨rfl, o7⟩
 have O7 := Lib.hid o7
 clear o7 p6 c5
 go_wp2_with fail
 go_end0
 refine ⟨rfl, ?_⟩
 have := HBK.out _ _ O7.out
 simpa [encMsgM, List.append_assoc] using this
theorem enc2_any (K : Nat -> Prop) (w1 : World) (ob pb : Nat) (hK : K pb) (hp : w1.cell? ⟨pb, 0, none⟩ = some (.pointer (some ⟨ob, 0, none⟩))) (m : BrM) (a : Option Addr) (n c : Nat) (hv : ∀ W, Tch (fun k => ¬ K k) w1 W -> IsPuts W (.slice a n c) m.puts) (hok : OkRec (recBr m)) (hb : recB (recBr m) = true) (hr : (encRecM (recBr m)).length <= 65535) (bs : List UInt8) (hl : bs.length <= 890000) (w : World) (h : OutK K w1 ob bs w) :
  Calls Tryz.prog 130 #[.agg #[.int .i64 m.tid, .slice a n c], .pointer (some ⟨pb, 0, none⟩)] w fun e w' => e = .returned (.tuple #[]) /\ OutK K w1 ob (bs ++ textM (encRecM (recBr m))) w' := by
 have HV := Lib.hid hv
 have HB := Lib.hid hb
 have HOK := Lib.hid hok
 obtain ⟨x0, x1⟩ := m
 have HRC : Hid (∀ W, Tch (fun k => ¬ K k) w1 W -> IsRec W (.agg #[.int .i64 4, .int .i64 x0, .int .i64 0, .bool false, .slice none 0 0, .slice a n c]) (recBr ⟨x0, x1⟩)) := fun W t => ⟨_, _, rfl, CellsAt.nil _ _, HV.out W t⟩
 clear hb hok hv HV
 simp only
 have T1 : Hid (Tch No w (w.alloc (.cells #[.int .i64 x0, .slice a n c] 81))) := Tch.alloc _ _
 have O1 : Hid (OutK K w1 ob bs (w.alloc (.cells #[.int .i64 x0, .slice a n c] 81))) := h.keep T1.out
 have p1 := O1.out.cell hK hp
 have c0 := box_cell w #[.int .i64 x0, .slice a n c] 81 0 (by simp)
 have c1 := box_cell w #[.int .i64 x0, .slice a n c] 81 1 (by simp)
 simp only [List.getElem_toArray, List.getElem_cons_zero, List.getElem_cons_succ] at c0 c1
 have HF := Lib.hid (frame_any K w1 ob bs (recBr ⟨x0, x1⟩) HOK.out HB.out (by omega) hr _ _ (HRC.out _ O1.out.tch) O1.out)
 clear h hp
 go_enter Tryz.func130, Tryz.ntmps130
 go_wp2_with fail
 refine HF.out.mono ?_
 rintro e w2 ⟨rfl, o2⟩
 go_wp2_with fail
 go_end0
 exact ⟨rfl, o2⟩
theorem enc3_any (K : Nat -> Prop) (w1 : World) (ob pb : Nat) (hK : K pb) (hp : w1.cell? ⟨pb, 0, none⟩ = some (.pointer (some ⟨ob, 0, none⟩))) (m : EndM)  (hok : OkRec (recEnd m)) (hb : recB (recEnd m) = true) (hr : (encRecM (recEnd m)).length <= 65535) (bs : List UInt8) (hl : bs.length <= 890000) (w : World) (h : OutK K w1 ob bs w) :
  Calls Tryz.prog 133 #[.agg #[.int .i64 m.tid, .bool m.yes], .pointer (some ⟨pb, 0, none⟩)] w fun e w' => e = .returned (.tuple #[]) /\ OutK K w1 ob (bs ++ textM (encRecM (recEnd m))) w' := by
 have HB := Lib.hid hb
 have HOK := Lib.hid hok
 obtain ⟨x0, x1⟩ := m
 have HRC : Hid (∀ W, Tch (fun k => ¬ K k) w1 W -> IsRec W (.agg #[.int .i64 5, .int .i64 x0, .int .i64 0, .bool x1, .slice none 0 0, .slice none 0 0]) (recEnd ⟨x0, x1⟩)) := fun W t => ⟨_, _, rfl, CellsAt.nil _ _, CellsAt.nil _ _⟩
 clear hb hok 
 simp only
 have T1 : Hid (Tch No w (w.alloc (.cells #[.int .i64 x0, .bool x1] 59))) := Tch.alloc _ _
 have O1 : Hid (OutK K w1 ob bs (w.alloc (.cells #[.int .i64 x0, .bool x1] 59))) := h.keep T1.out
 have p1 := O1.out.cell hK hp
 have c0 := box_cell w #[.int .i64 x0, .bool x1] 59 0 (by simp)
 have c1 := box_cell w #[.int .i64 x0, .bool x1] 59 1 (by simp)
 simp only [List.getElem_toArray, List.getElem_cons_zero, List.getElem_cons_succ] at c0 c1
 have HF := Lib.hid (frame_any K w1 ob bs (recEnd ⟨x0, x1⟩) HOK.out HB.out (by omega) hr _ _ (HRC.out _ O1.out.tch) O1.out)
 clear h hp
 go_enter Tryz.func133, Tryz.ntmps133
 go_wp2_with fail
 refine HF.out.mono ?_
 rintro e w2 ⟨rfl, o2⟩
 go_wp2_with fail
 go_end0
 exact ⟨rfl, o2⟩
theorem enc4_any (K : Nat -> Prop) (w1 : World) (ob pb : Nat) (hK : K pb) (hp : w1.cell? ⟨pb, 0, none⟩ = some (.pointer (some ⟨ob, 0, none⟩))) (m : PendM) (a : Option Addr) (n c : Nat) (hv : ∀ W, Tch (fun k => ¬ K k) w1 W -> IsInts W (.slice a n c) m.parts) (hok : OkRec (recPend m)) (hb : recB (recPend m) = true) (hr : (encRecM (recPend m)).length <= 65535) (bs : List UInt8) (hl : bs.length <= 890000) (w : World) (h : OutK K w1 ob bs w) :
  Calls Tryz.prog 134 #[.agg #[.int .i64 m.tid, .slice a n c], .pointer (some ⟨pb, 0, none⟩)] w fun e w' => e = .returned (.tuple #[]) /\ OutK K w1 ob (bs ++ textM (encRecM (recPend m))) w' := by
 have HV := Lib.hid hv
 have HB := Lib.hid hb
 have HOK := Lib.hid hok
 obtain ⟨x0, x1⟩ := m
 have HRC : Hid (∀ W, Tch (fun k => ¬ K k) w1 W -> IsRec W (.agg #[.int .i64 6, .int .i64 x0, .int .i64 0, .bool false, .slice a n c, .slice none 0 0]) (recPend ⟨x0, x1⟩)) := fun W t => ⟨_, _, rfl, HV.out W t, CellsAt.nil _ _⟩
 clear hb hok hv HV
 simp only
 have T1 : Hid (Tch No w (w.alloc (.cells #[.int .i64 x0, .slice a n c] 63))) := Tch.alloc _ _
 have O1 : Hid (OutK K w1 ob bs (w.alloc (.cells #[.int .i64 x0, .slice a n c] 63))) := h.keep T1.out
 have p1 := O1.out.cell hK hp
 have c0 := box_cell w #[.int .i64 x0, .slice a n c] 63 0 (by simp)
 have c1 := box_cell w #[.int .i64 x0, .slice a n c] 63 1 (by simp)
 simp only [List.getElem_toArray, List.getElem_cons_zero, List.getElem_cons_succ] at c0 c1
 have HF := Lib.hid (frame_any K w1 ob bs (recPend ⟨x0, x1⟩) HOK.out HB.out (by omega) hr _ _ (HRC.out _ O1.out.tch) O1.out)
 clear h hp
 go_enter Tryz.func134, Tryz.ntmps134
 go_wp2_with fail
 refine HF.out.mono ?_
 rintro e w2 ⟨rfl, o2⟩
 go_wp2_with fail
 go_end0
 exact ⟨rfl, o2⟩
theorem slist_msg (K : Nat -> Prop) (w0 w1 : World) (ob g : Nat) (lb : Array Value) (eg : ∀ args w, (callFunc g args).run Tryz.prog w = .ok (.enter g args) w) (l : List MsgM) (n : Nat) (hn : l.length = n) (hn2 : n <= 100000) (bsf : Nat -> List UInt8) (hK : ∀ k, k < w0.heap.size -> K k) (t01 : Tch No w0 w1)
  (hp : ∀ k (hk : k < l.length) W, OutK K w1 ob (bsf k) W -> Calls Tryz.prog g (#[.agg #[.int .i64 l[k].id, .string ⟨l[k].q.toArray⟩, .string ⟨l[k].b.toArray⟩, .int .i64 l[k].seq, .int .i64 l[k].cnt, .int .i64 l[k].who]] ++ lb) W fun e w' => e = .returned (.tuple #[]) /\ OutK K w1 ob (bsf (k + 1)) w')
  (bs : List UInt8) (hl : bs.length <= 890000) (h0 : bsf 0 = bs ++ leBytes 2 n) (v : Value) (w : World) (hv : CellsAt w0 v n 6 (l.flatMap encMsg)) (hO : OutK K w1 ob bs w) :
  Calls Tryz.prog 126 #[.pointer (some ⟨ob, 0, none⟩), v, .func (.func g) #[] lb] w fun e w' => e = .returned (.tuple #[]) /\ OutK K w1 ob (bsf n) w' := by
 obtain ⟨a, c, rfl, _, _⟩ := CellsAt.shape hv
 have HP := Lib.hid hp
 have HN := Lib.hid hn
 have HV := Lib.hid hv
 have HT : Hid (∀ bs' W, OutK K w1 ob bs' W -> Tch No w0 W) := fun bs' W hh => t01.fresh hh.tch (fun k hk => Nat.le_of_not_lt (fun e => hk (hK k e)))
 have HS := Lib.hid (hO.small (by omega) n (by omega))
 rw [<- h0] at HS
 clear hp hn hv hO h0
 go_enter Tryz.func126, Tryz.ntmps126
 go_wp2_with fail
 refine HS.out.mono ?_
 rintro e w2 ⟨rfl, o2⟩
 have O2 := Lib.hid o2
 clear o2
 go_wp2_with fail
 go_loopg [14] n (fun kx sx wr => ∃ k : Nat, sx = .int .i64 k /\ k <= n /\ n - k <= kx /\ Hid (OutK K w1 ob (bsf k) wr))
 case atStart => exact ⟨0, rfl, Nat.zero_le _, by omega, O2.out⟩
 case round =>
  obtain ⟨k, rfl, hk, hgk, OO⟩ := hrel
  by_cases hlt : k < n
  ·have hkl : k < l.length := by rw [HN.out]; exact hlt
   have hb : ∃ b o, a = some ⟨b, o, none⟩ /\ wr.cell? ⟨b, o + k * 6, none⟩ = some (.int .i64 l[k].id) /\ wr.cell? ⟨b, o + k * 6 + 1, none⟩ = some (strV l[k].q) /\ wr.cell? ⟨b, o + k * 6 + 2, none⟩ = some (strV l[k].b) /\ wr.cell? ⟨b, o + k * 6 + 3, none⟩ = some (.int .i64 l[k].seq) /\ wr.cell? ⟨b, o + k * 6 + 4, none⟩ = some (.int .i64 l[k].cnt) /\ wr.cell? ⟨b, o + k * 6 + 5, none⟩ = some (.int .i64 l[k].who) := by
    have hm := HV.out
    rw [<- HN.out] at hm
    obtain ⟨b, o, cap2, h1, h2⟩ := CellsAt.elem (enc := encMsg) (m := 6) (fun _ => rfl) hm hkl
    injection h1 with h1 _ _
    have T := HT.out _ _ OO.out
    exact ⟨b, o, h1, T.cell (h2 0 _ (by decide) rfl) (fun h => h), T.cell (h2 1 _ (by decide) rfl) (fun h => h), T.cell (h2 2 _ (by decide) rfl) (fun h => h), T.cell (h2 3 _ (by decide) rfl) (fun h => h), T.cell (h2 4 _ (by decide) rfl) (fun h => h), T.cell (h2 5 _ (by decide) rfl) (fun h => h)⟩
   obtain ⟨b, o, rfl, e0, e1, e2, e3, e4, e5⟩ := hb
   have HC := Lib.hid (fun W t => HP.out k hkl W (OO.out.keep t))
   obtain ⟨x, hx⟩ : ∃ x, l[k] = x := ⟨_, rfl⟩
   rw [hx] at HC e0 e1 e2 e3 e4 e5
   obtain ⟨x0, x1, x2, x3, x4, x5⟩ := x
   simp only [strV] at HC e0 e1 e2 e3 e4 e5
   obtain ⟨q1, hq1⟩ : ∃ q : ByteArray, (⟨x1.toArray⟩ : ByteArray) = q := ⟨_, rfl⟩
   obtain ⟨q2, hq2⟩ : ∃ q : ByteArray, (⟨x2.toArray⟩ : ByteArray) = q := ⟨_, rfl⟩
   rw [hq1] at HC e1
   rw [hq2] at HC e2
   clear hq1 hq2
   clear HP hx
   go_wp2_with fail
   refine (HC.out _ ((Tch.alloc _ _))).mono ?_
   rintro e w3 ⟨rfl, o3⟩
   go_wp2_with fail
   go_roundg (n - (k + 1))
   case measure => omega
   case rel => exact ⟨k + 1, by go_num, by omega, by omega, o3⟩
  ·obtain rfl : k = n := by omega
   clear hlt
   go_wp2_with fail
   go_end0
   exact ⟨rfl, OO.out⟩
theorem slist_end (K : Nat -> Prop) (w0 w1 : World) (ob g : Nat) (lb : Array Value) (eg : ∀ args w, (callFunc g args).run Tryz.prog w = .ok (.enter g args) w) (l : List EndM) (n : Nat) (hn : l.length = n) (hn2 : n <= 100000) (bsf : Nat -> List UInt8) (hK : ∀ k, k < w0.heap.size -> K k) (t01 : Tch No w0 w1)
  (hp : ∀ k (hk : k < l.length) W, OutK K w1 ob (bsf k) W -> Calls Tryz.prog g (#[.agg #[.int .i64 l[k].tid, .bool l[k].yes]] ++ lb) W fun e w' => e = .returned (.tuple #[]) /\ OutK K w1 ob (bsf (k + 1)) w')
  (bs : List UInt8) (hl : bs.length <= 890000) (h0 : bsf 0 = bs ++ leBytes 2 n) (v : Value) (w : World) (hv : CellsAt w0 v n 2 (l.flatMap encEnd)) (hO : OutK K w1 ob bs w) :
  Calls Tryz.prog 132 #[.pointer (some ⟨ob, 0, none⟩), v, .func (.func g) #[] lb] w fun e w' => e = .returned (.tuple #[]) /\ OutK K w1 ob (bsf n) w' := by
 obtain ⟨a, c, rfl, _, _⟩ := CellsAt.shape hv
 have HP := Lib.hid hp
 have HN := Lib.hid hn
 have HV := Lib.hid hv
 have HT : Hid (∀ bs' W, OutK K w1 ob bs' W -> Tch No w0 W) := fun bs' W hh => t01.fresh hh.tch (fun k hk => Nat.le_of_not_lt (fun e => hk (hK k e)))
 have HS := Lib.hid (hO.small (by omega) n (by omega))
 rw [<- h0] at HS
 clear hp hn hv hO h0
 go_enter Tryz.func132, Tryz.ntmps132
 go_wp2_with fail
 refine HS.out.mono ?_
 rintro e w2 ⟨rfl, o2⟩
 have O2 := Lib.hid o2
 clear o2
 go_wp2_with fail
 go_loopg [14] n (fun kx sx wr => ∃ k : Nat, sx = .int .i64 k /\ k <= n /\ n - k <= kx /\ Hid (OutK K w1 ob (bsf k) wr))
 case atStart => exact ⟨0, rfl, Nat.zero_le _, by omega, O2.out⟩
 case round =>
  obtain ⟨k, rfl, hk, hgk, OO⟩ := hrel
  by_cases hlt : k < n
  ·have hkl : k < l.length := by rw [HN.out]; exact hlt
   have hb : ∃ b o, a = some ⟨b, o, none⟩ /\ wr.cell? ⟨b, o + k * 2, none⟩ = some (.int .i64 l[k].tid) /\ wr.cell? ⟨b, o + k * 2 + 1, none⟩ = some (.bool l[k].yes) := by
    have hm := HV.out
    rw [<- HN.out] at hm
    obtain ⟨b, o, cap2, h1, h2⟩ := CellsAt.elem (enc := encEnd) (m := 2) (fun _ => rfl) hm hkl
    injection h1 with h1 _ _
    have T := HT.out _ _ OO.out
    exact ⟨b, o, h1, T.cell (h2 0 _ (by decide) rfl) (fun h => h), T.cell (h2 1 _ (by decide) rfl) (fun h => h)⟩
   obtain ⟨b, o, rfl, e0, e1⟩ := hb
   have HC := Lib.hid (fun W t => HP.out k hkl W (OO.out.keep t))
   obtain ⟨x, hx⟩ : ∃ x, l[k] = x := ⟨_, rfl⟩
   rw [hx] at HC e0 e1
   obtain ⟨x0, x1⟩ := x
   simp only at HC e0 e1
   clear HP hx
   go_wp2_with fail
   refine (HC.out _ ((Tch.alloc _ _))).mono ?_
   rintro e w3 ⟨rfl, o3⟩
   go_wp2_with fail
   go_roundg (n - (k + 1))
   case measure => omega
   case rel => exact ⟨k + 1, by go_num, by omega, by omega, o3⟩
  ·obtain rfl : k = n := by omega
   clear hlt
   go_wp2_with fail
   go_end0
   exact ⟨rfl, OO.out⟩
theorem slist_br (K : Nat -> Prop) (w0 w1 : World) (ob g : Nat) (lb : Array Value) (eg : ∀ args w, (callFunc g args).run Tryz.prog w = .ok (.enter g args) w) (l : List (BrM × Value)) (n : Nat) (hn : l.length = n) (hn2 : n <= 100000) (bsf : Nat -> List UInt8) (hK : ∀ k, k < w0.heap.size -> K k) (t01 : Tch No w0 w1)
  (hsl : ∀ x ∈ l, ∃ a n c, x.2 = .slice a n c) (hp : ∀ k (hk : k < l.length) W, OutK K w1 ob (bsf k) W -> Calls Tryz.prog g (#[.agg #[.int .i64 l[k].1.tid, l[k].2]] ++ lb) W fun e w' => e = .returned (.tuple #[]) /\ OutK K w1 ob (bsf (k + 1)) w')
  (bs : List UInt8) (hl : bs.length <= 890000) (h0 : bsf 0 = bs ++ leBytes 2 n) (v : Value) (w : World) (hv : CellsAt w0 v n 2 (l.flatMap (encPr (fun q : BrM => q.tid)))) (hO : OutK K w1 ob bs w) :
  Calls Tryz.prog 129 #[.pointer (some ⟨ob, 0, none⟩), v, .func (.func g) #[] lb] w fun e w' => e = .returned (.tuple #[]) /\ OutK K w1 ob (bsf n) w' := by
 obtain ⟨a, c, rfl, _, _⟩ := CellsAt.shape hv
 have HP := Lib.hid hp
 have HN := Lib.hid hn
 have HV := Lib.hid hv
 have HT : Hid (∀ bs' W, OutK K w1 ob bs' W -> Tch No w0 W) := fun bs' W hh => t01.fresh hh.tch (fun k hk => Nat.le_of_not_lt (fun e => hk (hK k e)))
 have HS := Lib.hid (hO.small (by omega) n (by omega))
 rw [<- h0] at HS
 have HSL := Lib.hid hsl
 clear hp hn hv hO h0 hsl
 go_enter Tryz.func129, Tryz.ntmps129
 go_wp2_with fail
 refine HS.out.mono ?_
 rintro e w2 ⟨rfl, o2⟩
 have O2 := Lib.hid o2
 clear o2
 go_wp2_with fail
 go_loopg [14] n (fun kx sx wr => ∃ k : Nat, sx = .int .i64 k /\ k <= n /\ n - k <= kx /\ Hid (OutK K w1 ob (bsf k) wr))
 case atStart => exact ⟨0, rfl, Nat.zero_le _, by omega, O2.out⟩
 case round =>
  obtain ⟨k, rfl, hk, hgk, OO⟩ := hrel
  by_cases hlt : k < n
  ·have hkl : k < l.length := by rw [HN.out]; exact hlt
   have hb : ∃ b o, a = some ⟨b, o, none⟩ /\ wr.cell? ⟨b, o + k * 2, none⟩ = some (.int .i64 l[k].1.tid) /\ wr.cell? ⟨b, o + k * 2 + 1, none⟩ = some (l[k].2) := by
    have hm := HV.out
    rw [<- HN.out] at hm
    obtain ⟨b, o, cap2, h1, h2⟩ := CellsAt.elem (enc := (encPr (fun q : BrM => q.tid))) (m := 2) (fun _ => rfl) hm hkl
    injection h1 with h1 _ _
    have T := HT.out _ _ OO.out
    exact ⟨b, o, h1, T.cell (h2 0 _ (by decide) rfl) (fun h => h), T.cell (h2 1 _ (by decide) rfl) (fun h => h)⟩
   obtain ⟨b, o, rfl, e0, e1⟩ := hb
   have HC := Lib.hid (fun W t => HP.out k hkl W (OO.out.keep t))
   obtain ⟨x, hx⟩ : ∃ x, l[k] = x := ⟨_, rfl⟩
   rw [hx] at HC e0 e1
   obtain ⟨xa, xn, xc, hsx⟩ := HSL.out x (by rw [<- hx]; exact List.getElem_mem _)
   obtain ⟨x0, x1⟩ := x
   simp only at HC e0 e1 hsx
   subst hsx
   clear HP hx
   go_wp2_with fail
   refine (HC.out _ ((Tch.alloc _ _))).mono ?_
   rintro e w3 ⟨rfl, o3⟩
   go_wp2_with fail
   go_roundg (n - (k + 1))
   case measure => omega
   case rel => exact ⟨k + 1, by go_num, by omega, by omega, o3⟩
  ·obtain rfl : k = n := by omega
   clear hlt
   go_wp2_with fail
   go_end0
   exact ⟨rfl, OO.out⟩
theorem slist_pend (K : Nat -> Prop) (w0 w1 : World) (ob g : Nat) (lb : Array Value) (eg : ∀ args w, (callFunc g args).run Tryz.prog w = .ok (.enter g args) w) (l : List (PendM × Value)) (n : Nat) (hn : l.length = n) (hn2 : n <= 100000) (bsf : Nat -> List UInt8) (hK : ∀ k, k < w0.heap.size -> K k) (t01 : Tch No w0 w1)
  (hsl : ∀ x ∈ l, ∃ a n c, x.2 = .slice a n c) (hp : ∀ k (hk : k < l.length) W, OutK K w1 ob (bsf k) W -> Calls Tryz.prog g (#[.agg #[.int .i64 l[k].1.tid, l[k].2]] ++ lb) W fun e w' => e = .returned (.tuple #[]) /\ OutK K w1 ob (bsf (k + 1)) w')
  (bs : List UInt8) (hl : bs.length <= 890000) (h0 : bsf 0 = bs ++ leBytes 2 n) (v : Value) (w : World) (hv : CellsAt w0 v n 2 (l.flatMap (encPr (fun q : PendM => q.tid)))) (hO : OutK K w1 ob bs w) :
  Calls Tryz.prog 135 #[.pointer (some ⟨ob, 0, none⟩), v, .func (.func g) #[] lb] w fun e w' => e = .returned (.tuple #[]) /\ OutK K w1 ob (bsf n) w' := by
 obtain ⟨a, c, rfl, _, _⟩ := CellsAt.shape hv
 have HP := Lib.hid hp
 have HN := Lib.hid hn
 have HV := Lib.hid hv
 have HT : Hid (∀ bs' W, OutK K w1 ob bs' W -> Tch No w0 W) := fun bs' W hh => t01.fresh hh.tch (fun k hk => Nat.le_of_not_lt (fun e => hk (hK k e)))
 have HS := Lib.hid (hO.small (by omega) n (by omega))
 rw [<- h0] at HS
 have HSL := Lib.hid hsl
 clear hp hn hv hO h0 hsl
 go_enter Tryz.func135, Tryz.ntmps135
 go_wp2_with fail
 refine HS.out.mono ?_
 rintro e w2 ⟨rfl, o2⟩
 have O2 := Lib.hid o2
 clear o2
 go_wp2_with fail
 go_loopg [14] n (fun kx sx wr => ∃ k : Nat, sx = .int .i64 k /\ k <= n /\ n - k <= kx /\ Hid (OutK K w1 ob (bsf k) wr))
 case atStart => exact ⟨0, rfl, Nat.zero_le _, by omega, O2.out⟩
 case round =>
  obtain ⟨k, rfl, hk, hgk, OO⟩ := hrel
  by_cases hlt : k < n
  ·have hkl : k < l.length := by rw [HN.out]; exact hlt
   have hb : ∃ b o, a = some ⟨b, o, none⟩ /\ wr.cell? ⟨b, o + k * 2, none⟩ = some (.int .i64 l[k].1.tid) /\ wr.cell? ⟨b, o + k * 2 + 1, none⟩ = some (l[k].2) := by
    have hm := HV.out
    rw [<- HN.out] at hm
    obtain ⟨b, o, cap2, h1, h2⟩ := CellsAt.elem (enc := (encPr (fun q : PendM => q.tid))) (m := 2) (fun _ => rfl) hm hkl
    injection h1 with h1 _ _
    have T := HT.out _ _ OO.out
    exact ⟨b, o, h1, T.cell (h2 0 _ (by decide) rfl) (fun h => h), T.cell (h2 1 _ (by decide) rfl) (fun h => h)⟩
   obtain ⟨b, o, rfl, e0, e1⟩ := hb
   have HC := Lib.hid (fun W t => HP.out k hkl W (OO.out.keep t))
   obtain ⟨x, hx⟩ : ∃ x, l[k] = x := ⟨_, rfl⟩
   rw [hx] at HC e0 e1
   obtain ⟨xa, xn, xc, hsx⟩ := HSL.out x (by rw [<- hx]; exact List.getElem_mem _)
   obtain ⟨x0, x1⟩ := x
   simp only at HC e0 e1 hsx
   subst hsx
   clear HP hx
   go_wp2_with fail
   refine (HC.out _ ((Tch.alloc _ _))).mono ?_
   rintro e w3 ⟨rfl, o3⟩
   go_wp2_with fail
   go_roundg (n - (k + 1))
   case measure => omega
   case rel => exact ⟨k + 1, by go_num, by omega, by omega, o3⟩
  ·obtain rfl : k = n := by omega
   clear hlt
   go_wp2_with fail
   go_end0
   exact ⟨rfl, OO.out⟩
end
section
open Go.RowKit Go.Maps
theorem rec_len2 {r : RecM} (h : recB r = true) : (1 <= r.kind /\ r.kind <= 9) /\ r.parts.length <= 7 /\ r.puts.length <= 10 /\ (r.kind = 9 -> r.parts.length = 1) := by
 unfold recB at h
 simp only [Bool.and_eq_true, decide_eq_true_eq] at h
 obtain ⟨⟨⟨⟨⟨h1, h2⟩, h3⟩, h4⟩, h5⟩, h6⟩ := h
 refine ⟨h1, ?_, ?_, fun hk => ?_⟩
 ·split at h6
  ·simp at h6; omega
  ·split at h6
   ·simp at h6; omega
   ·split at h6
    ·simp at h6; omega
    ·simp at h6; simp [h6]
 ·split at h5
  ·simp at h5; omega
  ·simp at h5; simp [h5]
 ·rw [if_neg (by omega), if_neg (by omega), if_pos hk] at h6
  simp at h6
  exact h6.1
theorem tid_home {t b : Int} (h : homeM t = b) (hb : 1 <= b) : tidB t = true := by
 unfold tidB; rw [h]; simp only [decide_eq_true_eq]; omega
theorem recBr_ok {b : BrM} (h : I64 b.tid /\ ∀ p ∈ b.puts, OkPut p) : OkRec (recBr b) := ⟨by unfold I64 recBr; simp, h.1, by unfold I64 recBr; simp, fun x hx => (by cases hx), h.2⟩
theorem recEnd_ok {e : EndM} (h : I64 e.tid) : OkRec (recEnd e) := ⟨by unfold I64 recEnd; simp, h, by unfold I64 recEnd; simp, fun x hx => (by cases hx), fun x hx => (by cases hx)⟩
theorem recPend_ok {p : PendM} (h : I64 p.tid /\ ∀ x ∈ p.parts, I64 x) : OkRec (recPend p) := ⟨by unfold I64 recPend; simp, h.1, by unfold I64 recPend; simp, h.2, fun x hx => (by cases hx)⟩
theorem recBr_b {s : StM} {b : BrM} (h : WaitP s b) : recB (recBr b) = true := rec4_iff.2 ⟨h.tid, h.len, h.puts⟩
theorem recEnd_b {e : EndM} (h : tidB e.tid = true) : recB (recEnd e) = true := by
 unfold recB recEnd; simp [h]
theorem recPend_b {s : StM} {p : PendM} (hb : 1 <= s.broker) (h : PendP s.broker p) : recB (recPend p) = true := rec6_iff.2 ⟨tid_home h.home hb, h.len, h.rising⟩
theorem encRec_len {r : RecM} (h : recB r = true) : (encRecM r).length <= 2000 := by
 obtain ⟨_, h1, h2, _⟩ := rec_len2 h
 have h3 : putsB r.kind = true -> (r.puts.flatMap encPuM).length <= 72 * r.puts.length := fun hp => by
  refine encPu_len (fun p hp2 => ?_)
  unfold recB at h
  simp only [Bool.and_eq_true] at h
  have h4 := h.1.2
  have hx : r.kind = 4 ∨ r.kind = 7 := by unfold putsB at hp; simp at hp; omega
  rw [if_pos hx] at h4
  simp only [Bool.and_eq_true, decide_eq_true_eq, List.all_eq_true] at h4
  exact h4.2 p hp2
 have h5 := encPt_len r.parts
 unfold encRecM
 simp only [List.length_append, leBytes_length]
 have e1 : (if r.kind = 2 then leBytes 8 (u64of r.id) else []).length <= 8 := by split <;> simp [leBytes_length]
 have e2 : (if r.kind = 5 then [if r.yes then (1 : UInt8) else 0] else []).length <= 1 := by split <;> simp
 have e3 : (if ptsB r.kind = true then leBytes 2 r.parts.length ++ r.parts.flatMap encPtM else []).length <= 2 + 2 * r.parts.length := by
  split
  ·rw [List.length_append, leBytes_length, h5]; exact Nat.le_refl _
  ·simp
 have e4 : (if putsB r.kind = true then leBytes 2 r.puts.length ++ r.puts.flatMap encPuM else []).length <= 2 + 72 * r.puts.length := by
  split
  ·rename_i hp
   have := h3 hp
   rw [List.length_append, leBytes_length]; omega
  ·simp
 omega
theorem take_flat_len {α : Type} (enc : α -> List UInt8) (l : List α) (k : Nat) : ((l.take k).flatMap enc).length <= (l.flatMap enc).length := by
 have e : l.flatMap enc = (l.take k).flatMap enc ++ (l.drop k).flatMap enc := by rw [<- List.flatMap_append, List.take_append_drop]
 rw [e, List.length_append]; omega
theorem take_flat_succ {α : Type} (enc : α -> List UInt8) (l : List α) (k : Nat) (h : k < l.length) (pre : List UInt8) : pre ++ (l.take (k + 1)).flatMap enc = pre ++ (l.take k).flatMap enc ++ enc l[k] := by
 rw [List.take_succ_eq_append_getElem h, List.flatMap_append]; simp
theorem fst_get {α β : Type} {l : List (α × β)} {m : List α} (h : l.map Prod.fst = m) {k : Nat} (hk : k < l.length) (hk2 : k < m.length) : l[k].1 = m[k] := by
 subst h; simp
theorem msgSz {s : StM} {m : MsgM} (hok : OkMsg m) (h : MsgP s m) : MsgSz m := by
 have h1 := h.q; have h2 := h.b; have h3 := h.cnt
 unfold queueB at h1; unfold bodyB at h2
 simp only [Bool.and_eq_true, decide_eq_true_eq] at h1 h2
 exact ⟨hok.1, by omega, by omega, hok.2.2.2.1, by omega, hok.2.2.2.2.2⟩
end
end Go.Proofs.YtfedhcnmdmhppaaGreat
