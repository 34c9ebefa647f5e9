/- Part 2 of what the proof of OrderRoom rests on. No condition. -/
import Derived.Lib.SlBytesConst
import Derived.Test.YtfedhcnmdmhppaaGreatPOrderRoom01
namespace Go.Proofs.YtfedhcnmdmhppaaGreat
set_option maxRecDepth 100000
set_option maxHeartbeats 60000000
set_option linter.unusedVariables false
set_option linter.unusedSimpArgs false
section
open Go.RowKit Go.Maps
structure IsIn (w : World) (ib : Nat) (v : Value) (bs : List UInt8) (bad : Bool) : Prop where
 cell : w.heap[ib]? = some (.cells #[v, .bool bad] 185 (0, 0))
 rest : SlB w v bs
 ne : v.ownBlock ≠ some ib
def InF (ib : Nat) : Nat -> Prop := fun k => k = ib
theorem IsIn.cell0 {w : World} {ib : Nat} {v : Value} {bs : List UInt8} {bad : Bool} (h : IsIn w ib v bs bad) : w.cell? ⟨ib, 0, none⟩ = some v := by simpa using blk_cell h.cell 0
theorem IsIn.cell1 {w : World} {ib : Nat} {v : Value} {bs : List UInt8} {bad : Bool} (h : IsIn w ib v bs bad) : w.cell? ⟨ib, 1, none⟩ = some (.bool bad) := by simpa using blk_cell h.cell 1
theorem IsIn.tch {F : Nat -> Prop} {w w' : World} {ib : Nat} {v : Value} {bs : List UInt8} {bad : Bool} (h : IsIn w ib v bs bad) (ht : Tch F w w') (h1 : ¬ F ib) (h2 : ∀ k, v.ownBlock = some k -> ¬ F k) : IsIn w' ib v bs bad :=
 ⟨blk_tch ht h.cell h1, h.rest.tch ht h2, h.ne⟩
theorem IsIn.spoil {w : World} {ib : Nat} {v : Value} {bs : List UInt8} {bad : Bool} (h : IsIn w ib v bs bad) : IsIn (w.setCell ⟨ib, 1, none⟩ (.bool true)) ib v bs true :=
 ⟨by simpa using blk_set h.cell 1 (.bool true), h.rest.tch (F := InF ib) (Tch.setCell _ _ _ (fun _ => rfl)) (fun k hk e => h.ne (by rw [hk, e])), h.ne⟩
theorem IsIn.setRest {w : World} {ib : Nat} {v v2 : Value} {bs bs2 : List UInt8} {bad : Bool} (h : IsIn w ib v bs bad) (h2 : SlB w v2 bs2) (hb : ∀ k, v2.ownBlock = some k -> v.ownBlock = some k) : IsIn (w.setCell ⟨ib, 0, none⟩ v2) ib v2 bs2 bad :=
 have hne : v2.ownBlock ≠ some ib := fun e => h.ne (hb _ e)
 ⟨by simpa using blk_set h.cell 0 v2, h2.tch (F := InF ib) (Tch.setCell _ _ _ (fun _ => rfl)) (fun k hk e => hne (by rw [hk, e])), hne⟩
theorem spoil_any (ib : Nat) (v : Value) (bs : List UInt8) (bad : Bool) (w : World) (hi : IsIn w ib v bs bad) :
  Calls Tryz.prog 225 #[.pointer (some ⟨ib, 0, none⟩)] w fun e w' => e = .returned (.tuple #[]) /\ w' = w.setCell ⟨ib, 1, none⟩ (.bool true) := by
 have h1 := hi.cell1
 have h2 := blk_free hi.cell 1
 clear hi
 go_enter Tryz.func225, Tryz.ntmps225
 go_wp2
 go_end0
 exact ⟨rfl, rfl⟩
theorem SlB.take {w : World} {a : Option Addr} {m cap : Nat} {bs : List UInt8} (h : SlB w (.slice a m cap) bs) (n : Nat) (hn : n <= bs.length) : SlB w (.slice a n cap) (bs.take n) := by
 have hl : (bs.take n).length = n := by simp; omega
 refine ⟨by rw [hl]; exact Nat.le_trans hn h.1, ?_⟩
 rcases h.2 with ⟨hx, hy⟩ | ⟨b, o, cap', h, h1, h2, h3, h4⟩
 ·rw [hy] at hn
  have : n = 0 := by simpa using hn
  subst this
  simp only [Value.slice.injEq] at hx
  exact .inl ⟨by rw [hx.1, hx.2.2], by rw [hy]; rfl⟩
 ·simp only [Value.slice.injEq] at h
  obtain ⟨rfl, rfl, rfl⟩ := h
  exact .inr ⟨b, o, cap, by rw [hl], by rw [hl]; omega, h2, h3, fun i hi => by rw [h4 i (by omega)]; simp⟩
theorem SlB.drop {w : World} {b o m cap : Nat} {bs : List UInt8} (h : SlB w (.slice (some ⟨b, o, none⟩) m cap) bs) (n : Nat) (hn : n <= bs.length) (o' : Nat) (ho : n < bs.length -> o' = o + n) : SlB w (.slice (some ⟨b, o', none⟩) (m - n) (cap - n)) (bs.drop n) := by
 have hl : (bs.drop n).length = bs.length - n := by simp
 refine ⟨by rw [hl]; exact Nat.le_trans (Nat.sub_le _ _) h.1, ?_⟩
 rcases h.2 with ⟨hx, rfl⟩ | ⟨b', o1, cap', h, h1, h2, h3, h4⟩
 ·exact absurd hx (by intro hx; injection hx with hx; cases hx)
 ·simp only [Value.slice.injEq, Option.some.injEq, Addr.mk.injEq, and_true] at h
  obtain ⟨⟨rfl, rfl⟩, rfl, rfl⟩ := h
  refine .inr ⟨b, o', cap - n, by rw [hl], by rw [hl]; omega, by omega, h3, fun i hi => ?_⟩
  have hi' : n + i < bs.length := by simp at hi; omega
  rw [ho (by omega), Nat.add_assoc, h4 (n + i) hi', List.getElem_drop]
def NextOk (w : World) (ib : Nat) (v : Value) (bs : List UInt8) (n : Nat) (e : Ending) (w' : World) : Prop :=
 ∃ r v2, e = .returned r /\ SlB w' r (bs.take n) /\ (∀ k, r.ownBlock = some k -> v.ownBlock = some k) /\ IsIn w' ib v2 (bs.drop n) false /\ (∀ k, v2.ownBlock = some k -> v.ownBlock = some k) /\ Tch (InF ib) w w'
def NextNo (w : World) (ib : Nat) (v : Value) (bs : List UInt8) (e : Ending) (w' : World) : Prop :=
 e = .returned (.slice none 0 0) /\ IsIn w' ib v bs true /\ Tch (InF ib) w w'
theorem next_bad (ib : Nat) (v : Value) (bs : List UInt8) (n : Nat) (w : World) (hi : IsIn w ib v bs true) :
  Calls Tryz.prog 176 #[.pointer (some ⟨ib, 0, none⟩), .int .i64 n] w (NextNo w ib v bs) := by
 have h1 := hi.cell1
 have h2 := Lib.hid (spoil_any ib v bs true w hi)
 have HI := Lib.hid hi; clear hi
 go_enter Tryz.func176, Tryz.ntmps176
 go_wp2_with (go_at_call 225; go_must (refine h2.out.mono ?_); rintro e w1 ⟨rfl, rfl⟩)
 go_ret
 exact ⟨rfl, HI.out.spoil, Tch.setCell _ _ _ (fun _ => rfl)⟩
theorem next_short (ib : Nat) (v : Value) (bs : List UInt8) (n : Nat) (w : World) (hi : IsIn w ib v bs false) (hn : bs.length < n) :
  Calls Tryz.prog 176 #[.pointer (some ⟨ib, 0, none⟩), .int .i64 n] w (NextNo w ib v bs) := by
 have h1 := hi.cell1
 have h0 := hi.cell0
 have h2 := Lib.hid (spoil_any ib v bs false w hi)
 have HI := Lib.hid hi; clear hi
 obtain ⟨a, cap, hv, _, _⟩ := HI.out.rest.shape
 have hd : decide ((bs.length : Int) < (n : Int)) = true := by simp; omega
 rw [hv] at h0
 have HV := Lib.hid hv; clear hv
 go_enter Tryz.func176, Tryz.ntmps176
 go_wp2_with (go_at_call 225; go_must (refine h2.out.mono ?_); rintro e w1 ⟨rfl, rfl⟩)
 go_ret
 exact ⟨rfl, HI.out.spoil, Tch.setCell _ _ _ (fun _ => rfl)⟩
theorem next_ok (ib : Nat) (v : Value) (bs : List UInt8) (n : Nat) (w : World) (hi : IsIn w ib v bs false) (hn : n <= bs.length) :
  Calls Tryz.prog 176 #[.pointer (some ⟨ib, 0, none⟩), .int .i64 n] w (NextOk w ib v bs n) := by
 have h1 := hi.cell1
 have h0 := hi.cell0
 have hf := blk_free hi.cell 0
 have hlim := hi.rest.1
 unfold lim at hlim
 have HI := Lib.hid hi; clear hi
 rcases HI.out.rest.2 with ⟨hv, h⟩ | ⟨b, o, cap, hv, hc1, hc2, hc3, hc4⟩
 ·rw [h] at hn
  have : n = 0 := by simpa using hn
  subst this
  rw [hv] at h0
  have HT : Hid (NextOk w ib v bs 0 (.returned (.slice none 0 0)) (w.setCell ⟨ib, 0, none⟩ (.slice none 0 0))) := by
   have ht : Tch (InF ib) w (w.setCell ⟨ib, 0, none⟩ (.slice none 0 0)) := Tch.setCell _ _ _ (fun _ => rfl)
   refine ⟨_, _, rfl, by rw [h]; exact SlB.nil _, fun k hk => by simp [Value.ownBlock] at hk, HI.out.setRest (by rw [h]; exact SlB.nil _) (fun k hk => by simp [Value.ownBlock] at hk), fun k hk => by simp [Value.ownBlock] at hk, ht⟩
  clear h hv
  go_enter Tryz.func176, Tryz.ntmps176
  go_wp2_with fail
  go_ret
  exact HT.out
 ·rw [hv] at h0
  have HV := Lib.hid hv
  have hd : decide ((bs.length : Int) < (n : Int)) = false := by simp; omega
  clear hv hc4
  unfold maxLen at hc2
  go_enter Tryz.func176, Tryz.ntmps176
  have HT : Hid (∀ o', (n < bs.length -> o' = o + n) -> NextOk w ib v bs n (.returned (.slice (some ⟨b, o, none⟩) n cap)) (w.setCell ⟨ib, 0, none⟩ (.slice (some ⟨b, o', none⟩) (bs.length - n) (cap - n)))) := by
   intro o' ho
   have hr := HI.out.rest
   have hvv := HV.out
   have ht : Tch (InF ib) w (w.setCell ⟨ib, 0, none⟩ (.slice (some ⟨b, o', none⟩) (bs.length - n) (cap - n))) := Tch.setCell _ _ _ (fun _ => rfl)
   have hne := HI.out.ne
   rw [hvv] at hr hne
   refine ⟨_, _, rfl, (hr.take n hn).tch ht (fun k hk e => hne (by rw [InF] at e; rw [<- e, <- hk]; rfl)), fun k hk => by rw [hvv]; exact hk, HI.out.setRest (hr.drop n hn o' ho) (fun k hk => by rw [hvv]; exact hk), fun k hk => by rw [hvv]; exact hk, ht⟩
  by_cases hcn : cap = n
  ·have hcn' : bs.length = n := by omega
   go_wp2_with fail
   go_ret
   have hT := HT.out o (fun h => absurd h (by omega))
   rw [hcn', hcn, Nat.sub_self] at hT
   exact hT
  ·have hcn2 : ¬ n = cap := fun e => hcn e.symm
   go_wp2_with fail
   go_ret
   exact HT.out _ (fun _ => rfl)
def leNum : List UInt8 -> Nat
 | [] => 0
 | b :: r => b.toNat + 256 * leNum r
theorem leNum_lt : ∀ l : List UInt8, leNum l < 256 ^ l.length
 | [] => by simp [leNum]
 | b :: r => by
  have := leNum_lt r
  have hb := b.toNat_lt
  rw [leNum, List.length_cons, Nat.pow_succ]
  omega
theorem leNum_snoc (l : List UInt8) (c : UInt8) : leNum (l ++ [c]) = leNum l + 256 ^ l.length * c.toNat := by
 induction l with
 | nil => simp [leNum]
 | cons b r ih => rw [List.cons_append, leNum, ih, leNum, List.length_cons, Nat.pow_succ, Nat.mul_add, Nat.add_assoc, <- Nat.mul_assoc, Nat.mul_comm (256 ^ r.length) 256]
def RdOk (w : World) (ib : Nat) (v : Value) (bs : List UInt8) (n : Nat) (res : Value) (e : Ending) (w' : World) : Prop :=
 ∃ v2, e = .returned res /\ IsIn w' ib v2 (bs.drop n) false /\ (∀ k, v2.ownBlock = some k -> v.ownBlock = some k) /\ Tch (InF ib) w w'
def RdNo (w : World) (ib : Nat) (v : Value) (bs : List UInt8) (res : Value) (e : Ending) (w' : World) : Prop :=
 e = .returned res /\ IsIn w' ib v bs true /\ Tch (InF ib) w w'
theorem iwide_no (ib : Nat) (v : Value) (bs : List UInt8) (bad : Bool) (n : Nat) (w : World) (hi : IsIn w ib v bs bad) (hn : bad = true ∨ bs.length < n) :
  Calls Tryz.prog 177 #[.pointer (some ⟨ib, 0, none⟩), .int .i64 n] w (RdNo w ib v bs (.int .u64 0)) := by
 have hc : Hid (Calls Tryz.prog 176 #[.pointer (some ⟨ib, 0, none⟩), .int .i64 n] w (NextNo w ib v bs)) := by
  cases bad
  ·exact next_short ib v bs n w hi (by simpa using hn)
  ·exact next_bad ib v bs n w hi
 clear hi hn
 go_enter Tryz.func177, Tryz.ntmps177
 go_wp2_with (go_at_call 176; go_must (refine hc.out.mono ?_); rintro e w1 ⟨rfl, q1, q2⟩)
 refine wp_loop_rounds 1 ?_
 rw [rounds_succ]
 go_wp2
 go_ret
 exact ⟨rfl, q1, q2⟩
theorem shl_in (c k : Nat) (hc : c < 256) (hk : k < 8) : IntKind.u64.wrap ((c : Int) * 2 ^ (8 * k)) = ((256 ^ k * c : Nat) : Int) := by
 rw [IntKind.wrap_u64]
 have h3 : (2 : Int) ^ (8 * k) = ((256 ^ k : Nat) : Int) := by rw [Int.pow_mul]; norm_cast
 have h4 : 256 ^ k * c < 18446744073709551616 := by
  have : 256 ^ k <= 256 ^ 7 := Nat.pow_le_pow_right (by decide) (by omega)
  calc 256 ^ k * c <= 256 ^ 7 * 255 := Nat.mul_le_mul this (by omega)
   _ < _ := by decide
 rw [h3, <- Int.natCast_mul, Nat.mul_comm c]
 omega
theorem or_in (n c k : Nat) (hn : n < 256 ^ k) (hc : c < 256) (hk : k < 8) : bits .or .u64 (n : Int) ((256 ^ k * c : Nat) : Int) = ((n + 256 ^ k * c : Nat) : Int) := by
 have h5 : 256 ^ k <= 256 ^ 7 := Nat.pow_le_pow_right (by decide) (by omega)
 have h4 : 256 ^ k * c < 18446744073709551616 := by
  calc 256 ^ k * c <= 256 ^ 7 * 255 := Nat.mul_le_mul h5 (by omega)
   _ < _ := by decide
 have h6 : (256 : Nat) ^ 7 < 18446744073709551616 := by decide
 rw [u64_or_nat n _ (by omega) h4, Nat.or_comm]
 congr 1
 have e : (256 : Nat) ^ k = 2 ^ (8 * k) := by rw [Nat.pow_mul]
 rw [e] at hn ⊢
 rw [nat_join (8 * k) (2 ^ (8 * k) * c) n (by simp) hn, Nat.add_comm]
theorem iwide_ok (ib : Nat) (v : Value) (bs : List UInt8) (n : Nat) (w : World) (hi : IsIn w ib v bs false) (hn : n <= bs.length) (h8 : n <= 8) :
  Calls Tryz.prog 177 #[.pointer (some ⟨ib, 0, none⟩), .int .i64 n] w (RdOk w ib v bs n (.int .u64 (leNum (bs.take n) : Nat))) := by
 have hc := Lib.hid (next_ok ib v bs n w hi hn)
 have hl : Hid ((bs.take n).length = n) := by rw [Hid]; simp; omega
 obtain ⟨xs, hxs⟩ : ∃ xs, bs.take n = xs := ⟨_, rfl⟩
 rw [hxs] at hl ⊢
 have HX := Lib.hid hxs
 clear hi hxs
 go_enter Tryz.func177, Tryz.ntmps177
 go_wp2_with (go_at_call 176; go_must (refine hc.out.mono ?_); rintro e w1 ⟨r, v2, rfl, q1, q2, q3, q4, q5⟩; have Q1 := Lib.hid q1; clear q1; obtain ⟨a, ml, cap, hr, hml⟩ := Q1.out.shape'; subst hr)
 have hml2 : Hid (ml = xs.length) := by rw [Hid, hml.out, HX.out]
 have Q2 : Hid (SlB w1 (.slice a ml cap) xs) := by rw [Hid, <- HX.out]; exact Q1.out
 clear hml Q1
 have hml' : ml <= 8 := by have := hml2.out; have := hl.out; omega
 go_loop [5, 12] (fun s i => ∃ (k m : Nat), k <= ml /\ i = .int .i64 k /\ s = .int .u64 m /\ Hid (m = leNum (xs.take k))) (fun _ i => ml - (intOf i).toNat)
 case atStart => exact ⟨0, 0, by omega, rfl, rfl, by simp [Hid, leNum]⟩
 case round =>
  obtain ⟨k, m, hk, rfl, rfl, hm⟩ := hrel
  by_cases hlt : k < ml
  ·rcases Q2.out.2 with ⟨_, h⟩ | ⟨b, o, cap', h, c1, c2, c3, c4⟩
   ·have := hml2.out; rw [h] at this; simp at this; omega
   ·have hxk : k < xs.length := by have := hml2.out; omega
    simp only [Value.slice.injEq] at h
    obtain ⟨rfl, _, rfl⟩ := h
    have hcell := c4 k hxk
    obtain ⟨ch, hch⟩ : ∃ ch, xs[k] = ch := ⟨_, rfl⟩
    rw [hch] at hcell
    have hcl := ch.toNat_lt
    have hsn : Hid (leNum (xs.take (k + 1)) = m + 256 ^ k * ch.toNat) := by
     rw [Hid, List.take_succ_eq_append_getElem hxk, leNum_snoc, hch, <- hm.out, List.length_take, Nat.min_eq_left (by omega)]
    have hmlt : m < 256 ^ k := by
     have := leNum_lt (xs.take k)
     rw [hm.out]; rw [List.length_take, Nat.min_eq_left (by omega)] at this; exact this
    obtain ⟨cn, hcn⟩ : ∃ cn, ch.toNat = cn := ⟨_, rfl⟩
    rw [hcn] at hcell hsn hcl
    have HS := Lib.hid (shl_in cn k hcl (by omega))
    have HO := Lib.hid (or_in m cn k hmlt hcl (by omega))
    clear c4 hch hcn hmlt c1 c2
    go_wp2
    exact ⟨⟨k + 1, m + 256 ^ k * cn, by omega, by go_num, by rw [HS.out, HO.out], hsn.out.symm⟩, by simp [intOf]; omega⟩
  ·have hr : Hid (leNum xs = m) := by rw [Hid, hm.out, List.take_of_length_le]; have := hml2.out; omega
   go_wp2
   go_ret
   exact ⟨v2, ret_i (by rw [hr.out]), q3, q4, q5⟩
theorem ismall_no (ib : Nat) (v : Value) (bs : List UInt8) (bad : Bool) (w : World) (hi : IsIn w ib v bs bad) (hn : bad = true ∨ bs.length < 2) :
  Calls Tryz.prog 113 #[.pointer (some ⟨ib, 0, none⟩)] w (RdNo w ib v bs (.int .i64 0)) := by
 have hc := Lib.hid (iwide_no ib v bs bad 2 w hi hn)
 clear hi hn
 go_enter Tryz.func113, Tryz.ntmps113
 go_wp2_with (go_at_call 177; go_must (refine hc.out.mono ?_); rintro e w1 ⟨rfl, q1, q2⟩)
 go_ret
 exact ⟨rfl, q1, q2⟩
theorem ismall_ok (ib : Nat) (v : Value) (bs : List UInt8) (w : World) (hi : IsIn w ib v bs false) (hn : 2 <= bs.length) :
  Calls Tryz.prog 113 #[.pointer (some ⟨ib, 0, none⟩)] w (RdOk w ib v bs 2 (.int .i64 (leNum (bs.take 2) : Nat))) := by
 have hc := Lib.hid (iwide_ok ib v bs 2 w hi hn (by omega))
 have hb : leNum (bs.take 2) < 65536 := by
  have := leNum_lt (bs.take 2)
  rw [List.length_take, Nat.min_eq_left hn] at this; exact this
 obtain ⟨m, hm⟩ : ∃ m, leNum (bs.take 2) = m := ⟨_, rfl⟩
 rw [hm] at hc hb ⊢
 clear hi hm
 go_enter Tryz.func113, Tryz.ntmps113
 go_wp2_with (go_at_call 177; go_must (refine hc.out.mono ?_); rintro e w1 ⟨v2, rfl, q1, q2, q3⟩)
 go_ret
 exact ⟨v2, rfl, q1, q2, q3⟩
theorem ilong_ok (ib : Nat) (v : Value) (bs : List UInt8) (w : World) (hi : IsIn w ib v bs false) (hn : 8 <= bs.length) :
  Calls Tryz.prog 114 #[.pointer (some ⟨ib, 0, none⟩)] w (RdOk w ib v bs 8 (.int .i64 (wrap64 (leNum (bs.take 8) : Nat)))) := by
 have hc := Lib.hid (iwide_ok ib v bs 8 w hi hn (by omega))
 obtain ⟨m, hm⟩ : ∃ m, leNum (bs.take 8) = m := ⟨_, rfl⟩
 rw [hm] at hc ⊢
 clear hi hm
 go_enter Tryz.func114, Tryz.ntmps114
 go_wp2_with (go_at_call 177; go_must (refine hc.out.mono ?_); rintro e w1 ⟨v2, rfl, q1, q2, q3⟩)
 go_ret
 exact ⟨v2, rfl, q1, q2, q3⟩
theorem ilong_no (ib : Nat) (v : Value) (bs : List UInt8) (bad : Bool) (w : World) (hi : IsIn w ib v bs bad) (hn : bad = true ∨ bs.length < 8) :
  Calls Tryz.prog 114 #[.pointer (some ⟨ib, 0, none⟩)] w (RdNo w ib v bs (.int .i64 0)) := by
 have hc := Lib.hid (iwide_no ib v bs bad 8 w hi hn)
 clear hi hn
 go_enter Tryz.func114, Tryz.ntmps114
 go_wp2_with (go_at_call 177; go_must (refine hc.out.mono ?_); rintro e w1 ⟨rfl, q1, q2⟩)
 go_ret
 exact ⟨rfl, q1, q2⟩
theorem ibad_any (ib : Nat) (v : Value) (bs : List UInt8) (bad : Bool) (w : World) (hi : IsIn w ib v bs bad) :
  Calls Tryz.prog 175 #[.pointer (some ⟨ib, 0, none⟩)] w fun e w' => e = .returned (.bool bad) /\ w = w' := by
 have h1 := hi.cell1
 clear hi
 go_enter Tryz.func175, Tryz.ntmps175
 go_wp2
 go_ret
 exact ⟨rfl, rfl⟩
theorem ileft_any (ib : Nat) (v : Value) (bs : List UInt8) (bad : Bool) (w : World) (hi : IsIn w ib v bs bad) :
  Calls Tryz.prog 242 #[.pointer (some ⟨ib, 0, none⟩)] w fun e w' => e = .returned (.int .i64 (if bad then 0 else bs.length : Nat)) /\ w = w' := by
 have h0 := hi.cell0
 have hc := Lib.hid (ibad_any ib v bs bad w hi)
 obtain ⟨a, ml, cap, hr, hml⟩ := hi.rest.shape'
 rw [hr] at h0
 rw [<- hml.out]
 clear hi hr
 cases bad
 ·go_enter Tryz.func242, Tryz.ntmps242
  go_wp2_with (go_at_call 175; go_must (refine hc.out.mono ?_); rintro e w1 ⟨rfl, rfl⟩)
  go_ret
  exact ⟨rfl, rfl⟩
 ·go_enter Tryz.func242, Tryz.ntmps242
  go_wp2_with (go_at_call 175; go_must (refine hc.out.mono ?_); rintro e w1 ⟨rfl, rfl⟩)
  go_ret
  exact ⟨rfl, rfl⟩
theorem iend_any (ib : Nat) (v : Value) (bs : List UInt8) (bad : Bool) (w : World) (hi : IsIn w ib v bs bad) :
  Calls Tryz.prog 123 #[.pointer (some ⟨ib, 0, none⟩)] w fun e w' => e = .returned (.bool (!bad && bs.isEmpty)) /\ w = w' := by
 have h0 := hi.cell0
 have hc := Lib.hid (ibad_any ib v bs bad w hi)
 obtain ⟨a, ml, cap, hr, hml⟩ := hi.rest.shape'
 rw [hr] at h0
 have he : Hid (bs.isEmpty = ((ml : Int) == 0)) := by
  rw [Hid, hml.out]; cases bs
  ·rfl
  ·simp; omega
 rw [he.out]
 clear hi hr
 cases bad
 ·cases hz : ((ml : Int) == 0)
  all_goals
   go_enter Tryz.func123, Tryz.ntmps123
   go_wp2_with (go_at_call 175; go_must (refine hc.out.mono ?_); rintro e w1 ⟨rfl, rfl⟩)
   go_ret
   exact ⟨rfl, rfl⟩
 ·go_enter Tryz.func123, Tryz.ntmps123
  go_wp2_with (go_at_call 175; go_must (refine hc.out.mono ?_); rintro e w1 ⟨rfl, rfl⟩)
  go_ret
  exact ⟨rfl, rfl⟩
theorem itext_ok (ib : Nat) (v : Value) (bs : List UInt8) (w : World) (hi : IsIn w ib v bs false) (hn : 2 <= bs.length) (m : Nat) (hm : leNum (bs.take 2) = m) (hl : m + 2 <= bs.length) :
  Calls Tryz.prog 112 #[.pointer (some ⟨ib, 0, none⟩)] w (RdOk w ib v bs (2 + m) (.string ⟨((bs.drop 2).take m).toArray⟩)) := by
 have hc := Lib.hid (ismall_ok ib v bs w hi hn)
 rw [hm] at hc
 clear hm hi
 obtain ⟨ds, hd⟩ : ∃ ds, Hid (ds = bs.drop 2) := ⟨_, rfl⟩
 have hdl : m <= ds.length := by rw [hd.out]; simp; omega
 have he : Hid (bs.drop (2 + m) = ds.drop m) := by rw [Hid, hd.out, List.drop_drop]
 rw [<- hd.out]
 go_enter Tryz.func112, Tryz.ntmps112
 go_wp2_with (go_at_call 113; go_must (refine hc.out.mono ?_); rintro e w1 ⟨v2, rfl, q1, q2, q3⟩; rw [<- hd.out] at q1)
 refine (next_ok ib v2 ds m w1 q1 hdl).mono ?_
 rintro e w2 ⟨r, v3, rfl, q4, q5, q6, q7, q8⟩
 have hs := Lib.hid (q4.str (P := Tryz.prog) Tryz.underlying48 Tryz.underlying5 Tryz.underlying9)
 go_wp2_with fail
 rw [hs.out]
 go_wp2
 go_ret
 refine ⟨v3, rfl, ?_, fun k hk => q2 k (q7 k hk), q3.trans q8 (fun _ _ h => h)⟩
 rw [he.out]; exact q6
theorem itruth_ok (ib : Nat) (v : Value) (c : UInt8) (bs : List UInt8) (w : World) (hi : IsIn w ib v (c :: bs) false) (hc1 : c.toNat <= 1) :
  Calls Tryz.prog 174 #[.pointer (some ⟨ib, 0, none⟩)] w (RdOk w ib v (c :: bs) 1 (.bool (c == 1))) := by
 have hc := Lib.hid (iwide_ok ib v (c :: bs) 1 w hi (by simp) (by omega))
 have hm : leNum ((c :: bs).take 1) = c.toNat := by simp [leNum]
 rw [hm] at hc
 clear hi hm
 have h2 : c.toNat = 0 ∨ c.toNat = 1 := by omega
 have h3 : (c == 1) = decide (c.toNat = 1) := by
  rw [Bool.eq_iff_iff]; simp [<- UInt8.toNat_inj]
 rw [h3]
 rcases h2 with h2 | h2
 all_goals
  rw [h2] at hc ⊢
  clear hc1 h2 h3
  go_enter Tryz.func174, Tryz.ntmps174
  go_wp2_with (go_at_call 177; go_must (refine hc.out.mono ?_); rintro e w1 ⟨v2, rfl, q1, q2, q3⟩)
  go_ret
  exact ⟨v2, rfl, q1, q2, q3⟩
end
section
open Go.RowKit Go.Maps
def crcStep (n : Nat) : Nat := if n % 2 = 1 then (n / 2) ^^^ 2197175160 else n / 2
def crcUp : Nat -> Nat -> Nat
 | 0, n => n
 | k + 1, n => crcStep (crcUp k n)
def crcByte (s : Nat) (x : UInt8) : Nat := crcUp 8 (s ^^^ x.toNat)
def crcNot (s : Nat) : Nat := 4294967295 ^^^ s
def crcOn (s : Nat) (bs : List UInt8) : Nat := crcNot (bs.foldl crcByte (crcNot s))
theorem xor32 {a b : Nat} (ha : a < 4294967296) (hb : b < 4294967296) : a ^^^ b < 4294967296 := Nat.xor_lt_two_pow (n := 32) ha hb
theorem crcStep_lt {n : Nat} (h : n < 4294967296) : crcStep n < 4294967296 := by
 unfold crcStep; split
 ·exact xor32 (by omega) (by decide)
 ·omega
theorem crcUp_lt {n : Nat} (h : n < 4294967296) : ∀ k, crcUp k n < 4294967296
 | 0 => h
 | k + 1 => crcStep_lt (crcUp_lt h k)
theorem crcByte_lt {s : Nat} (h : s < 4294967296) (x : UInt8) : crcByte s x < 4294967296 :=
 crcUp_lt (xor32 h (by have := x.toNat_lt; omega)) 8
theorem crcNot_lt {s : Nat} (h : s < 4294967296) : crcNot s < 4294967296 := xor32 (by decide) h
theorem crcFold_lt {s : Nat} (h : s < 4294967296) : ∀ bs : List UInt8, bs.foldl crcByte s < 4294967296 := by
 intro bs
 induction bs generalizing s with
 | nil => exact h
 | cons b r ih => exact ih (crcByte_lt h b)
theorem bitx (m : Nat) (hm : m < 4294967296) : bits .xor .u32 ((m : Int) / 2) 2197175160 = ((m / 2 ^^^ 2197175160 : Nat) : Int) := by
 have := u32_xor_nat (m / 2) 2197175160 (by omega) (by decide)
 simpa using this
theorem bita (m : Nat) (hm : m < 4294967296) : bits .and .u32 (m : Int) 1 = ((m % 2 : Nat) : Int) := by
 have := u32_and_nat m 1 (by omega) (by decide)
 rw [nat_mask1] at this
 simpa using this
theorem bits_any (s : Nat) (x : UInt8) (hs : s < 4294967296) (w : World) :
  Calls Tryz.prog 252 #[.int .u32 s, .int .u8 (x.toNat : Int)] w fun e w' => e = .returned (.int .u32 (crcByte s x : Nat)) /\ w = w' := by
 have hx := x.toNat_lt
 have hb : Hid (bits .xor .u32 (s : Int) (x.toNat : Int) = ((s ^^^ x.toNat : Nat) : Int)) := u32_xor_nat s x.toNat hs (by omega)
 have hd : Hid (crcByte s x = crcUp 8 (s ^^^ x.toNat)) := rfl
 have hl : Hid (∀ k, crcUp k (s ^^^ x.toNat) < 4294967296) := crcUp_lt (xor32 hs (by omega))
 obtain ⟨n0, hn0⟩ : ∃ n0, s ^^^ x.toNat = n0 := ⟨_, rfl⟩
 obtain ⟨r, hr⟩ : ∃ r, crcByte s x = r := ⟨_, rfl⟩
 obtain ⟨xn, hxn⟩ : ∃ xn, x.toNat = xn := ⟨_, rfl⟩
 rw [hr]
 rw [hr, hn0] at hd
 rw [hn0] at hl hb
 rw [hxn] at hb hx ⊢
 clear hr hn0 hxn
 go_enter Tryz.func252, Tryz.ntmps252
 go_wp2
 rw [hb.out]
 go_loop [0, 10] (fun s i => ∃ (k n : Nat), k <= 8 /\ i = .int .i64 k /\ s = .int .u32 n /\ Hid (n = crcUp k n0)) (fun _ i => 8 - (intOf i).toNat)
 case atStart => exact ⟨0, n0, by omega, rfl, rfl, rfl⟩
 case round =>
  obtain ⟨k, n, hk, rfl, rfl, hn⟩ := hrel
  by_cases hlt : k < 8
  ·have hnl : n < 4294967296 := by rw [hn.out]; exact hl.out k
   have hX := Lib.hid (bitx n hnl)
   have hA := bita n hnl
   by_cases hp : n % 2 = 1
   ·have hT : (bits .and .u32 (n : Int) 1 == 1) = true := by rw [hA, hp]; rfl
    have hS : Hid (crcUp (k + 1) n0 = n / 2 ^^^ 2197175160) := by rw [Hid, crcUp, <- hn.out, crcStep, if_pos hp]
    clear hA hp
    go_wp2
    refine ⟨⟨k + 1, n / 2 ^^^ 2197175160, by omega, by go_num, by rw [hX.out], hS.out.symm⟩, by simp [intOf]; omega⟩
   ·have hT : (bits .and .u32 (n : Int) 1 == 1) = false := by
     rw [hA, show n % 2 = 0 by omega]; rfl
    have hS : Hid (crcUp (k + 1) n0 = n / 2) := by rw [Hid, crcUp, <- hn.out, crcStep, if_neg hp]
    clear hA hp
    go_wp2
    refine ⟨⟨k + 1, n / 2, by omega, by go_num, by go_num, hS.out.symm⟩, by simp [intOf]; omega⟩
  ·have hk8 : Hid (r = n) := by
    have e : k = 8 := by omega
    have := hn.out; rw [e] at this; rw [Hid, hd.out, this]
   go_wp2
   go_ret
   exact ⟨ret_i (by rw [hk8.out]), rfl⟩
theorem bitn (m : Nat) (hm : m < 4294967296) : bits .xor .u32 IntKind.u32.max (m : Int) = ((crcNot m : Nat) : Int) := by
 have := u32_xor_nat 4294967295 m (by decide) hm
 have e : IntKind.u32.max = ((4294967295 : Nat) : Int) := by decide
 rw [e, this]; rfl
theorem on_any (s : Nat) (hs : s < 4294967296) (v : Value) (bs : List UInt8) (w : World) (hv : SlB w v bs) :
  Calls Tryz.prog 249 #[.int .u32 s, v] w fun e w' => e = .returned (.int .u32 (crcOn s bs : Nat)) /\ w = w' := by
 obtain ⟨a, cap, rfl, hcap, hm⟩ := hv.shape
 have hlim := hv.1
 have hN := Lib.hid (bitn s hs)
 have hnl := crcNot_lt hs
 unfold lim at hlim
 have hF : Hid (∀ l : List UInt8, l.foldl crcByte (crcNot s) < 4294967296) := crcFold_lt hnl
 have hR : Hid (crcOn s bs = crcNot (bs.foldl crcByte (crcNot s))) := rfl
 obtain ⟨q, hq⟩ : ∃ q, crcNot s = q := ⟨_, rfl⟩
 obtain ⟨r, hr⟩ : ∃ r, crcOn s bs = r := ⟨_, rfl⟩
 rw [hq] at hN hF hR hnl
 rw [hr] at hR ⊢
 clear hq hr hm
 have hV := Lib.hid hv; clear hv
 go_enter Tryz.func249, Tryz.ntmps249
 go_wp2
 rw [hN.out]
 go_loop [5, 12] (fun s i => ∃ (k n : Nat), k <= bs.length /\ i = .int .i64 k /\ s = .int .u32 n /\ Hid (n = (bs.take k).foldl crcByte q)) (fun _ i => bs.length - (intOf i).toNat)
 case atStart => exact ⟨0, q, by omega, rfl, rfl, by simp [Hid]⟩
 case round =>
  obtain ⟨k, n, hk, rfl, rfl, hn⟩ := hrel
  by_cases hlt : k < bs.length
  ·have hnl : n < 4294967296 := by rw [hn.out]; exact hF.out _
   rcases hV.out.2 with ⟨_, h⟩ | ⟨b, o, cap', h, h1, h2, h3, h4⟩
   ·rw [h] at hlt; simp at hlt
   ·simp only [Value.slice.injEq, true_and] at h
    obtain ⟨rfl, rfl⟩ := h
    have hc := h4 k hlt
    obtain ⟨ch, hch⟩ : ∃ ch, bs[k] = ch := ⟨_, rfl⟩
    rw [hch] at hc
    have hS : Hid ((bs.take (k + 1)).foldl crcByte q = crcByte n ch) := by
     rw [Hid, List.take_succ_eq_append_getElem hlt, List.foldl_append, <- hn.out, hch]; rfl
    clear hch h4 h1 h2 h3
    go_wp2_with (first | (go_at_call 252; refine (bits_any n ch hnl _).mono ?_; rintro e w' ⟨rfl, rfl⟩))
    exact ⟨⟨k + 1, crcByte n ch, by omega, by go_num, rfl, hS.out.symm⟩, by simp [intOf]; omega⟩
  ·have hk8 : Hid (r = crcNot n) := by
    have e : k = bs.length := by omega
    have := hn.out; rw [e, List.take_length] at this; rw [Hid, hR.out, this]
   have hnl : n < 4294967296 := by rw [hn.out]; exact hF.out _
   have hB := Lib.hid (bitn n hnl)
   go_wp2
   go_ret
   exact ⟨ret_i (by rw [hk8.out, hB.out]), rfl⟩
theorem of_any (v : Value) (bs : List UInt8) (w : World) (hv : SlB w v bs) :
  Calls Tryz.prog 243 #[v] w fun e w' => e = .returned (.int .u32 (crcOn 0 bs : Nat)) /\ w = w' := by
 have hc := Lib.hid (on_any 0 (by decide) v bs w hv)
 go_enter Tryz.func243, Tryz.ntmps243
 go_wp2_with (first | (go_at_call 249; refine hc.out.mono ?_; rintro e w' ⟨rfl, rfl⟩))
 go_ret
 exact ⟨rfl, rfl⟩
end
section
open Go.RowKit Go.Maps
theorem IsOut.made (w : World) : IsOut (w.alloc (.cells #[.slice none 0 0] 146)) w.heap.size (.slice none 0 0) [] :=
 ⟨blk_new w _, World.ownsRow_nil _ _ _ _, by simp [Value.ownBlock]⟩
theorem IsIn.made {w : World} {v : Value} {bs : List UInt8} (h : SlB w v bs) : IsIn (w.alloc (.cells #[v, .bool false] 185)) w.heap.size v bs false :=
 ⟨blk_new w _, h.tch0 (Tch.alloc _ _), fun e => Nat.lt_irrefl _ (h.blt _ e)⟩
theorem read_any (a : Option Addr) (m cap : Nat) (w : World) :
  Calls Tryz.prog 109 #[.slice a m cap] w fun e w' => e = .returned (.pointer (some ⟨w.heap.size, 0, none⟩)) /\ w' = w.alloc (.cells #[.slice a m cap, .bool false] 185) := by
 go_enter Tryz.func109, Tryz.ntmps109
 go_wp2
 go_ret
 exact ⟨rfl, rfl⟩
theorem begun1_any (w : World) : Calls Tryz.prog 227 #[] w fun e w' => e = .returned (.bool true) /\ Tch No w w' := by
 have kc := fun (w : World) (C : Array Value) (n c : Nat) => Lib.run_convert_bytes_const (P := Tryz.prog) w 48 5 C n c Tryz.underlying48 Tryz.underlying5
 have i0 := IsOut.made w
 have t0 : Hid (Tch No w (w.alloc (.cells #[.slice none 0 0] 146))) := Tch.alloc _ _
 have H0 := Lib.hid i0; clear i0
 go_enter Tryz.func227, Tryz.ntmps227
 go_wp2_with fail
 refine (osmall_any w.heap.size _ [] 258 _ (by omega) H0.out (by simp)).mono ?_
 rintro e w1 ⟨rfl, v1, i1, t1, n1⟩
 have H1 := Lib.hid i1; clear i1
 go_wp2_with fail
 refine (olong_any w.heap.size _ _ (-2) _ (by omega) (by omega) H1.out (by decide)).mono ?_
 rintro e w2 ⟨rfl, v2, i2, t2, n2⟩
 have H2 := Lib.hid i2; clear i2
 go_wp2_with fail
 refine (otext_any w.heap.size _ _ ⟨#[97, 98]⟩ _ H2.out (by decide) (by decide)).mono ?_
 rintro e w3 ⟨rfl, v3, i3, t3, n3⟩
 have H3 := Lib.hid i3; clear i3
 go_wp2_with fail
 refine (otruth_any w.heap.size _ _ true _ H3.out (by decide)).mono ?_
 rintro e w4 ⟨rfl, v4, i4, t4, n4⟩
 have e4 : ((([] ++ leBytes 2 258) ++ leBytes 8 (u64of (-2))) ++ leBytes 2 (ByteArray.mk #[97, 98]).size ++ (ByteArray.mk #[97, 98]).data.toList ++ [if true = true then 1 else 0]) = [2, 1, 254, 255, 255, 255, 255, 255, 255, 255, 2, 0, 97, 98, 1] := by decide
 rw [e4] at i4
 clear e4
 obtain ⟨a, m, cap, hv, hm⟩ := own_shape' i4.own
 have hm' : m = 15 := hm.out
 subst hm'
 have T4 : Hid (Tch No w w4) := by
  have s1 : w.heap.size + 1 <= w1.heap.size := by have := t1.size; simpa using this
  have s2 := t2.size
  have s3 := t3.size
  have p1 : ∀ k, v1.ownBlock = some k -> w.heap.size <= k := fun k hk => by
   rcases n1 k hk with h | h
   ·simp [Value.ownBlock] at h
   ·simp at h; omega
  have p2 : ∀ k, v2.ownBlock = some k -> w.heap.size <= k := fun k hk => by
   rcases n2 k hk with h | h
   ·exact p1 k h
   ·omega
  have p3 : ∀ k, v3.ownBlock = some k -> w.heap.size <= k := fun k hk => by
   rcases n3 k hk with h | h
   ·exact p2 k h
   ·omega
  refine ((((t0.out.fresh t1 ?_).fresh t2 ?_).fresh t3 ?_).fresh t4 ?_)
  ·rintro k (rfl | h)
   ·exact Nat.le_refl _
   ·simp [Value.ownBlock] at h
  ·rintro k (rfl | h)
   ·exact Nat.le_refl _
   ·exact p1 k h
  ·rintro k (rfl | h)
   ·exact Nat.le_refl _
   ·exact p2 k h
  ·rintro k (rfl | h)
   ·exact Nat.le_refl _
   ·exact p3 k h
 have c4 := i4.cell0
 rw [hv] at c4
 have I4 := Lib.hid i4; clear i4
 clear t0 t1 t2 t3 t4 n1 n2 n3 n4 H0 H1 H2 H3 hm
 go_wp2_with fail
 refine (read_any a 15 cap _).mono ?_
 rintro e w5 ⟨rfl, hw5⟩
 have hs4 : Hid (SlB w4 v4 [2, 1, 254, 255, 255, 255, 255, 255, 255, 255, 2, 0, 97, 98, 1]) := SlB.ofRow I4.out.own (by decide)
 have j5 : Hid (IsIn w5 w4.heap.size v4 [2, 1, 254, 255, 255, 255, 255, 255, 255, 255, 2, 0, 97, 98, 1] false) := by rw [hw5, <- hv]; exact IsIn.made hs4.out
 have t5 : Hid (Tch No w4 w5) := by rw [hw5]; exact Tch.alloc _ _
 clear hw5
 go_wp2_with fail
 refine (ismall_ok w4.heap.size v4 _ w5 j5.out (by decide)).mono ?_
 rintro e w6 ⟨v6, rfl, j6, o6, t6⟩
 have e6 : leNum (List.take 2 [2, 1, 254, 255, 255, 255, 255, 255, 255, 255, 2, 0, 97, 98, 1]) = 258 := by decide
 rw [e6]
 have J6 := Lib.hid j6; clear j6 e6
 go_wp2_with fail
 refine (ilong_ok w4.heap.size v6 _ w6 J6.out (by decide)).mono ?_
 rintro e w7 ⟨v7, rfl, j7, o7, t7⟩
 have e7 : wrap64 ((leNum (List.take 8 (List.drop 2 [2, 1, 254, 255, 255, 255, 255, 255, 255, 255, 2, 0, 97, 98, 1])) : Nat) : Int) = -2 := by
  rw [show leNum (List.take 8 (List.drop 2 [2, 1, 254, 255, 255, 255, 255, 255, 255, 255, 2, 0, 97, 98, 1])) = 18446744073709551614 by decide]; unfold wrap64; decide
 rw [e7]
 have J7 := Lib.hid j7; clear j7 e7
 go_wp2_with fail
 refine (itext_ok w4.heap.size v7 _ w7 J7.out (by decide) 2 (by decide) (by decide)).mono ?_
 rintro e w8 ⟨v8, rfl, j8, o8, t8⟩
 have J8 := Lib.hid j8; clear j8
 go_wp2_with fail
 refine (itruth_ok w4.heap.size v8 1 [] w8 J8.out (by decide)).mono ?_
 rintro e w9 ⟨v9, rfl, j9, o9, t9⟩
 have J9 := Lib.hid j9; clear j9
 have T49 : Tch (InF w4.heap.size) w4 w9 := (((((t5.out.no (F := InF w4.heap.size)).trans t6 (fun _ _ h => h)).trans t7 (fun _ _ h => h)).trans t8 (fun _ _ h => h)).trans t9 (fun _ _ h => h))
 obtain ⟨g, hg⟩ : ∃ g, a = some ⟨g, 0, none⟩ := by
  rcases I4.out.own.2 with ⟨h, _⟩ | ⟨g, cap', cur, h, _⟩
  ·rw [hv] at h; injection h with h1 h2; cases h2
  ·rw [hv] at h; injection h with h1 h2; exact ⟨g, h1⟩
 subst hg
 have hgb : g < w4.heap.size := own_loc I4.out.own g (by rw [hv]; rfl)
 have hob : w.heap.size < w4.heap.size := blk_lt I4.out.cell
 have c9 : w9.cell? ⟨w.heap.size, 0, none⟩ = some (.slice (some ⟨g, 0, none⟩) 15 cap) := T49.cell c4 (by unfold InF; simp; omega)
 have hcells := I4.out.own.cells (g := g) (by rw [hv]; rfl)
 have d0 : w9.cell? ⟨g, 0, none⟩ = some (.int .u8 2) := T49.cell (hcells 0 _ rfl) (by unfold InF; show ¬ g = _; omega)
 have d1 : w9.cell? ⟨g, 1, none⟩ = some (.int .u8 1) := T49.cell (hcells 1 _ rfl) (by unfold InF; show ¬ g = _; omega)
 have T9 := Lib.hid T49; clear T49 hcells t5 t6 t7 t8 t9 o6 o7 o8 o9 c4 J6 J7 J8 hs4 j5
 go_wp2_with fail
 refine (iend_any _ _ _ _ w9 J9.out).mono ?_
 rintro e w10 ⟨rfl, rfl⟩
 go_wp2_with fail
 refine (ileft_any _ _ _ _ w9 J9.out).mono ?_
 rintro e w10 ⟨rfl, rfl⟩
 go_wp2_with fail
 refine (ibad_any _ _ _ _ w9 J9.out).mono ?_
 rintro e w10 ⟨rfl, rfl⟩
 go_wp2_with fail
 refine (ismall_no _ _ _ _ w9 J9.out (by decide)).mono ?_
 rintro e w10 ⟨rfl, j10, t10⟩
 have J10 := Lib.hid j10; clear j10
 go_wp2_with fail
 refine (ibad_any _ _ _ _ w10 J10.out).mono ?_
 rintro e w11 ⟨rfl, rfl⟩
 go_wp2_with fail
 refine (of_any _ [49, 50, 51, 52, 53, 54, 55, 56, 57] _ (SlB.lit _ _ _ _ _ _ rfl rfl (by decide))).mono ?_
 rintro e w12 ⟨rfl, rfl⟩
 have e12 : crcOn 0 [49, 50, 51, 52, 53, 54, 55, 56, 57] = 3808858755 := by decide +kernel
 rw [e12]
 go_wp2
 go_ret
 have hz : w.heap.size <= w4.heap.size := T4.out.size
 exact ⟨rfl, ((T4.out.fresh T9.out (fun i h => by rw [InF] at h; omega)).fresh t10 (fun i h => by rw [InF] at h; omega)).trans0 (Tch.alloc _ _)⟩
theorem begun1'_any (w : World) : Calls Tryz.prog 180 #[] w fun e w' => e = .returned (.bool true) /\ Tch No w w' := by
 go_enter Tryz.func180, Tryz.ntmps180
 go_wp2_with (go_at_call 227; go_must (refine (begun1_any _).mono ?_); rintro e w1 ⟨rfl, q1⟩)
 go_ret
 exact ⟨rfl, q1⟩
end
end Go.Proofs.YtfedhcnmdmhppaaGreat
