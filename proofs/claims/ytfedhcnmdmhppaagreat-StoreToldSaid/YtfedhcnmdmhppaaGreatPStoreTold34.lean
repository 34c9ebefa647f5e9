/- Part 34 of what the proof of StoreTold rests on. No condition. -/
import Derived.Test.YtfedhcnmdmhppaaGreatPStoreTold33
namespace Go.Proofs.YtfedhcnmdmhppaaGreat
set_option maxRecDepth 100000
set_option maxHeartbeats 60000000
set_option linter.unusedVariables false
set_option linter.unusedSimpArgs false
section
open Go.RowKit Go.Maps
theorem smsg1_any (i1 : Int) (sq sb : ByteArray) (s1 c1 w1 t : Int) (ib : Nat) (w : World) (hc : w.cell? ⟨ib, 0, none⟩ = some (.int .i64 t)) :
  Calls Tryz.prog 188 #[.agg #[.int .i64 i1, .string sq, .string sb, .int .i64 s1, .int .i64 c1, .int .i64 w1], .pointer (some ⟨ib, 0, none⟩)] w fun e w' => e = .returned (.bool (i1 == t)) /\ Tch No w w' := by
 have hc2 := cal hc
 go_enter Tryz.func188, Tryz.ntmps188
 go_wp2_with fail
 go_ret
 exact ⟨rfl, Tch.alloc _ _⟩
theorem sindex_msg (l : List MsgM) (t : Int) (ib : Nat) (v : Value) (w : World) (h : IsMsgs w v l) (hc : w.cell? ⟨ib, 0, none⟩ = some (.int .i64 t)) :
  Calls Tryz.prog 164 #[v, .func (.func 188) #[] #[.pointer (some ⟨ib, 0, none⟩)]] w fun e w' => e = .returned (.int .i64 (atI (·.id) l t)) /\ Tch No w w' := by
 obtain ⟨a, c, rfl, _⟩ := CellsAt.shape h
 have H := Lib.hid h
 have HC := Lib.hid hc
 obtain ⟨n, hn⟩ : ∃ n, l.length = n := ⟨_, rfl⟩
 rw [hn] at H ⊢
 have HN := Lib.hid hn
 have hml : n <= 9223372036854775807 := by
  obtain ⟨_, c, _, h1, h2⟩ := CellsAt.shape H.out
  unfold maxLen at h2; omega
 clear h hc hn
 go_enter Tryz.func164, Tryz.ntmps164
 go_wp2_with fail
 go_loopg [8] n (fun kx sx wr => ∃ k : Nat, sx = .int .i64 k /\ k <= n /\ n - k <= kx /\ Hid (Tch No w wr) /\ Hid (∀ i (hi : i < l.length), i < k -> l[i].id ≠ t))
 case atStart => exact ⟨0, rfl, Nat.zero_le _, by omega, Tch.refl _ _, fun i _ h => absurd h (Nat.not_lt_zero _)⟩
 case round =>
  obtain ⟨k, rfl, hk, hgk, TT, I⟩ := hrel
  by_cases hlt : k < n
  ·have hkl : k < l.length := by have := HN.out; omega
   have hb : ∃ b o, a = some ⟨b, o, none⟩ /\ wr.cell? ⟨b, o + k * 6, none⟩ = some (.int .i64 l[k].id) /\ wr.cell? ⟨b, o + k * 6 + 1, none⟩ = some (strV l[k].q) /\ wr.cell? ⟨b, o + k * 6 + 2, none⟩ = some (strV l[k].b) /\
     wr.cell? ⟨b, o + k * 6 + 3, none⟩ = some (.int .i64 l[k].seq) /\ wr.cell? ⟨b, o + k * 6 + 4, none⟩ = some (.int .i64 l[k].cnt) /\ wr.cell? ⟨b, o + k * 6 + 5, none⟩ = some (.int .i64 l[k].who) := by
    rcases msgs_cells H.out with ⟨_, h0⟩ | ⟨b, o, cap2, h1, _, _, _, h5⟩
    ·rw [h0] at hkl; simp at hkl
    ·rw [HN.out] at h1
     injection h1 with h1 _ _
     obtain ⟨g0, g1, g2, g3, g4, g5⟩ := h5 k hkl
     exact ⟨b, o, h1, TT.out.cell g0 (fun h => h), TT.out.cell g1 (fun h => h), TT.out.cell g2 (fun h => h), TT.out.cell g3 (fun h => h), TT.out.cell g4 (fun h => h), TT.out.cell g5 (fun h => h)⟩
   obtain ⟨b, o, rfl, e0, e1, e2, e3, e4, e5⟩ := hb
   obtain ⟨m, hm⟩ : ∃ m, l[k] = m := ⟨_, rfl⟩
   have HM := Lib.hid hm
   rw [hm] at e0 e1 e2 e3 e4 e5
   obtain ⟨i1, tq, tb, s1, c1, w1⟩ := m
   simp only at e0 e1 e2 e3 e4 e5
   obtain ⟨sq, hsq⟩ : ∃ z, strV tq = .string z := ⟨_, rfl⟩
   obtain ⟨sb, hsb⟩ : ∃ z, strV tb = .string z := ⟨_, rfl⟩
   rw [hsq] at e1
   rw [hsb] at e2
   have HF : Hid (∀ W, Tch No w W -> Calls Tryz.prog 188 #[.agg #[.int .i64 i1, .string sq, .string sb, .int .i64 s1, .int .i64 c1, .int .i64 w1], .pointer (some ⟨ib, 0, none⟩)] W fun e w' => e = .returned (.bool (i1 == t)) /\ Tch No W w') := fun W T => smsg1_any i1 sq sb s1 c1 w1 t ib W (T.cell HC.out (fun h => h))
   clear hm hsq hsb
   by_cases hit : i1 = t
   ·have HA : Hid (atI (fun x : MsgM => x.id) l t = (k : Int)) := atI_hit hkl (by rw [HM.out]; exact hit) I.out
    have hd : (i1 == t) = true := by simpa using hit
    rw [hd] at HF
    clear hit hd
    go_wp2_with (go_at_call 188; refine (HF.out _ TT.out).mono ?_; rintro e w3 ⟨rfl, T3⟩)
    go_ret
    exact ⟨ret_i HA.out.symm, TT.out.trans0 T3⟩
   ·have hd : (i1 == t) = false := by simpa using hit
    have HI : Hid (∀ i (hi : i < l.length), i < k + 1 -> l[i].id ≠ t) := fun i h1 h2 => by
     by_cases e : i = k
     ·subst e; rw [HM.out]; exact hit
     ·exact I.out i h1 (by omega)
    rw [hd] at HF
    clear hit hd
    go_wp2_with (go_at_call 188; refine (HF.out _ TT.out).mono ?_; rintro e w3 ⟨rfl, T3⟩)
    go_roundg (n - (k + 1))
    case measure => omega
    case rel => exact ⟨k + 1, by go_num, by omega, by omega, TT.out.trans0 T3, HI⟩
  ·obtain rfl : n = k := by omega
   have HA : Hid (atI (fun x : MsgM => x.id) l t = -1) := atI_miss (fun i hi => I.out i hi (by have := HN.out; omega))
   clear hgk hlt hk
   go_wp2_with fail
   go_ret
   exact ⟨ret_i HA.out.symm, TT.out⟩
theorem smessage_any (s : StM) (t : Int) (v : Value) (w : World) (h : IsSt w v s) :
  Calls Tryz.prog 149 #[v, .int .i64 t] w fun e w' => e = .returned (.int .i64 (atI (·.id) s.ms t)) /\ Tch No w w' := by
 obtain ⟨am, cm, aw, cw, ae, ce, ao, co, an, cn, nm, nw, ne, no, nn, hval, HMSL, HNM, hlnm, HWSL, HNW, hlnw, HESL, HNE, hlne, HOSL, HNO, hlno, HNSL, HNN, hlnn⟩ := st_pre h
 have HX : Hid (∀ W, Tch No w W -> W.cell? ⟨w.heap.size + 1, 0, none⟩ = some (.int .i64 t) -> Calls Tryz.prog 164 #[.slice am nm cm, .func (.func 188) #[] #[.pointer (some ⟨w.heap.size + 1, 0, none⟩)]] W fun e w' => e = .returned (.int .i64 (atI (·.id) s.ms t)) /\ Tch No W w') := fun W T hc => sindex_msg s.ms t _ _ W (HMSL.out.keep T) hc
 clear h
 subst hval
 have hcc := Lib.hid (box2_cell w #[.int .i64 t] 2 (.cells #[.int .i64 s.broker, .int .i64 s.nid, .int .i64 s.nseq, .int .i64 s.tx, .slice am nm cm, .slice aw nw cw, .slice ae ne ce, .slice ao no co, .slice an nn cn] 27) 0 (by simp))
 go_enter Tryz.func149, Tryz.ntmps149
 go_wp2_with (go_at_call 164; refine (HX.out _ ((Tch.alloc _ _).trans0 (Tch.alloc _ _)) hcc.out).mono ?_; rintro e w3 ⟨rfl, T3⟩)
 go_ret
 exact ⟨rfl, ((Tch.alloc _ _).trans0 (Tch.alloc _ _)).trans0 T3⟩
theorem sfits_any (s : StM) (hm : MayP s) (m : Nat) (hm2 : m <= 1000000) (v : Value) (w : World) (h : IsSt w v s) :
  Calls Tryz.prog 153 #[v, .int .i64 (m : Nat)] w fun e w' => e = .returned (.bool (fitsB s m)) /\ Tch No w w' := by
 obtain ⟨am, cm, aw, cw, ae, ce, ao, co, an, cn, nm, nw, ne, no, nn, hval, HMSL, HNM, hlnm, HWSL, HNW, hlnw, HESL, HNE, hlne, HOSL, HNO, hlno, HNSL, HNN, hlnn⟩ := st_pre h
 have hpm := pend_may hm
 have hni := hm.nid
 have hns := hm.nseq
 have hms := hm.lms
 rw [HNM.out] at hms
 have HPM := Lib.hid hpm
 obtain ⟨hn1, hn2⟩ := hni
 obtain ⟨hs1, hs2⟩ := hns
 clear h hm
 subst hval
 go_enter Tryz.func153, Tryz.ntmps153
 go_wp2_with fail
 go_loopg [1, 10] nw (fun kx s1 s10 wr => ∃ k n : Nat, s10 = .int .i64 k /\ s1 = .int .i64 n /\ k <= nw /\ nw - k <= kx /\ n <= 1020000 /\ Hid (n = m + ((s.waits.take k).map (·.puts.length)).sum) /\ Hid (Tch No w wr) /\ Hid (BoxAt wr w.heap.size [.int .i64 s.broker, .int .i64 s.nid, .int .i64 s.nseq, .int .i64 s.tx, .slice am nm cm, .slice aw nw cw, .slice ae ne ce, .slice ao no co, .slice an nn cn]))
 case atStart => exact ⟨0, m, rfl, rfl, Nat.zero_le _, by omega, by omega, by simp [Hid], Tch.alloc _ _, BoxAt.made _ _ _⟩
 case round =>
  obtain ⟨k, n, rfl, rfl, hk, hgk, hn, HN0, TT, HB⟩ := hrel
  by_cases hlt : k < nw
  ·have hkl : k < s.waits.length := by have := HNW.out; omega
   have hb : ∃ b o, aw = some ⟨b, o, none⟩ /\ ∃ t, wr.cell? ⟨b, o + k * 2, none⟩ = some (.int .i64 t) /\ ∃ a c, wr.cell? ⟨b, o + k * 2 + 1, none⟩ = some (.slice a s.waits[k].puts.length c) := by
    rcases brs_cells HWSL.out with ⟨_, h0⟩ | ⟨b, o, cap2, h1, _, _, _, h5⟩
    ·rw [h0] at hkl; simp at hkl
    ·rw [HNW.out] at h1
     injection h1 with h1 _ _
     obtain ⟨g1, a, c, g2, g3⟩ := h5 k hkl
     exact ⟨b, o, h1, _, TT.out.cell g1 (fun h => h), a, c, TT.out.cell g2 (fun h => h)⟩
   obtain ⟨b, o, rfl, t, e0, pa, pc, e1⟩ := hb
   have hsum := pend_take s.waits hkl
   have hle := pend_le s.waits (k + 1)
   obtain ⟨q, hq⟩ : ∃ q, s.waits[k].puts.length = q := ⟨_, rfl⟩
   rw [hq] at e1 hsum
   have HS : Hid (n + q = m + ((s.waits.take (k + 1)).map (·.puts.length)).sum) := by rw [Hid, hsum, HN0.out]; omega
   have hnm : n + q <= 1020000 := by have := HS.out; have := HPM.out; unfold pendingM at this; omega
   clear hsum hle hq
   go_wp2_with fail
   go_roundg (nw - (k + 1))
   case measure => omega
   case rel => exact ⟨k + 1, n + q, by go_num, by go_num, by omega, by omega, hnm, HS, TT.out.trans0 (Tch.alloc _ _), HB.out.keep (Tch.alloc _ _)⟩
  ·obtain rfl : nw = k := by omega
   have hp : m + pendingM s = n := by rw [HN0.out, pendingM, List.take_of_length_le (by have := HNW.out; omega)]
   have HF : Hid (fitsB s m = ((decide ((n : Int) <= 4294967296 - s.nid) && decide ((n : Int) <= 72 - (nm : Int))) && decide ((n : Int) <= 1099511627776 - s.nseq))) := by
    rw [Hid, fitsB, HNM.out]
    have e1 : ((pendingM s + m : Nat) : Int) = (n : Int) := by omega
    have e2 : decide (pendingM s + m + nm <= 72) = decide ((n : Int) <= 72 - (nm : Int)) := by congr 1; simp only [eq_iff_iff]; omega
    rw [e1, e2]
   have c1 := HB.out 1 _ rfl
   have c2 := HB.out 2 _ rfl
   have c4 := HB.out 4 _ rfl
   clear hgk hk hlt hp
   by_cases l1 : (n : Int) <= 4294967296 - s.nid
   case neg =>
    have HN : Hid (fitsB s m = false) := by rw [Hid, HF.out]; simp [l1]
    go_wp2_with fail
    go_ret
    exact ⟨ret_b HN.out.symm, TT.out⟩
   by_cases l2 : (n : Int) <= 72 - (nm : Int)
   case neg =>
    have HN : Hid (fitsB s m = false) := by rw [Hid, HF.out]; simp [l2]
    go_wp2_with fail
    go_ret
    exact ⟨ret_b HN.out.symm, TT.out⟩
   have HN : Hid (fitsB s m = decide ((n : Int) <= 1099511627776 - s.nseq)) := by rw [Hid, HF.out]; simp [l1, l2]
   go_wp2_with fail
   go_ret
   exact ⟨ret_b HN.out.symm, TT.out⟩
end
end Go.Proofs.YtfedhcnmdmhppaaGreat
