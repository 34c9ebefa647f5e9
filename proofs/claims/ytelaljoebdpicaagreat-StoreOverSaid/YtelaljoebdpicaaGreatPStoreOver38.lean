/- Part 38 of what the proof of StoreOver rests on. No condition. -/
import Derived.Test.YtelaljoebdpicaaGreatPStoreOver03
import Derived.Test.YtelaljoebdpicaaGreatPStoreOver07
import Derived.Test.YtelaljoebdpicaaGreatPStoreOver10
import Derived.Test.YtelaljoebdpicaaGreatPStoreOver37
namespace Go.Proofs.YtelaljoebdpicaaGreat
set_option maxRecDepth 100000
set_option maxHeartbeats 60000000
set_option linter.unusedVariables false
set_option linter.unusedSimpArgs false
set_option linter.unusedSectionVars false
section
open Go.RowKit Go.Maps
structure RoomP (s : StM) (n : Nat) : Prop where
 nid : ((pendingM s + n : Nat) : Int) <= 4294967296 - s.nid
 ms : pendingM s + n + s.ms.length <= 72
 seq : ((pendingM s + n : Nat) : Int) <= 1099511627776 - s.nseq
theorem rec_parts {r : RecM} (h : recB r = true) : (1 <= r.kind /\ r.kind <= 9) /\ tidB r.tid = true /\ (r.kind = 4 ∨ r.kind = 7 -> r.puts.length <= 10 /\ r.puts.all putB = true) /\ (r.kind = 6 -> (1 <= r.parts.length /\ r.parts.length <= 7) /\ risingB r.parts = true) /\ (r.kind = 8 -> r.parts.length <= 7 /\ risingB r.parts = true) := by
 unfold recB at h
 simp only [Bool.and_eq_true, decide_eq_true_eq] at h
 obtain ⟨⟨⟨⟨⟨h1, h2⟩, h3⟩, h4⟩, h5⟩, h6⟩ := h
 refine ⟨h1, h2, ?_, ?_, ?_⟩
 ·intro hk
  rw [if_pos hk] at h5
  simpa using h5
 ·intro hk
  rw [if_pos hk] at h6
  simpa using h6
 ·intro hk
  rw [if_neg (by omega), if_pos hk] at h6
  simpa using h6
end
section
open Go.RowKit Go.Maps
theorem pend_take (l : List BrM) {k : Nat} (hk : k < l.length) : ((l.take (k + 1)).map (·.puts.length)).sum = ((l.take k).map (·.puts.length)).sum + l[k].puts.length := by
 rw [List.take_succ_eq_append_getElem hk, List.map_append, List.sum_append_nat]
 simp
theorem pend_le (l : List BrM) (k : Nat) : ((l.take k).map (·.puts.length)).sum <= (l.map (·.puts.length)).sum := by
 have e := congrArg (fun x : List BrM => (x.map (·.puts.length)).sum) (List.take_append_drop k l)
 simp only [List.map_append, List.sum_append_nat] at e
 omega
theorem pend_may {s : StM} (h : MayP s) : pendingM s <= 20000 := by
 have hw := h.waits
 have hl := h.lw
 unfold pendingM
 have : ∀ (l : List BrM), (∀ w ∈ l, w.puts.length <= 10) -> (l.map (·.puts.length)).sum <= 10 * l.length := by
  intro l
  induction l with
  | nil => intro _; simp
  | cons a r ih =>
   intro h
   have h1 := h a (by simp)
   have h2 := ih (fun w hw => h w (by simp [hw]))
   simp only [List.map_cons, List.sum_cons, List.length_cons]
   omega
 have := this s.waits (fun w hm => (hw w hm).len)
 omega
theorem ret_e {n m : Nat} (h : m = n) : Ending.returned (.int .i64 ((n : Nat) : Int)) = .returned (.int .i64 ((m : Nat) : Int)) := by rw [h]
theorem IsRec.shape {w : World} {v : Value} {r : RecM} (h : IsRec w v r) : ∃ ap cp au cu, v = .agg #[.int .i64 r.kind, .int .i64 r.tid, .int .i64 r.id, .bool r.yes, .slice ap r.parts.length cp, .slice au r.puts.length cu] /\ IsInts w (.slice ap r.parts.length cp) r.parts /\ IsPuts w (.slice au r.puts.length cu) r.puts := by
 obtain ⟨vp, vu, rfl, h1, h2⟩ := h
 obtain ⟨ap, cp, rfl, _⟩ := CellsAt.shape h1
 obtain ⟨au, cu, rfl, _⟩ := CellsAt.shape h2
 exact ⟨ap, cp, au, cu, rfl, h1, h2⟩
end
section
open Go.RowKit Go.Maps
theorem smsg1_any (i1 : Int) (sq sb : ByteArray) (s1 c1 w1 t : Int) (ib : Nat) (w : World) (hc : w.cell? ⟨ib, 0, none⟩ = some (.int .i64 t)) :
  Calls Tryz.prog 184 #[.agg #[.int .i64 i1, .string sq, .string sb, .int .i64 s1, .int .i64 c1, .int .i64 w1], .pointer (some ⟨ib, 0, none⟩)] w fun e w' => e = .returned (.bool (i1 == t)) /\ Tch No w w' := by
 have hc2 := cal hc
 go_enter Tryz.func184, Tryz.ntmps184
 go_wp2_with fail
 go_ret
 exact ⟨rfl, Tch.alloc _ _⟩
theorem sindex_msg (l : List MsgM) (t : Int) (ib : Nat) (v : Value) (w : World) (h : IsMsgs w v l) (hc : w.cell? ⟨ib, 0, none⟩ = some (.int .i64 t)) :
  Calls Tryz.prog 160 #[v, .func (.func 184) #[] #[.pointer (some ⟨ib, 0, none⟩)]] w fun e w' => e = .returned (.int .i64 (atI (·.id) l t)) /\ Tch No w w' := by
 obtain ⟨a, c, rfl, _⟩ := CellsAt.shape h
 have H := Lib.hid h
 have HC := Lib.hid hc
 obtain ⟨n, hn⟩ : ∃ n, l.length = n := ⟨_, rfl⟩
 rw [hn] at H ⊢
 have HN := Lib.hid hn
 have hml : n <= 9223372036854775807 := by
  obtain ⟨_, c, _, h1, h2⟩ := CellsAt.shape H.out
  unfold maxLen at h2; omega
 clear h hc hn
 go_enter Tryz.func160, Tryz.ntmps160
 go_wp2_with fail
 go_loopg [8] n (fun kx sx wr => ∃ k : Nat, sx = .int .i64 k /\ k <= n /\ n - k <= kx /\ Hid (Tch No w wr) /\ Hid (∀ i (hi : i < l.length), i < k -> l[i].id ≠ t))
 case atStart => exact ⟨0, rfl, Nat.zero_le _, by omega, Tch.refl _ _, fun i _ h => absurd h (Nat.not_lt_zero _)⟩
 case round =>
  obtain ⟨k, rfl, hk, hgk, TT, I⟩ := hrel
  by_cases hlt : k < n
  ·have hkl : k < l.length := by have := HN.out; omega
   have hb : ∃ b o, a = some ⟨b, o, none⟩ /\ wr.cell? ⟨b, o + k * 6, none⟩ = some (.int .i64 l[k].id) /\ wr.cell? ⟨b, o + k * 6 + 1, none⟩ = some (strV l[k].q) /\ wr.cell? ⟨b, o + k * 6 + 2, none⟩ = some (strV l[k].b) /\
     wr.cell? ⟨b, o + k * 6 + 3, none⟩ = some (.int .i64 l[k].seq) /\ wr.cell? ⟨b, o + k * 6 + 4, none⟩ = some (.int .i64 l[k].cnt) /\ wr.cell? ⟨b, o + k * 6 + 5, none⟩ = some (.int .i64 l[k].who) := by
    rcases msgs_cells H.out with ⟨_, h0⟩ | ⟨b, o, cap2, h1, _, _, _, h5⟩
    ·rw [h0] at hkl; simp at hkl
    ·rw [HN.out] at h1
     injection h1 with h1 _ _
     obtain ⟨g0, g1, g2, g3, g4, g5⟩ := h5 k hkl
     exact ⟨b, o, h1, TT.out.cell g0 (fun h => h), TT.out.cell g1 (fun h => h), TT.out.cell g2 (fun h => h), TT.out.cell g3 (fun h => h), TT.out.cell g4 (fun h => h), TT.out.cell g5 (fun h => h)⟩
   obtain ⟨b, o, rfl, e0, e1, e2, e3, e4, e5⟩ := hb
   obtain ⟨m, hm⟩ : ∃ m, l[k] = m := ⟨_, rfl⟩
   have HM := Lib.hid hm
   rw [hm] at e0 e1 e2 e3 e4 e5
   obtain ⟨i1, tq, tb, s1, c1, w1⟩ := m
   simp only at e0 e1 e2 e3 e4 e5
   obtain ⟨sq, hsq⟩ : ∃ z, strV tq = .string z := ⟨_, rfl⟩
   obtain ⟨sb, hsb⟩ : ∃ z, strV tb = .string z := ⟨_, rfl⟩
   rw [hsq] at e1
   rw [hsb] at e2
   have HF : Hid (∀ W, Tch No w W -> Calls Tryz.prog 184 #[.agg #[.int .i64 i1, .string sq, .string sb, .int .i64 s1, .int .i64 c1, .int .i64 w1], .pointer (some ⟨ib, 0, none⟩)] W fun e w' => e = .returned (.bool (i1 == t)) /\ Tch No W w') := fun W T => smsg1_any i1 sq sb s1 c1 w1 t ib W (T.cell HC.out (fun h => h))
   clear hm hsq hsb
   by_cases hit : i1 = t
   ·have HA : Hid (atI (fun x : MsgM => x.id) l t = (k : Int)) := atI_hit hkl (by rw [HM.out]; exact hit) I.out
    have hd : (i1 == t) = true := by simpa using hit
    rw [hd] at HF
    clear hit hd
    go_wp2_with (go_at_call 184; refine (HF.out _ TT.out).mono ?_; rintro e w3 ⟨rfl, T3⟩)
    go_ret
    exact ⟨ret_i HA.out.symm, TT.out.trans0 T3⟩
   ·have hd : (i1 == t) = false := by simpa using hit
    have HI : Hid (∀ i (hi : i < l.length), i < k + 1 -> l[i].id ≠ t) := fun i h1 h2 => by
     by_cases e : i = k
     ·subst e; rw [HM.out]; exact hit
     ·exact I.out i h1 (by omega)
    rw [hd] at HF
    clear hit hd
    go_wp2_with (go_at_call 184; refine (HF.out _ TT.out).mono ?_; rintro e w3 ⟨rfl, T3⟩)
    go_roundg (n - (k + 1))
    case measure => omega
    case rel => exact ⟨k + 1, by go_num, by omega, by omega, TT.out.trans0 T3, HI⟩
  ·obtain rfl : n = k := by omega
   have HA : Hid (atI (fun x : MsgM => x.id) l t = -1) := atI_miss (fun i hi => I.out i hi (by have := HN.out; omega))
   clear hgk hlt hk
   go_wp2_with fail
   go_ret
   exact ⟨ret_i HA.out.symm, TT.out⟩
theorem smessage_any (s : StM) (t : Int) (v : Value) (w : World) (h : IsSt w v s) :
  Calls Tryz.prog 145 #[v, .int .i64 t] w fun e w' => e = .returned (.int .i64 (atI (·.id) s.ms t)) /\ Tch No w w' := by
 obtain ⟨am, cm, aw, cw, ae, ce, ao, co, an, cn, nm, nw, ne, no, nn, hval, HMSL, HNM, hlnm, HWSL, HNW, hlnw, HESL, HNE, hlne, HOSL, HNO, hlno, HNSL, HNN, hlnn⟩ := st_pre h
 have HX : Hid (∀ W, Tch No w W -> W.cell? ⟨w.heap.size + 1, 0, none⟩ = some (.int .i64 t) -> Calls Tryz.prog 160 #[.slice am nm cm, .func (.func 184) #[] #[.pointer (some ⟨w.heap.size + 1, 0, none⟩)]] W fun e w' => e = .returned (.int .i64 (atI (·.id) s.ms t)) /\ Tch No W w') := fun W T hc => sindex_msg s.ms t _ _ W (HMSL.out.keep T) hc
 clear h
 subst hval
 have hcc := Lib.hid (box2_cell w #[.int .i64 t] 2 (.cells #[.int .i64 s.broker, .int .i64 s.nid, .int .i64 s.nseq, .int .i64 s.tx, .slice am nm cm, .slice aw nw cw, .slice ae ne ce, .slice ao no co, .slice an nn cn] 27) 0 (by simp))
 go_enter Tryz.func145, Tryz.ntmps145
 go_wp2_with (go_at_call 160; refine (HX.out _ ((Tch.alloc _ _).trans0 (Tch.alloc _ _)) hcc.out).mono ?_; rintro e w3 ⟨rfl, T3⟩)
 go_ret
 exact ⟨rfl, ((Tch.alloc _ _).trans0 (Tch.alloc _ _)).trans0 T3⟩
theorem sfits_any (s : StM) (hm : MayP s) (m : Nat) (hm2 : m <= 1000000) (v : Value) (w : World) (h : IsSt w v s) :
  Calls Tryz.prog 149 #[v, .int .i64 (m : Nat)] w fun e w' => e = .returned (.bool (fitsB s m)) /\ Tch No w w' := by
 obtain ⟨am, cm, aw, cw, ae, ce, ao, co, an, cn, nm, nw, ne, no, nn, hval, HMSL, HNM, hlnm, HWSL, HNW, hlnw, HESL, HNE, hlne, HOSL, HNO, hlno, HNSL, HNN, hlnn⟩ := st_pre h
 have hpm := pend_may hm
 have hni := hm.nid
 have hns := hm.nseq
 have hms := hm.lms
 rw [HNM.out] at hms
 have HPM := Lib.hid hpm
 obtain ⟨hn1, hn2⟩ := hni
 obtain ⟨hs1, hs2⟩ := hns
 clear h hm
 subst hval
 go_enter Tryz.func149, Tryz.ntmps149
 go_wp2_with fail
 go_loopg [1, 10] nw (fun kx s1 s10 wr => ∃ k n : Nat, s10 = .int .i64 k /\ s1 = .int .i64 n /\ k <= nw /\ nw - k <= kx /\ n <= 1020000 /\ Hid (n = m + ((s.waits.take k).map (·.puts.length)).sum) /\ Hid (Tch No w wr) /\ Hid (BoxAt wr w.heap.size [.int .i64 s.broker, .int .i64 s.nid, .int .i64 s.nseq, .int .i64 s.tx, .slice am nm cm, .slice aw nw cw, .slice ae ne ce, .slice ao no co, .slice an nn cn]))
 case atStart => exact ⟨0, m, rfl, rfl, Nat.zero_le _, by omega, by omega, by simp [Hid], Tch.alloc _ _, BoxAt.made _ _ _⟩
 case round =>
  obtain ⟨k, n, rfl, rfl, hk, hgk, hn, HN0, TT, HB⟩ := hrel
  by_cases hlt : k < nw
  ·have hkl : k < s.waits.length := by have := HNW.out; omega
   have hb : ∃ b o, aw = some ⟨b, o, none⟩ /\ ∃ t, wr.cell? ⟨b, o + k * 2, none⟩ = some (.int .i64 t) /\ ∃ a c, wr.cell? ⟨b, o + k * 2 + 1, none⟩ = some (.slice a s.waits[k].puts.length c) := by
    rcases brs_cells HWSL.out with ⟨_, h0⟩ | ⟨b, o, cap2, h1, _, _, _, h5⟩
    ·rw [h0] at hkl; simp at hkl
    ·rw [HNW.out] at h1
     injection h1 with h1 _ _
     obtain ⟨g1, a, c, g2, g3⟩ := h5 k hkl
     exact ⟨b, o, h1, _, TT.out.cell g1 (fun h => h), a, c, TT.out.cell g2 (fun h => h)⟩
   obtain ⟨b, o, rfl, t, e0, pa, pc, e1⟩ := hb
   have hsum := pend_take s.waits hkl
   have hle := pend_le s.waits (k + 1)
   obtain ⟨q, hq⟩ : ∃ q, s.waits[k].puts.length = q := ⟨_, rfl⟩
   rw [hq] at e1 hsum
   have HS : Hid (n + q = m + ((s.waits.take (k + 1)).map (·.puts.length)).sum) := by rw [Hid, hsum, HN0.out]; omega
   have hnm : n + q <= 1020000 := by have := HS.out; have := HPM.out; unfold pendingM at this; omega
   clear hsum hle hq
   go_wp2_with fail
   go_roundg (nw - (k + 1))
   case measure => omega
   case rel => exact ⟨k + 1, n + q, by go_num, by go_num, by omega, by omega, hnm, HS, TT.out.trans0 (Tch.alloc _ _), HB.out.keep (Tch.alloc _ _)⟩
  ·obtain rfl : nw = k := by omega
   have hp : m + pendingM s = n := by rw [HN0.out, pendingM, List.take_of_length_le (by have := HNW.out; omega)]
   have HF : Hid (fitsB s m = ((decide ((n : Int) <= 4294967296 - s.nid) && decide ((n : Int) <= 72 - (nm : Int))) && decide ((n : Int) <= 1099511627776 - s.nseq))) := by
    rw [Hid, fitsB, HNM.out]
    have e1 : ((pendingM s + m : Nat) : Int) = (n : Int) := by omega
    have e2 : decide (pendingM s + m + nm <= 72) = decide ((n : Int) <= 72 - (nm : Int)) := by congr 1; simp only [eq_iff_iff]; omega
    rw [e1, e2]
   have c1 := HB.out 1 _ rfl
   have c2 := HB.out 2 _ rfl
   have c4 := HB.out 4 _ rfl
   clear hgk hk hlt hp
   by_cases l1 : (n : Int) <= 4294967296 - s.nid
   case neg =>
    have HN : Hid (fitsB s m = false) := by rw [Hid, HF.out]; simp [l1]
    go_wp2_with fail
    go_ret
    exact ⟨ret_b HN.out.symm, TT.out⟩
   by_cases l2 : (n : Int) <= 72 - (nm : Int)
   case neg =>
    have HN : Hid (fitsB s m = false) := by rw [Hid, HF.out]; simp [l2]
    go_wp2_with fail
    go_ret
    exact ⟨ret_b HN.out.symm, TT.out⟩
   have HN : Hid (fitsB s m = decide ((n : Int) <= 1099511627776 - s.nseq)) := by rw [Hid, HF.out]; simp [l1, l2]
   go_wp2_with fail
   go_ret
   exact ⟨ret_b HN.out.symm, TT.out⟩
end
section
open Go.RowKit Go.Maps
theorem kb9 {w : World} {b : Nat} {c0 c1 c2 c3 c4 c5 c6 c7 c8 : Value} (h : BoxAt w b [c0, c1, c2, c3, c4, c5, c6, c7, c8]) : (∀ p : TchW w, p.wo.cell? ⟨b, 0, none⟩ = some c0) /\ (∀ p : TchW w, p.wo.cell? ⟨b, 1, none⟩ = some c1) /\ (∀ p : TchW w, p.wo.cell? ⟨b, 2, none⟩ = some c2) /\ (∀ p : TchW w, p.wo.cell? ⟨b, 3, none⟩ = some c3) /\ (∀ p : TchW w, p.wo.cell? ⟨b, 4, none⟩ = some c4) /\ (∀ p : TchW w, p.wo.cell? ⟨b, 5, none⟩ = some c5) /\ (∀ p : TchW w, p.wo.cell? ⟨b, 6, none⟩ = some c6) /\ (∀ p : TchW w, p.wo.cell? ⟨b, 7, none⟩ = some c7) /\ (∀ p : TchW w, p.wo.cell? ⟨b, 8, none⟩ = some c8) := ⟨fun p => (h.keep p.t) 0 _ rfl, fun p => (h.keep p.t) 1 _ rfl, fun p => (h.keep p.t) 2 _ rfl, fun p => (h.keep p.t) 3 _ rfl, fun p => (h.keep p.t) 4 _ rfl, fun p => (h.keep p.t) 5 _ rfl, fun p => (h.keep p.t) 6 _ rfl, fun p => (h.keep p.t) 7 _ rfl, fun p => (h.keep p.t) 8 _ rfl⟩
theorem kb6 {w : World} {b : Nat} {c0 c1 c2 c3 c4 c5 : Value} (h : BoxAt w b [c0, c1, c2, c3, c4, c5]) : (∀ p : TchW w, p.wo.cell? ⟨b, 0, none⟩ = some c0) /\ (∀ p : TchW w, p.wo.cell? ⟨b, 1, none⟩ = some c1) /\ (∀ p : TchW w, p.wo.cell? ⟨b, 2, none⟩ = some c2) /\ (∀ p : TchW w, p.wo.cell? ⟨b, 3, none⟩ = some c3) /\ (∀ p : TchW w, p.wo.cell? ⟨b, 4, none⟩ = some c4) /\ (∀ p : TchW w, p.wo.cell? ⟨b, 5, none⟩ = some c5) := ⟨fun p => (h.keep p.t) 0 _ rfl, fun p => (h.keep p.t) 1 _ rfl, fun p => (h.keep p.t) 2 _ rfl, fun p => (h.keep p.t) 3 _ rfl, fun p => (h.keep p.t) 4 _ rfl, fun p => (h.keep p.t) 5 _ rfl⟩

theorem box2a (w : World) (cs cs' : Array Value) (t t' : TypeId) : BoxAt ((w.alloc (.cells cs t)).alloc (.cells cs' t')) w.heap.size cs.toList := (BoxAt.made w cs t).keep (Tch.alloc _ _)
theorem box2b (w : World) (cs cs' : Array Value) (t t' : TypeId) : BoxAt ((w.alloc (.cells cs t)).alloc (.cells cs' t')) (w.heap.size + 1) cs'.toList := by
 have := BoxAt.made (w.alloc (.cells cs t)) cs' t'
 rwa [size_alloc] at this
end
end Go.Proofs.YtelaljoebdpicaaGreat
