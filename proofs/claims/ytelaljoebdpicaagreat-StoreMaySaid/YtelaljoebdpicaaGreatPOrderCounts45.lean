/- Part 45 of what the proof of OrderCounts rests on. No condition. -/
import Derived.Test.YtelaljoebdpicaaGreatPOrderCounts14
import Derived.Test.YtelaljoebdpicaaGreatPOrderCounts43
import Derived.Test.YtelaljoebdpicaaGreatPOrderCounts44
namespace Go.Proofs.YtelaljoebdpicaaGreat
set_option maxRecDepth 100000
set_option maxHeartbeats 60000000
set_option linter.unusedVariables false
set_option linter.unusedSimpArgs false
set_option linter.unusedSectionVars false
section
open Go.RowKit Go.Maps
def rside2 (s : StM) (p : PendM) : Bool := !hasP (·.tid) s.ends p.tid && !hasP (·.tid) s.waits p.tid
def rside3 (s : StM) (p : PendM) : Bool := hasP (·.tid) s.ends p.tid && !yesAt s.ends p.tid
theorem rsides_any (s : StM) (hend : strictB (s.ends.map (·.tid)) = true) (v : Value) (w : World) (h : IsSt w v s) :
  Calls Tryz.prog 61 #[v] w fun e w' => e = .returned (.bool (s.opens.all (rside2 s) && s.noes.all (rside3 s))) /\ Tch No w w' := by
 have HAE0 := Lib.hid (fun t W (T : Tch No w W) => atends_any s t v W (h.keep T))
 have HAW0 := Lib.hid (fun t W (T : Tch No w W) => atwaits_any s t v W (h.keep T))
 obtain ⟨am, cm, aw, cw, ae, ce, ao, co, an, cn, hv, hms, hws, hes, hos, hns⟩ := h.shape
 have hval : v = .agg #[.int .i64 s.broker, .int .i64 s.nid, .int .i64 s.nseq, .int .i64 s.tx, .slice am s.ms.length cm, .slice aw s.waits.length cw, .slice ae s.ends.length ce, .slice ao s.opens.length co, .slice an s.noes.length cn] := hv
 have HES := Lib.hid hes
 have HOS := Lib.hid hos
 have HNS := Lib.hid hns
 have HSE := Lib.hid hend
 generalize s.ms.length = nm at hval
 generalize s.waits.length = nw at hval
 obtain ⟨ne, hne⟩ : ∃ n, s.ends.length = n := ⟨_, rfl⟩
 obtain ⟨no, hno⟩ : ∃ n, s.opens.length = n := ⟨_, rfl⟩
 obtain ⟨nn, hnn⟩ : ∃ n, s.noes.length = n := ⟨_, rfl⟩
 rw [hne] at HES
 rw [hno] at HOS
 rw [hnn] at HNS
 rw [hne, hno, hnn] at hval
 have HNE := Lib.hid hne
 have HNO := Lib.hid hno
 have HNN := Lib.hid hnn
 have hol : no <= 9223372036854775807 := by
  obtain ⟨_, c, _, h1, h2⟩ := IsPends.shape HOS.out
  unfold maxLen at h2; omega
 have hnl : nn <= 9223372036854775807 := by
  obtain ⟨_, c, _, h1, h2⟩ := IsPends.shape HNS.out
  unfold maxLen at h2; omega
 have hel : ne <= 9223372036854775807 := by
  obtain ⟨_, c, _, h1, h2⟩ := CellsAt.shape HES.out
  unfold maxLen at h2; omega
 obtain ⟨res, hres⟩ : ∃ r, (s.opens.all (rside2 s) && s.noes.all (rside3 s)) = r := ⟨_, rfl⟩
 have HRES := Lib.hid hres
 rw [hres]
 clear h hv hms hws hes hos hns hend hres hne hno hnn
 subst hval
 have HAE := HAE0
 have HAW := HAW0
 clear HAE0 HAW0
 go_enter Tryz.func61, Tryz.ntmps61
 go_wp2_with fail
 go_loopg [3] no (fun kx s3 wr => ∃ k : Nat, s3 = .int .i64 k /\ k <= no /\ no - k <= kx /\ Hid (Tch No w wr) /\ Hid (BoxAt wr w.heap.size [.int .i64 s.broker, .int .i64 s.nid, .int .i64 s.nseq, .int .i64 s.tx, .slice am nm cm, .slice aw nw cw, .slice ae ne ce, .slice ao no co, .slice an nn cn]) /\ Hid (∀ i (hi : i < s.opens.length), i < k -> rside2 s s.opens[i] = true))
 case atStart => exact ⟨0, rfl, Nat.zero_le _, by omega, Tch.alloc _ _, BoxAt.made _ _ _, fun i _ h => absurd h (Nat.not_lt_zero _)⟩
 case round =>
  obtain ⟨k, rfl, hk, hgk, TT, HB, I⟩ := hrel
  by_cases hlt : k < no
  ·have hkl : k < s.opens.length := by have := HNO.out; omega
   have hb : ∃ b o, ao = some ⟨b, o, none⟩ /\ wr.cell? ⟨b, o + k * 2, none⟩ = some (.int .i64 s.opens[k].tid) := by
    rcases pends_cells HOS.out with ⟨_, h0⟩ | ⟨b, o, cap2, h1, _, _, _, h5⟩
    ·rw [h0] at hkl; simp at hkl
    ·rw [HNO.out] at h1
     injection h1 with h1 _ _
     exact ⟨b, o, h1, TT.out.cell (h5 k hkl).1 (fun h => h)⟩
   obtain ⟨b, o, rfl, e0⟩ := hb
   have c0 := HB.out 0 _ rfl
   have c1 := HB.out 1 _ rfl
   have c2 := HB.out 2 _ rfl
   have c3 := HB.out 3 _ rfl
   have c4 := HB.out 4 _ rfl
   have c5 := HB.out 5 _ rfl
   have c6 := HB.out 6 _ rfl
   have c7 := HB.out 7 _ rfl
   have c8 := HB.out 8 _ rfl
   obtain ⟨t, ht⟩ : ∃ x, s.opens[k].tid = x := ⟨_, rfl⟩
   rw [ht] at e0
   have HS1 : Hid (rside2 s s.opens[k] = (!hasP (·.tid) s.ends t && !hasP (·.tid) s.waits t)) := by rw [Hid, rside2, ht]
   have q1 := atI_has (fun x : EndM => x.tid) s.ends t
   have q2 := atI_has (fun x : BrM => x.tid) s.waits t
   have HEt := Lib.hid (fun W T => HAE.out t W T)
   have HWt := Lib.hid (fun W T => HAW.out t W T)
   generalize atI (fun x : EndM => x.tid) s.ends t = je at q1 HEt
   generalize atI (fun x : BrM => x.tid) s.waits t = jw at q2 HWt
   generalize hasP (fun x : EndM => x.tid) s.ends t = ov at HS1 q1
   generalize hasP (fun x : BrM => x.tid) s.waits t = rd at HS1 q2
   clear ht
   cases ov with
   | true =>
    have HN : Hid (res = false) := by rw [Hid, <- HRES.out, all_at hkl (by rw [HS1.out]; rfl)]; rfl
    go_wp2_with (first
     | (go_at_call 58; refine (HEt.out _ TT.out).mono ?_; rintro e w3 ⟨rfl, T3⟩; have NB := Lib.hid (HB.out.keep T3); have z0 := NB.out 0 _ rfl; have z1 := NB.out 1 _ rfl; have z2 := NB.out 2 _ rfl; have z3 := NB.out 3 _ rfl; have z4 := NB.out 4 _ rfl; have z5 := NB.out 5 _ rfl; have z6 := NB.out 6 _ rfl; have z7 := NB.out 7 _ rfl; have z8 := NB.out 8 _ rfl; skip)
     | (go_at_call 34; refine (HWt.out _ (TT.out.trans0 T3)).mono ?_; rintro e w4 ⟨rfl, T4⟩))
    go_ret
    exact ⟨ret_b HN.out.symm, TT.out.trans0 T3⟩
   | false =>
    cases rd with
    | true =>
     have HN : Hid (res = false) := by rw [Hid, <- HRES.out, all_at hkl (by rw [HS1.out]; rfl)]; rfl
     go_wp2_with (first
      | (go_at_call 58; refine (HEt.out _ TT.out).mono ?_; rintro e w3 ⟨rfl, T3⟩; have NB := Lib.hid (HB.out.keep T3); have z0 := NB.out 0 _ rfl; have z1 := NB.out 1 _ rfl; have z2 := NB.out 2 _ rfl; have z3 := NB.out 3 _ rfl; have z4 := NB.out 4 _ rfl; have z5 := NB.out 5 _ rfl; have z6 := NB.out 6 _ rfl; have z7 := NB.out 7 _ rfl; have z8 := NB.out 8 _ rfl; skip)
      | (go_at_call 34; refine (HWt.out _ (TT.out.trans0 T3)).mono ?_; rintro e w4 ⟨rfl, T4⟩))
     go_ret
     exact ⟨ret_b HN.out.symm, (TT.out.trans0 T3).trans0 T4⟩
    | false =>
     have HN : Hid (rside2 s s.opens[k] = true) := HS1.out
     go_wp2_with (first
      | (go_at_call 58; refine (HEt.out _ TT.out).mono ?_; rintro e w3 ⟨rfl, T3⟩; have NB := Lib.hid (HB.out.keep T3); have z0 := NB.out 0 _ rfl; have z1 := NB.out 1 _ rfl; have z2 := NB.out 2 _ rfl; have z3 := NB.out 3 _ rfl; have z4 := NB.out 4 _ rfl; have z5 := NB.out 5 _ rfl; have z6 := NB.out 6 _ rfl; have z7 := NB.out 7 _ rfl; have z8 := NB.out 8 _ rfl; skip)
      | (go_at_call 34; refine (HWt.out _ (TT.out.trans0 T3)).mono ?_; rintro e w4 ⟨rfl, T4⟩))
     go_roundg (no - (k + 1))
     case measure => omega
     case rel => exact ⟨k + 1, by go_num, by omega, by omega, (TT.out.trans0 T3).trans0 T4, HB.out.keep (T3.trans0 T4), all_more hkl HN.out I.out⟩
  ·have HA1 : Hid (s.opens.all (rside2 s) = true) := all_idx (fun i hi => I.out i hi (by have := HNO.out; omega))
   have c7 := HB.out 7 _ rfl
   clear I
   obtain rfl : no = k := by omega
   clear hgk hk
   go_wp2_with fail
   have TT0 := TT
   have HB0 := HB
   clear TT HB
   go_loopg [5] nn (fun kx s5 wr => ∃ k2 : Nat, s5 = .int .i64 k2 /\ k2 <= nn /\ nn - k2 <= kx /\ Hid (Tch No w wr) /\ Hid (BoxAt wr w.heap.size [.int .i64 s.broker, .int .i64 s.nid, .int .i64 s.nseq, .int .i64 s.tx, .slice am nm cm, .slice aw nw cw, .slice ae ne ce, .slice ao no co, .slice an nn cn]) /\ Hid (∀ i (hi : i < s.noes.length), i < k2 -> rside3 s s.noes[i] = true))
   case atStart => exact ⟨0, rfl, Nat.zero_le _, by omega, TT0.out, HB0.out, fun i _ h => absurd h (Nat.not_lt_zero _)⟩
   case round =>
    clear c7 hlt TT0 HB0
    obtain ⟨k2, rfl, hk2, hgk2, TT, HB, I⟩ := hrel
    by_cases hlt2 : k2 < nn
    ·have hkl : k2 < s.noes.length := by have := HNN.out; omega
     have hb : ∃ b o, an = some ⟨b, o, none⟩ /\ wr.cell? ⟨b, o + k2 * 2, none⟩ = some (.int .i64 s.noes[k2].tid) := by
      rcases pends_cells HNS.out with ⟨_, h0⟩ | ⟨b, o, cap2, h1, _, _, _, h5⟩
      ·rw [h0] at hkl; simp at hkl
      ·rw [HNN.out] at h1
       injection h1 with h1 _ _
       exact ⟨b, o, h1, TT.out.cell (h5 k2 hkl).1 (fun h => h)⟩
     obtain ⟨b, o, rfl, e0⟩ := hb
     obtain ⟨t, ht⟩ : ∃ x, s.noes[k2].tid = x := ⟨_, rfl⟩
     rw [ht] at e0
     have HS1 : Hid (rside3 s s.noes[k2] = (hasP (·.tid) s.ends t && !yesAt s.ends t)) := by rw [Hid, rside3, ht]
     have HY : Hid (hasP (·.tid) s.ends t = true -> ∃ be oe, ae = some ⟨be, oe, none⟩ /\ ∃ po : Nat, atI (·.tid) s.ends t = (po : Int) /\ po < ne /\ ∀ W, Tch No w W -> W.cell? ⟨be, oe + po * 2 + 1, none⟩ = some (.bool (yesAt s.ends t))) := by
      intro hh
      obtain ⟨hpl, _⟩ := (hasP_pos HSE.out t).1 hh
      rcases ends_cells HES.out with ⟨_, h0⟩ | ⟨be, oe, cap2, h1, _, _, _, h5⟩
      ·rw [h0] at hpl; simp at hpl
      ·rw [HNE.out] at h1
       injection h1 with h1 _ _
       refine ⟨be, oe, h1, _, atI_pos HSE.out hh, by rw [<- HNE.out]; exact hpl, fun W T => ?_⟩
       have := T.cell (h5 _ hpl).2 (fun h => h)
       rw [this, yesAt, List.getElem?_eq_getElem hpl]; rfl
     have q1 := atI_lt (fun x : EndM => x.tid) s.ends t
     have HEt := Lib.hid (fun W T => HAE.out t W T)
     generalize yesAt s.ends t = ys at HS1 HY
     generalize atI (fun x : EndM => x.tid) s.ends t = je at q1 HEt HY
     generalize hasP (fun x : EndM => x.tid) s.ends t = ov at HS1 HY q1
     have e0' : ∀ p : TchW wr, p.wo.cell? ⟨b, o + k2 * 2, none⟩ = some (.int .i64 t) := fun p => p.cell e0
     have HCW : Hid (∀ p : TchW wr, BoxAt p.wo w.heap.size [.int .i64 s.broker, .int .i64 s.nid, .int .i64 s.nseq, .int .i64 s.tx, .slice am nm cm, .slice aw nw cw, .slice ae ne ce, .slice ao no co, .slice (some ⟨b, o, none⟩) nn cn]) := fun p => HB.out.keep p.t
     have c0' := fun p => HCW.out p 0 _ rfl
     have c1' := fun p => HCW.out p 1 _ rfl
     have c2' := fun p => HCW.out p 2 _ rfl
     have c3' := fun p => HCW.out p 3 _ rfl
     have c4' := fun p => HCW.out p 4 _ rfl
     have c5' := fun p => HCW.out p 5 _ rfl
     have c6' := fun p => HCW.out p 6 _ rfl
     have c7' := fun p => HCW.out p 7 _ rfl
     have c8' := fun p => HCW.out p 8 _ rfl
     have c8 := HB.out 8 _ rfl
     clear ht e0
     go_upto_region 10 with fail
     refine wp_region_qt (by kernel_rfl) (by kernel_rfl) ?_
     repeat
      with_reducible refine wpQuiet_step (fun K hK => ?_)
      go_simp
      first
       | (with_reducible refine hK _ ?_; clear hK K)
       | (rw [if_neg (by decide)]; with_reducible refine hK _ ?_; clear hK K)
       | (apply Exists.intro; with_reducible refine ⟨fun _ => ?_, hK _ ?_⟩; (go_at_call 58; exact qt_t (HEt.out _ (TT.out.trans0 (TchW.t _)))); clear hK K)
     with_reducible refine wpQuiet_nil ?_
     rintro _ ⟨pq, rfl⟩
     have NB := Lib.hid (HCW.out pq)
     have z6 := NB.out 6 _ rfl
     have TQ := Lib.hid (TT.out.trans0 pq.t)
     cases ov with
     | false =>
      have HN : Hid (res = false) := by rw [Hid, <- HRES.out, all_at hkl (by rw [HS1.out]; rfl)]; simp
      have q1' : decide (je < 0) = true := q1
      clear q1
      go_wp2_with fail
      go_ret
      exact ⟨ret_b HN.out.symm, TQ.out⟩
     | true =>
      obtain ⟨be, oe, rfl, po, rfl, hpo, hye⟩ := HY.out rfl
      have hye1 := hye _ TQ.out
      have q1' : decide ((po : Int) < 0) = false := q1
      clear hye HY q1
      cases ys with
      | true =>
       have HN : Hid (res = false) := by rw [Hid, <- HRES.out, all_at hkl (by rw [HS1.out]; rfl)]; simp
       go_wp2_with fail
       go_ret
       exact ⟨ret_b HN.out.symm, TQ.out⟩
      | false =>
       have HN : Hid (rside3 s s.noes[k2] = true) := HS1.out
       go_wp2_with fail
       go_roundg (nn - (k2 + 1))
       case measure => omega
       case rel => exact ⟨k2 + 1, by go_num, by omega, by omega, TQ.out, NB.out, all_more hkl HN.out I.out⟩
    ·have HA2 : Hid (s.noes.all (rside3 s) = true) := all_idx (fun i hi => I.out i hi (by have := HNN.out; omega))
     have HN : Hid (res = true) := by rw [Hid, <- HRES.out, HA1.out, HA2.out]; rfl
     have c8 := HB.out 8 _ rfl
     obtain rfl : nn = k2 := by omega
     clear I hgk2 hk2
     go_wp2_with fail
     go_ret
     exact ⟨ret_b HN.out.symm, TT.out⟩
end
section
open Go.RowKit Go.Maps
def rmsg (s : StM) (m : MsgM) : Bool :=
 decide (1 <= m.seq) && decide (m.seq < s.nseq) && decide (homeM m.id = s.broker) && decide (m.id - s.broker * 4294967296 < s.nid) && queueB m.q && bodyB m.b &&
 decide (0 <= m.cnt) && decide (m.cnt <= 1000) && (decide (m.who = 0) || (tidB m.who && !hasP (·.tid) s.ends m.who))
theorem rmsg_eq {s : StM} {m : MsgM} (hb : 1 <= s.broker) : rmsg s m = msgB s m := by
 unfold rmsg msgB
 by_cases h : homeM m.id = s.broker
 ·have := home_pos h hb
  have e : m.id % 4294967296 = m.id - s.broker * 4294967296 := by omega
  rw [e]
  simp only [Bool.decide_and]
  ac_rfl
 ·simp [h]
def RMs (s : StM) (k : Nat) : Prop := ∀ i (h : i < s.ms.length), i < k -> rmsg s s.ms[i] = true /\ (∀ h0 : 0 < i, s.ms[i - 1].seq < s.ms[i].seq) /\ atI (·.id) s.ms s.ms[i].id = (i : Int)
theorem nodup_at {l : List MsgM} : (l.map (·.id)).Nodup ↔ ∀ i (h : i < l.length), atI (·.id) l l[i].id = (i : Int) := by
 unfold List.Nodup
 rw [List.pairwise_iff_getElem]
 constructor
 ·intro h i hi
  refine atI_hit hi rfl fun j hj hlt e => ?_
  have := h j i (by simpa using hj) (by simpa using hi) hlt
  simp only [List.getElem_map] at this
  exact this e
 ·intro h i j hi hj hij e
  simp only [List.getElem_map] at e
  have ha := h i (by simpa using hi)
  have hb := h j (by simpa using hj)
  rw [e, hb] at ha
  omega
theorem rms_all {s : StM} (hb : 1 <= s.broker) : RMs s s.ms.length ↔ msB s = true := by
 unfold msB RMs
 rw [Bool.and_eq_true, Bool.and_eq_true, decide_eq_true_eq, List.all_eq_true, strict_idx, nodup_at]
 constructor
 ·intro h
  refine ⟨⟨fun m hm => ?_, fun i hi => ?_⟩, fun i hi => (h i hi hi).2.2⟩
  ·obtain ⟨i, hi, rfl⟩ := List.getElem_of_mem hm
   rw [<- rmsg_eq hb]; exact (h i hi hi).1
  ·have hi' : i + 1 < s.ms.length := by simpa using hi
   have := (h (i + 1) hi' hi').2.1 (by omega)
   simpa using this
 ·rintro ⟨⟨h1, h2⟩, h3⟩ i hi _
  refine ⟨by rw [rmsg_eq hb]; exact h1 _ (List.getElem_mem hi), fun h0 => ?_, h3 i hi⟩
  have := h2 (i - 1) (by rw [List.length_map]; omega)
  simp only [List.getElem_map] at this
  have e : i - 1 + 1 = i := by omega
  simpa [e] using this
theorem rms_step {s : StM} {k : Nat} (h : RMs s k) (hk : k < s.ms.length) (h1 : rmsg s s.ms[k] = true) (h2 : ∀ h0 : 0 < k, s.ms[k - 1].seq < s.ms[k].seq) (h3 : atI (·.id) s.ms s.ms[k].id = (k : Int)) : RMs s (k + 1) := by
 intro i hi hik
 by_cases e : i = k
 ·subst e; exact ⟨h1, h2, h3⟩
 ·exact h i hi (by omega)
def wOk (s : StM) (w : BrM) : Bool := tidB w.tid && !hasP (·.tid) s.ends w.tid && (w.puts.all putB && decide ((w.puts.length : Int) <= 10))
def rendsB (s : StM) : Bool := s.ends.all (fun e => tidB e.tid) && strictB (s.ends.map (·.tid))
def rwaitsB (s : StM) : Bool := s.waits.all (wOk s) && strictB (s.waits.map (·.tid))
theorem rwaits_eq (s : StM) : rwaitsB s = waitsB s := by
 unfold rwaitsB waitsB
 congr 2
 funext w
 unfold wOk
 have e : decide ((w.puts.length : Int) <= 10) = decide (w.puts.length <= 10) := by congr 1; simp; omega
 rw [e]
 ac_rfl
def rpendsB (s : StM) (l : List PendM) : Bool := l.all (pendB s) && strictB (l.map (·.tid))
def rsidesB (s : StM) : Bool := s.opens.all (rside2 s) && s.noes.all (rside3 s)
theorem rsides_eq {s : StM} (hs : strictB (s.ends.map (·.tid)) = true) : rsidesB s = sidesB s := by
 unfold rsidesB sidesB
 congr 1
 congr 1
 funext p
 unfold rside3
 rw [Bool.eq_iff_iff, Bool.and_eq_true, Bool.not_eq_true', yes_any hs]
 simp [List.any_eq_true]
def rheadB (s : StM) : Bool := brokerB s.broker && decide (1 <= s.nid) && decide (s.nid <= 4294967296) && decide (1 <= s.nseq) && decide (s.nseq <= 1099511627776) && decide (0 <= s.tx) && decide (s.tx <= 200) &&
 decide (s.ms.length <= 72) && decide (s.waits.length <= 2000) && decide (s.ends.length <= 2000) && decide (s.opens.length <= 2000) && decide (s.noes.length <= 2000)
theorem rmay_eq (s : StM) : mayM s = (rheadB s && msB s && rendsB s && rwaitsB s && ((rpendsB s s.opens && rpendsB s s.noes) && rsidesB s)) := by
 rw [rwaits_eq]
 have e : rendsB s = endsB s := rfl
 have e2 : rpendsB s = pendsB s := rfl
 rw [e, e2]
 cases h : endsB s with
 | false => unfold mayM; rw [h]; simp
 | true =>
  have hs : strictB (s.ends.map (·.tid)) = true := by unfold endsB at h; rw [Bool.and_eq_true] at h; exact h.2
  rw [rsides_eq hs]
  unfold mayM rheadB
  rw [h]
  simp only [Bool.decide_and, Bool.and_true]
  ac_rfl
end
end Go.Proofs.YtelaljoebdpicaaGreat
