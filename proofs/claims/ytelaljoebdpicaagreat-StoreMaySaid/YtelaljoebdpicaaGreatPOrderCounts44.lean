/- Part 44 of what the proof of OrderCounts rests on. No condition. -/
import Derived.Test.YtelaljoebdpicaaGreatPOrderCounts11
namespace Go.Proofs.YtelaljoebdpicaaGreat
set_option maxRecDepth 100000
set_option maxHeartbeats 60000000
set_option linter.unusedVariables false
set_option linter.unusedSimpArgs false
set_option linter.unusedSectionVars false
section
open Go.RowKit Go.Maps
def tidsB (l : List Int) (n : Nat) : Bool := (l.all tidB && strictB l) && decide ((n : Int) <= 2000)
def headB (s : StM) : Bool := ((brokerB s.broker && (decide (1 <= s.nid) && decide (s.nid <= 4294967296))) && (decide (1 <= s.nseq) && decide (s.nseq <= 1099511627776))) && (decide (0 <= s.tx) && decide (s.tx <= 200))
def listsB (s : StM) : Bool := tidsB (s.waits.map (·.tid)) s.waits.length && tidsB (s.ends.map (·.tid)) s.ends.length
def ownB (s : StM) : Bool := tidsB (s.opens.map (·.tid)) s.opens.length && tidsB (s.noes.map (·.tid)) s.noes.length
def mayAll (s : StM) : Bool := ((((headB s && listsB s) && ownB s) && decide ((s.ms.length : Int) <= 72)) && msB s) && sides0 s
theorem tidsB_iff {l : List Int} {n : Nat} : tidsB l n = true ↔ ((∀ x ∈ l, tidB x = true) /\ strictB l = true) /\ n <= 2000 := by
 unfold tidsB
 rw [Bool.and_eq_true, Bool.and_eq_true, List.all_eq_true, decide_eq_true_eq]
 constructor
 ·rintro ⟨h, h2⟩; exact ⟨h, by omega⟩
 ·rintro ⟨h, h2⟩; exact ⟨h, by omega⟩
theorem rec4_iff {t : Int} {ps : List PutM} : recB ⟨4, t, 0, false, [], ps⟩ = true ↔ tidB t = true /\ ps.length <= 10 /\ ps.all putB = true := by
 unfold recB
 simp [Bool.and_eq_true]
theorem rec6_iff {t : Int} {l : List Int} : recB ⟨6, t, 0, false, l, []⟩ = true ↔ tidB t = true /\ (1 <= l.length /\ l.length <= 7) /\ risingB l = true := by
 unfold recB
 simp [Bool.and_eq_true]
theorem yes_any {l : List EndM} (hs : strictB (l.map (·.tid)) = true) (t : Int) : (hasP (·.tid) l t = true /\ yesAt l t = false) ↔ ∃ e ∈ l, e.tid = t /\ e.yes = false := by
 constructor
 ·rintro ⟨h1, h2⟩
  obtain ⟨hp, e⟩ := (hasP_pos hs t).1 h1
  refine ⟨l[posP (·.tid) l t], List.getElem_mem hp, e, ?_⟩
  unfold yesAt at h2
  rw [List.getElem?_eq_getElem hp] at h2
  exact h2
 ·rintro ⟨e, he, h1, h2⟩
  have hh : hasP (·.tid) l t = true := hasP_iff.2 ⟨e, he, h1⟩
  refine ⟨hh, ?_⟩
  obtain ⟨hp, ep⟩ := (hasP_pos hs t).1 hh
  obtain ⟨i, hi, rfl⟩ := List.getElem_of_mem he
  have hii : i = posP (·.tid) l t := by
   rcases Nat.lt_trichotomy i (posP (·.tid) l t) with h | h | h
   ·have := strictB_get hs (i := i) (j := posP (·.tid) l t) h (by simpa using hp)
    simp only [List.getElem_map] at this
    omega
   ·exact h
   ·have := strictB_get hs (i := posP (·.tid) l t) (j := i) h (by simpa using hi)
    simp only [List.getElem_map] at this
    omega
  unfold yesAt
  rw [<- hii, List.getElem?_eq_getElem hi]
  exact h2
theorem mayAll_eq (s : StM) : mayAll s = mayM s := by
 rw [Bool.eq_iff_iff, may_iff]
 unfold mayAll headB listsB ownB sides0 brokerB msB
 simp only [Bool.and_eq_true, decide_eq_true_eq, tidsB_iff, List.all_eq_true, List.mem_map, forall_exists_index, and_imp, forall_apply_eq_imp_iff₂]
 constructor
 ·rintro ⟨⟨⟨⟨⟨⟨⟨⟨h1, h2⟩, h3⟩, h4⟩, ⟨⟨w1, w2⟩, w3⟩, ⟨⟨e1, e2⟩, e3⟩⟩, ⟨⟨o1, o2⟩, o3⟩, ⟨⟨n1, n2⟩, n3⟩⟩, h5⟩, ⟨m1, m2⟩, m3⟩, s1, s2, s3⟩
  refine ⟨h1, h2, h3, h4, by omega, w3, e3, o3, n3, fun m hm => (msgB_iff s m).1 (m1 m hm), m2, m3, e1, e2, ?_, w2, ?_, o2, ?_, n2⟩
  ·intro w hw
   have := s1 w hw
   unfold side1 at this
   rw [Bool.and_eq_true, rec4_iff, Bool.not_eq_true'] at this
   exact ⟨this.2.1, this.1, this.2.2.1, this.2.2.2⟩
  ·intro p hp
   have := s2 p hp
   unfold side2 pendOk at this
   simp only [Bool.and_eq_true, rec6_iff, Bool.not_eq_true', decide_eq_true_eq] at this
   obtain ⟨q1, q2, ⟨⟨q3, q4, q5⟩, q6⟩, q7⟩ := this
   exact ⟨⟨q6, q4, q5, q7⟩, q1, q2⟩
  ·intro p hp
   have := s3 p hp
   unfold side3 pendOk at this
   simp only [Bool.and_eq_true, rec6_iff, Bool.not_eq_true', decide_eq_true_eq] at this
   obtain ⟨q1, q2, ⟨⟨q3, q4, q5⟩, q6⟩, q7⟩ := this
   exact ⟨⟨q6, q4, q5, q7⟩, (yes_any e2 p.tid).1 ⟨q1, q2⟩⟩
 ·intro h
  have hb := h.br
  have tid_of : ∀ t, homeM t = s.broker -> tidB t = true := fun t ht => by unfold tidB; simp only [decide_eq_true_eq]; omega
  refine ⟨⟨⟨⟨⟨⟨⟨⟨h.br, h.nid⟩, h.nseq⟩, h.tx⟩, ⟨⟨fun w hw => (h.waits w hw).tid, h.waits2⟩, h.lw⟩, ⟨⟨h.ends, h.ends2⟩, h.le⟩⟩, ⟨⟨fun p hp => tid_of _ (h.opens p hp).1.home, h.opens2⟩, h.lo⟩, ⟨⟨fun p hp => tid_of _ (h.noes p hp).1.home, h.noes2⟩, h.ln⟩⟩, by have := h.lms; omega⟩, ⟨fun m hm => (msgB_iff s m).2 (h.ms m hm), h.mseq⟩, h.mids⟩, ?_, ?_, ?_⟩
  ·intro w hw
   have k := h.waits w hw
   unfold side1
   rw [Bool.and_eq_true, rec4_iff, Bool.not_eq_true']
   exact ⟨k.no, k.tid, k.len, k.puts⟩
  ·intro p hp
   obtain ⟨k, k1, k2⟩ := h.opens p hp
   unfold side2 pendOk
   simp only [Bool.and_eq_true, rec6_iff, Bool.not_eq_true', decide_eq_true_eq]
   exact ⟨k1, k2, ⟨⟨tid_of _ k.home, k.len, k.rising⟩, k.home⟩, k.other⟩
  ·intro p hp
   obtain ⟨k, k1⟩ := h.noes p hp
   have := (yes_any h.ends2 p.tid).2 k1
   unfold side3 pendOk
   simp only [Bool.and_eq_true, rec6_iff, Bool.not_eq_true', decide_eq_true_eq]
   exact ⟨this.1, this.2, ⟨⟨tid_of _ k.home, k.len, k.rising⟩, k.home⟩, k.other⟩
theorem may_any (s : StM) (hok : OkSt s) (v : Value) (w : World) (h : IsSt w v s) :
  Calls Tryz.prog 14 #[v] w fun e w' => e = .returned (.bool (mayM s)) /\ Tch No w w' := by
 rw [<- mayAll_eq]
 obtain ⟨am, cm, aw, cw, ae, ce, ao, co, an, cn, hv, hms, hws, hes, hos, hns⟩ := h.shape
 have hval : v = .agg #[.int .i64 s.broker, .int .i64 s.nid, .int .i64 s.nseq, .int .i64 s.tx, .slice am s.ms.length cm, .slice aw s.waits.length cw, .slice ae s.ends.length ce, .slice ao s.opens.length co, .slice an s.noes.length cn] := hv
 have HMS : Hid (headB s = true -> listsB s = true -> ∀ W, Tch No w W -> Calls Tryz.prog 51 #[v] W fun e w' => e = .returned (.bool (msB s)) /\ Tch No W w') := fun h1 h2 W T => by
  unfold headB brokerB at h1
  unfold listsB at h2
  simp only [Bool.and_eq_true, decide_eq_true_eq, tidsB_iff] at h1 h2
  exact mayms_any s hok h1.1.1.1.1 h2.2.1.2 (by have := h2.2.2; omega) v W (h.keep T)
 have HSI : Hid (listsB s = true -> ∀ W, Tch No w W -> Calls Tryz.prog 52 #[v] W fun e w' => e = .returned (.bool (sides0 s)) /\ Tch No W w') := fun h2 W T => by
  unfold listsB at h2
  simp only [Bool.and_eq_true, tidsB_iff] at h2
  exact maysides_any s hok h2.2.1.2 (by have := h2.2.2; omega) h2.1.1.2 (by have := h2.1.2; omega) v W (h.keep T)
 have HT1 : Hid (∀ W, Tch No w W -> Calls Tryz.prog 44 #[.slice aw s.waits.length cw, .func (.func 45) #[] #[]] W fun e w' => e = .returned (.bool (tidsB (s.waits.map (·.tid)) s.waits.length)) /\ Tch No W w') := fun W T => by
  obtain ⟨vs, h1, h2, h3⟩ := hws.keep T
  have hz : ((s.waits.map (·.tid)).zip vs).length = s.waits.length := by rw [List.length_zip, List.length_map, h1, Nat.min_self]
  have hz2 := zip_fst (l := s.waits.map (·.tid)) (vs := vs) (by simpa using h1)
  have := tids1 Prod.fst Prod.snd ((s.waits.map (·.tid)).zip vs) (fun x hx => by
   obtain ⟨y, hy, e⟩ := List.mem_map.1 (List.of_mem_zip (a := x.1) (b := x.2) hx).1
   rw [<- e]; exact (hok.waits y hy).1) _ W (by rw [hz]; exact h2) (fun x hx => by
   obtain ⟨i, hi, e⟩ := List.getElem_of_mem (List.of_mem_zip (a := x.1) (b := x.2) hx).2
   obtain ⟨a, c, ea, _⟩ := CellsAt.shape (h3 i (by omega) hi)
   rw [<- e]; exact ⟨a, _, c, ea⟩)
  rw [hz, hz2] at this
  exact this
 have HT2 : Hid (∀ W, Tch No w W -> Calls Tryz.prog 46 #[.slice ae s.ends.length ce, .func (.func 47) #[] #[]] W fun e w' => e = .returned (.bool (tidsB (s.ends.map (·.tid)) s.ends.length)) /\ Tch No W w') := fun W T =>
  tids2 (fun e : EndM => e.tid) (fun e => .bool e.yes) s.ends (fun x hx => hok.ends x hx) _ W (hes.keep T) (fun x _ => ⟨_, rfl⟩)
 have HT3 : Hid (∀ W, Tch No w W -> Calls Tryz.prog 48 #[.slice ao s.opens.length co, .func (.func 49) #[] #[]] W fun e w' => e = .returned (.bool (tidsB (s.opens.map (·.tid)) s.opens.length)) /\ Tch No W w') := fun W T => by
  obtain ⟨vs, h1, h2, h3⟩ := hos.keep T
  have hz : ((s.opens.map (·.tid)).zip vs).length = s.opens.length := by rw [List.length_zip, List.length_map, h1, Nat.min_self]
  have hz2 := zip_fst (l := s.opens.map (·.tid)) (vs := vs) (by simpa using h1)
  have := tids3 Prod.fst Prod.snd ((s.opens.map (·.tid)).zip vs) (fun x hx => by
   obtain ⟨y, hy, e⟩ := List.mem_map.1 (List.of_mem_zip (a := x.1) (b := x.2) hx).1
   rw [<- e]; exact (hok.opens y hy).1) _ W (by rw [hz]; exact h2) (fun x hx => by
   obtain ⟨i, hi, e⟩ := List.getElem_of_mem (List.of_mem_zip (a := x.1) (b := x.2) hx).2
   obtain ⟨a, c, ea, _⟩ := CellsAt.shape (h3 i (by omega) hi)
   rw [<- e]; exact ⟨a, _, c, ea⟩)
  rw [hz, hz2] at this
  exact this
 have HT4 : Hid (∀ W, Tch No w W -> Calls Tryz.prog 48 #[.slice an s.noes.length cn, .func (.func 50) #[] #[]] W fun e w' => e = .returned (.bool (tidsB (s.noes.map (·.tid)) s.noes.length)) /\ Tch No W w') := fun W T => by
  obtain ⟨vs, h1, h2, h3⟩ := hns.keep T
  have hz : ((s.noes.map (·.tid)).zip vs).length = s.noes.length := by rw [List.length_zip, List.length_map, h1, Nat.min_self]
  have hz2 := zip_fst (l := s.noes.map (·.tid)) (vs := vs) (by simpa using h1)
  have := tids4 Prod.fst Prod.snd ((s.noes.map (·.tid)).zip vs) (fun x hx => by
   obtain ⟨y, hy, e⟩ := List.mem_map.1 (List.of_mem_zip (a := x.1) (b := x.2) hx).1
   rw [<- e]; exact (hok.noes y hy).1) _ W (by rw [hz]; exact h2) (fun x hx => by
   obtain ⟨i, hi, e⟩ := List.getElem_of_mem (List.of_mem_zip (a := x.1) (b := x.2) hx).2
   obtain ⟨a, c, ea, _⟩ := CellsAt.shape (h3 i (by omega) hi)
   rw [<- e]; exact ⟨a, _, c, ea⟩)
  rw [hz, hz2] at this
  exact this
 have HBr := Lib.hid (fun W => kbroker_any s.broker W)
 have HB1 := Lib.hid (fun W => between_any s.nid 1 4294967296 W)
 have HB2 := Lib.hid (fun W => between_any s.nseq 1 1099511627776 W)
 have HB3 := Lib.hid (fun W => between_any s.tx 0 200 W)
 obtain ⟨res, hres⟩ : ∃ r, mayAll s = r := ⟨_, rfl⟩
 have HRES := Lib.hid hres
 rw [hres]
 obtain ⟨hd, hhd⟩ : ∃ r, headB s = r := ⟨_, rfl⟩
 obtain ⟨ls, hls⟩ : ∃ r, listsB s = r := ⟨_, rfl⟩
 obtain ⟨ow, how⟩ : ∃ r, ownB s = r := ⟨_, rfl⟩
 have HLM : Hid (s.ms.length <= 9223372036854775807) := by
  obtain ⟨_, c, _, h1, h2⟩ := CellsAt.shape hms
  rw [Hid]; unfold maxLen at h2; omega
 rw [mayAll, hhd, hls, how] at HRES
 rw [hhd, hls] at HMS
 rw [hls] at HSI
 have HHD := Lib.hid hhd
 have HLS := Lib.hid hls
 have HOW := Lib.hid how
 unfold headB at HHD
 unfold listsB at HLS
 unfold ownB at HOW
 clear hhd hls how h hv hms hws hes hos hns hok hres
 generalize brokerB s.broker = b0 at HHD HBr
 generalize (decide (1 <= s.nid) && decide (s.nid <= 4294967296)) = b1 at HHD HB1
 generalize (decide (1 <= s.nseq) && decide (s.nseq <= 1099511627776)) = b2 at HHD HB2
 generalize (decide (0 <= s.tx) && decide (s.tx <= 200)) = b3 at HHD HB3
 generalize tidsB (s.waits.map (·.tid)) s.waits.length = q1 at HLS HT1
 generalize tidsB (s.ends.map (·.tid)) s.ends.length = q2 at HLS HT2
 generalize tidsB (s.opens.map (·.tid)) s.opens.length = q3 at HOW HT3
 generalize tidsB (s.noes.map (·.tid)) s.noes.length = q4 at HOW HT4
 generalize msB s = q5 at HRES HMS
 generalize sides0 s = q6 at HRES HSI
 generalize s.ms.length = nm at hval HRES HLM
 generalize s.waits.length = nw at hval HT1
 generalize s.ends.length = ne at hval HT2
 generalize s.opens.length = no at hval HT3
 generalize s.noes.length = nn at hval HT4
 have hlm := HLM.out
 subst hval
 go_enter Tryz.func14, Tryz.ntmps14
 go_upto_region 1 with fail
 go_cut [3] from 6 to 23 (fun s3 wx => s3 = .bool hd /\ Hid (Tch No w wx) /\ Hid (BoxAt wx w.heap.size [.int .i64 s.broker, .int .i64 s.nid, .int .i64 s.nseq, .int .i64 s.tx, .slice am nm cm, .slice aw nw cw, .slice ae ne ce, .slice ao no co, .slice an nn cn]))
 case first =>
  clear HRES HLS HOW HMS HSI HT1 HT2 HT3 HT4
  cases b0 with
  | false =>
   have hp : Hid (hd = false) := by rw [Hid, <- HHD.out]; simp
   go_wp2_with (first | (go_at_call 42; refine (HBr.out _).mono ?_; rintro e w' ⟨rfl, rfl⟩) | (go_at_call 43; with_reducible refine (HB1.out _).mono ?_; rintro e w' ⟨rfl, rfl⟩) | (go_at_call 43; with_reducible refine (HB2.out _).mono ?_; rintro e w' ⟨rfl, rfl⟩) | (go_at_call 43; with_reducible refine (HB3.out _).mono ?_; rintro e w' ⟨rfl, rfl⟩))
   go_meet
   exact ⟨by rw [hp.out], (Tch.alloc _ _), BoxAt.made _ _ _⟩
  | true =>
  cases b1 with
  | false =>
   have hp : Hid (hd = false) := by rw [Hid, <- HHD.out]; simp
   go_wp2_with (first | (go_at_call 42; refine (HBr.out _).mono ?_; rintro e w' ⟨rfl, rfl⟩) | (go_at_call 43; with_reducible refine (HB1.out _).mono ?_; rintro e w' ⟨rfl, rfl⟩) | (go_at_call 43; with_reducible refine (HB2.out _).mono ?_; rintro e w' ⟨rfl, rfl⟩) | (go_at_call 43; with_reducible refine (HB3.out _).mono ?_; rintro e w' ⟨rfl, rfl⟩))
   go_meet
   exact ⟨by rw [hp.out], (Tch.alloc _ _), BoxAt.made _ _ _⟩
  | true =>
  cases b2 with
  | false =>
   have hp : Hid (hd = false) := by rw [Hid, <- HHD.out]; simp
   go_wp2_with (first | (go_at_call 42; refine (HBr.out _).mono ?_; rintro e w' ⟨rfl, rfl⟩) | (go_at_call 43; with_reducible refine (HB1.out _).mono ?_; rintro e w' ⟨rfl, rfl⟩) | (go_at_call 43; with_reducible refine (HB2.out _).mono ?_; rintro e w' ⟨rfl, rfl⟩) | (go_at_call 43; with_reducible refine (HB3.out _).mono ?_; rintro e w' ⟨rfl, rfl⟩))
   go_meet
   exact ⟨by rw [hp.out], (Tch.alloc _ _), BoxAt.made _ _ _⟩
  | true =>
  cases b3 with
  | false =>
   have hp : Hid (hd = false) := by rw [Hid, <- HHD.out]; simp
   go_wp2_with (first | (go_at_call 42; refine (HBr.out _).mono ?_; rintro e w' ⟨rfl, rfl⟩) | (go_at_call 43; with_reducible refine (HB1.out _).mono ?_; rintro e w' ⟨rfl, rfl⟩) | (go_at_call 43; with_reducible refine (HB2.out _).mono ?_; rintro e w' ⟨rfl, rfl⟩) | (go_at_call 43; with_reducible refine (HB3.out _).mono ?_; rintro e w' ⟨rfl, rfl⟩))
   go_meet
   exact ⟨by rw [hp.out], (Tch.alloc _ _), BoxAt.made _ _ _⟩
  | true =>
   have hp : Hid (hd = true) := by rw [Hid, <- HHD.out]; simp
   go_wp2_with (first | (go_at_call 42; refine (HBr.out _).mono ?_; rintro e w' ⟨rfl, rfl⟩) | (go_at_call 43; with_reducible refine (HB1.out _).mono ?_; rintro e w' ⟨rfl, rfl⟩) | (go_at_call 43; with_reducible refine (HB2.out _).mono ?_; rintro e w' ⟨rfl, rfl⟩) | (go_at_call 43; with_reducible refine (HB3.out _).mono ?_; rintro e w' ⟨rfl, rfl⟩))
   go_meet
   exact ⟨by rw [hp.out], (Tch.alloc _ _), BoxAt.made _ _ _⟩
 case rest =>
  obtain ⟨rfl, TT, HB⟩ := hcut
  clear HHD HBr HB1 HB2 HB3
  obtain ⟨w2, hw2⟩ : ∃ x, x = wc := ⟨_, rfl⟩
  subst hw2
  have c5 := HB.out 5 _ rfl
  go_upto_region 2 with fail
  go_cut [4] from 24 to 31 (fun s4 wx => s4 = .bool ls /\ Hid (Tch No w wx) /\ Hid (BoxAt wx w.heap.size [.int .i64 s.broker, .int .i64 s.nid, .int .i64 s.nseq, .int .i64 s.tx, .slice am nm cm, .slice aw nw cw, .slice ae ne ce, .slice ao no co, .slice an nn cn]))
  case first =>
   clear HRES HOW HMS HSI HT3 HT4
   cases q1 with
   | false =>
    have hp : Hid (ls = false) := by rw [Hid, <- HLS.out]; rfl
    go_wp2_with (first | (go_at_call 44; refine (HT1.out _ TT.out).mono ?_; rintro e w3 ⟨rfl, T3⟩; have NB := Lib.hid (HB.out.keep T3); have d6 := NB.out 6 _ rfl) | (go_at_call 46; refine (HT2.out _ (TT.out.trans0 T3)).mono ?_; rintro e w4 ⟨rfl, T4⟩))
    go_meet
    exact ⟨by rw [hp.out], TT.out.trans0 T3, HB.out.keep T3⟩
   | true =>
    have hp : Hid (ls = q2) := by rw [Hid, <- HLS.out]; rfl
    go_wp2_with (first | (go_at_call 44; refine (HT1.out _ TT.out).mono ?_; rintro e w3 ⟨rfl, T3⟩; have NB := Lib.hid (HB.out.keep T3); have d6 := NB.out 6 _ rfl) | (go_at_call 46; refine (HT2.out _ (TT.out.trans0 T3)).mono ?_; rintro e w4 ⟨rfl, T4⟩))
    go_meet
    exact ⟨by rw [hp.out], (TT.out.trans0 T3).trans0 T4, (HB.out.keep T3).keep T4⟩
  case rest =>
  clear TT HB c5
  obtain ⟨rfl, TT, HB⟩ := hcut
  clear HLS HT1 HT2
  obtain ⟨w3, hw3⟩ : ∃ x, x = wc := ⟨_, rfl⟩
  subst hw3
  have c7 := HB.out 7 _ rfl
  go_upto_region 3 with fail
  go_cut [5] from 32 to 39 (fun s5 wx => s5 = .bool ow /\ Hid (Tch No w wx) /\ Hid (BoxAt wx w.heap.size [.int .i64 s.broker, .int .i64 s.nid, .int .i64 s.nseq, .int .i64 s.tx, .slice am nm cm, .slice aw nw cw, .slice ae ne ce, .slice ao no co, .slice an nn cn]))
  case first =>
   clear HRES HMS HSI
   cases q3 with
   | false =>
    have hp : Hid (ow = false) := by rw [Hid, <- HOW.out]; rfl
    go_wp2_with (first | (go_at_call 48; (fail_if_success (have q := T3)); refine (HT3.out _ TT.out).mono ?_; rintro e w4 ⟨rfl, T3⟩; have NB := Lib.hid (HB.out.keep T3); have d6 := NB.out 8 _ rfl) | (go_at_call 48; refine (HT4.out _ (TT.out.trans0 T3)).mono ?_; rintro e w5 ⟨rfl, T4⟩))
    go_meet
    exact ⟨by rw [hp.out], TT.out.trans0 T3, HB.out.keep T3⟩
   | true =>
    have hp : Hid (ow = q4) := by rw [Hid, <- HOW.out]; rfl
    go_wp2_with (first | (go_at_call 48; (fail_if_success (have q := T3)); refine (HT3.out _ TT.out).mono ?_; rintro e w4 ⟨rfl, T3⟩; have NB := Lib.hid (HB.out.keep T3); have d6 := NB.out 8 _ rfl) | (go_at_call 48; refine (HT4.out _ (TT.out.trans0 T3)).mono ?_; rintro e w5 ⟨rfl, T4⟩))
    go_meet
    exact ⟨by rw [hp.out], (TT.out.trans0 T3).trans0 T4, (HB.out.keep T3).keep T4⟩
  case rest =>
  clear TT HB c7
  obtain ⟨rfl, TT, HB⟩ := hcut
  clear HOW HT3 HT4
  obtain ⟨w4, hw4⟩ : ∃ x, x = wc := ⟨_, rfl⟩
  subst hw4
  have c0 := HB.out 0 _ rfl
  have c1 := HB.out 1 _ rfl
  have c2 := HB.out 2 _ rfl
  have c3 := HB.out 3 _ rfl
  have c4 := HB.out 4 _ rfl
  have c5 := HB.out 5 _ rfl
  have c6 := HB.out 6 _ rfl
  have c7 := HB.out 7 _ rfl
  have c8 := HB.out 8 _ rfl
  cases hd with
  | false =>
   have HE : Hid (res = false) := by rw [Hid, <- HRES.out]; simp
   go_wp2_with fail
   go_ret
   exact ⟨ret_b HE.out.symm, TT.out⟩
  | true =>
  cases ls with
  | false =>
   have HE : Hid (res = false) := by rw [Hid, <- HRES.out]; simp
   go_wp2_with fail
   go_ret
   exact ⟨ret_b HE.out.symm, TT.out⟩
  | true =>
  cases ow with
  | false =>
   have HE : Hid (res = false) := by rw [Hid, <- HRES.out]; simp
   go_wp2_with fail
   go_ret
   exact ⟨ret_b HE.out.symm, TT.out⟩
  | true =>
  have HM2 := Lib.hid (HMS.out rfl rfl)
  have HS2 := Lib.hid (HSI.out rfl)
  clear HMS HSI
  cases hn : decide ((nm : Int) <= 72) with
  | false =>
   have HE : Hid (res = false) := by rw [Hid, <- HRES.out, hn]; simp
   go_wp2_with fail
   go_ret
   exact ⟨ret_b HE.out.symm, TT.out⟩
  | true =>
  have HE : Hid (res = (q5 && q6)) := by rw [Hid, <- HRES.out, hn]; simp
  clear HRES
  cases q5 with
  | false =>
   go_wp2_with (first | (go_at_call 51; refine (HM2.out _ TT.out).mono ?_; rintro e w5 ⟨rfl, T5⟩; have NB := Lib.hid (HB.out.keep T5); have z0 := NB.out 0 _ rfl; have z1 := NB.out 1 _ rfl; have z2 := NB.out 2 _ rfl; have z3 := NB.out 3 _ rfl; have z4 := NB.out 4 _ rfl; have z5 := NB.out 5 _ rfl; have z6 := NB.out 6 _ rfl; have z7 := NB.out 7 _ rfl; have z8 := NB.out 8 _ rfl; skip) | (go_at_call 52; refine (HS2.out _ (TT.out.trans0 T5)).mono ?_; rintro e w6 ⟨rfl, T6⟩))
   go_ret
   exact ⟨ret_b HE.out.symm, TT.out.trans0 T5⟩
  | true =>
   go_wp2_with (first | (go_at_call 51; refine (HM2.out _ TT.out).mono ?_; rintro e w5 ⟨rfl, T5⟩; have NB := Lib.hid (HB.out.keep T5); have z0 := NB.out 0 _ rfl; have z1 := NB.out 1 _ rfl; have z2 := NB.out 2 _ rfl; have z3 := NB.out 3 _ rfl; have z4 := NB.out 4 _ rfl; have z5 := NB.out 5 _ rfl; have z6 := NB.out 6 _ rfl; have z7 := NB.out 7 _ rfl; have z8 := NB.out 8 _ rfl; skip) | (go_at_call 52; refine (HS2.out _ (TT.out.trans0 T5)).mono ?_; rintro e w6 ⟨rfl, T6⟩))
   go_ret
   exact ⟨ret_b HE.out.symm, (TT.out.trans0 T5).trans0 T6⟩
end
end Go.Proofs.YtelaljoebdpicaaGreat
