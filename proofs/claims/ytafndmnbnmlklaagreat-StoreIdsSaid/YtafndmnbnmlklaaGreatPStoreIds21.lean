/- Part 21 of what the proof of StoreIds rests on. No condition. -/
import Derived.Test.YtafndmnbnmlklaaGreatPStoreIds02
import Derived.Test.YtafndmnbnmlklaaGreatPStoreIds07
import Derived.Test.YtafndmnbnmlklaaGreatPStoreIds08
import Derived.Test.YtafndmnbnmlklaaGreatPStoreIds09
import Derived.Test.YtafndmnbnmlklaaGreatPStoreIds16
namespace Go.Proofs.YtafndmnbnmlklaaGreat
set_option maxRecDepth 100000
set_option maxHeartbeats 60000000
set_option linter.unusedVariables false
set_option linter.unusedSimpArgs false
set_option linter.unusedSectionVars false
section
open Go.RowKit Go.Maps
def tidsB (l : List Int) (n : Nat) : Bool := (l.all tidB && strictB l) && decide ((n : Int) <= 2000)
def headB (s : StM) : Bool := ((brokerB s.broker && (decide (1 <= s.nid) && decide (s.nid <= 4294967296))) && (decide (1 <= s.nseq) && decide (s.nseq <= 1099511627776))) && (decide (0 <= s.tx) && decide (s.tx <= 200))
def listsB (s : StM) : Bool := tidsB (s.waits.map (·.tid)) s.waits.length && tidsB (s.ends.map (·.tid)) s.ends.length
def ownB (s : StM) : Bool := tidsB (s.opens.map (·.tid)) s.opens.length && tidsB (s.noes.map (·.tid)) s.noes.length
def mayAll (s : StM) : Bool := ((((headB s && listsB s) && ownB s) && decide ((s.ms.length : Int) <= 72)) && msB s) && sides0 s
theorem tidsB_iff {l : List Int} {n : Nat} : tidsB l n = true ↔ ((∀ x ∈ l, tidB x = true) /\ strictB l = true) /\ n <= 2000 := by
 unfold tidsB
 rw [Bool.and_eq_true, Bool.and_eq_true, List.all_eq_true, decide_eq_true_eq]
 constructor
 ·rintro ⟨h, h2⟩; exact ⟨h, by omega⟩
 ·rintro ⟨h, h2⟩; exact ⟨h, by omega⟩
theorem rec4_iff {t : Int} {ps : List PutM} : recB ⟨4, t, 0, false, [], ps⟩ = true ↔ tidB t = true /\ ps.length <= 10 /\ ps.all putB = true := by
 unfold recB
 simp [Bool.and_eq_true]
theorem rec6_iff {t : Int} {l : List Int} : recB ⟨6, t, 0, false, l, []⟩ = true ↔ tidB t = true /\ (1 <= l.length /\ l.length <= 7) /\ risingB l = true := by
 unfold recB
 simp [Bool.and_eq_true]
theorem yes_any {l : List EndM} (hs : strictB (l.map (·.tid)) = true) (t : Int) : (hasP (·.tid) l t = true /\ yesAt l t = false) ↔ ∃ e ∈ l, e.tid = t /\ e.yes = false := by
 constructor
 ·rintro ⟨h1, h2⟩
  obtain ⟨hp, e⟩ := (hasP_pos hs t).1 h1
  refine ⟨l[posP (·.tid) l t], List.getElem_mem hp, e, ?_⟩
  unfold yesAt at h2
  rw [List.getElem?_eq_getElem hp] at h2
  exact h2
 ·rintro ⟨e, he, h1, h2⟩
  have hh : hasP (·.tid) l t = true := hasP_iff.2 ⟨e, he, h1⟩
  refine ⟨hh, ?_⟩
  obtain ⟨hp, ep⟩ := (hasP_pos hs t).1 hh
  obtain ⟨i, hi, rfl⟩ := List.getElem_of_mem he
  have hii : i = posP (·.tid) l t := by
   rcases Nat.lt_trichotomy i (posP (·.tid) l t) with h | h | h
   ·have := strictB_get hs (i := i) (j := posP (·.tid) l t) h (by simpa using hp)
    simp only [List.getElem_map] at this
    omega
   ·exact h
   ·have := strictB_get hs (i := posP (·.tid) l t) (j := i) h (by simpa using hi)
    simp only [List.getElem_map] at this
    omega
  unfold yesAt
  rw [<- hii, List.getElem?_eq_getElem hi]
  exact h2
theorem mayAll_eq (s : StM) : mayAll s = mayM s := by
 rw [Bool.eq_iff_iff, may_iff]
 unfold mayAll headB listsB ownB sides0 brokerB msB
 simp only [Bool.and_eq_true, decide_eq_true_eq, tidsB_iff, List.all_eq_true, List.mem_map, forall_exists_index, and_imp, forall_apply_eq_imp_iff₂]
 constructor
 ·rintro ⟨⟨⟨⟨⟨⟨⟨⟨h1, h2⟩, h3⟩, h4⟩, ⟨⟨w1, w2⟩, w3⟩, ⟨⟨e1, e2⟩, e3⟩⟩, ⟨⟨o1, o2⟩, o3⟩, ⟨⟨n1, n2⟩, n3⟩⟩, h5⟩, ⟨m1, m2⟩, m3⟩, s1, s2, s3⟩
  refine ⟨h1, h2, h3, h4, by omega, w3, e3, o3, n3, fun m hm => (msgB_iff s m).1 (m1 m hm), m2, m3, e1, e2, ?_, w2, ?_, o2, ?_, n2⟩
  ·intro w hw
   have := s1 w hw
   unfold side1 at this
   rw [Bool.and_eq_true, rec4_iff, Bool.not_eq_true'] at this
   exact ⟨this.2.1, this.1, this.2.2.1, this.2.2.2⟩
  ·intro p hp
   have := s2 p hp
   unfold side2 pendOk at this
   simp only [Bool.and_eq_true, rec6_iff, Bool.not_eq_true', decide_eq_true_eq] at this
   obtain ⟨q1, q2, ⟨⟨q3, q4, q5⟩, q6⟩, q7⟩ := this
   exact ⟨⟨q6, q4, q5, q7⟩, q1, q2⟩
  ·intro p hp
   have := s3 p hp
   unfold side3 pendOk at this
   simp only [Bool.and_eq_true, rec6_iff, Bool.not_eq_true', decide_eq_true_eq] at this
   obtain ⟨q1, q2, ⟨⟨q3, q4, q5⟩, q6⟩, q7⟩ := this
   exact ⟨⟨q6, q4, q5, q7⟩, (yes_any e2 p.tid).1 ⟨q1, q2⟩⟩
 ·intro h
  have hb := h.br
  have tid_of : ∀ t, homeM t = s.broker -> tidB t = true := fun t ht => by unfold tidB; simp only [decide_eq_true_eq]; omega
  refine ⟨⟨⟨⟨⟨⟨⟨⟨h.br, h.nid⟩, h.nseq⟩, h.tx⟩, ⟨⟨fun w hw => (h.waits w hw).tid, h.waits2⟩, h.lw⟩, ⟨⟨h.ends, h.ends2⟩, h.le⟩⟩, ⟨⟨fun p hp => tid_of _ (h.opens p hp).1.home, h.opens2⟩, h.lo⟩, ⟨⟨fun p hp => tid_of _ (h.noes p hp).1.home, h.noes2⟩, h.ln⟩⟩, by have := h.lms; omega⟩, ⟨fun m hm => (msgB_iff s m).2 (h.ms m hm), h.mseq⟩, h.mids⟩, ?_, ?_, ?_⟩
  ·intro w hw
   have k := h.waits w hw
   unfold side1
   rw [Bool.and_eq_true, rec4_iff, Bool.not_eq_true']
   exact ⟨k.no, k.tid, k.len, k.puts⟩
  ·intro p hp
   obtain ⟨k, k1, k2⟩ := h.opens p hp
   unfold side2 pendOk
   simp only [Bool.and_eq_true, rec6_iff, Bool.not_eq_true', decide_eq_true_eq]
   exact ⟨k1, k2, ⟨⟨tid_of _ k.home, k.len, k.rising⟩, k.home⟩, k.other⟩
  ·intro p hp
   obtain ⟨k, k1⟩ := h.noes p hp
   have := (yes_any h.ends2 p.tid).2 k1
   unfold side3 pendOk
   simp only [Bool.and_eq_true, rec6_iff, Bool.not_eq_true', decide_eq_true_eq]
   exact ⟨this.1, this.2, ⟨⟨tid_of _ k.home, k.len, k.rising⟩, k.home⟩, k.other⟩
theorem may_any (s : StM) (hok : OkSt s) (v : Value) (w : World) (h : IsSt w v s) :
  Calls Tryz.prog 26 #[v] w fun e w' => e = .returned (.bool (mayM s)) /\ Tch No w w' := by
 rw [<- mayAll_eq]
 obtain ⟨am, cm, aw, cw, ae, ce, ao, co, an, cn, hv, hms, hws, hes, hos, hns⟩ := h.shape
 have hval : v = .agg #[.int .i64 s.broker, .int .i64 s.nid, .int .i64 s.nseq, .int .i64 s.tx, .slice am s.ms.length cm, .slice aw s.waits.length cw, .slice ae s.ends.length ce, .slice ao s.opens.length co, .slice an s.noes.length cn] := hv
 have HMS : Hid (headB s = true -> listsB s = true -> ∀ W, Tch No w W -> Calls Tryz.prog 83 #[v] W fun e w' => e = .returned (.bool (msB s)) /\ Tch No W w') := fun h1 h2 W T => by
  unfold headB brokerB at h1
  unfold listsB at h2
  simp only [Bool.and_eq_true, decide_eq_true_eq, tidsB_iff] at h1 h2
  exact mayms_any s hok h1.1.1.1.1 h2.2.1.2 (by have := h2.2.2; omega) v W (h.keep T)
 have HSI : Hid (listsB s = true -> ∀ W, Tch No w W -> Calls Tryz.prog 84 #[v] W fun e w' => e = .returned (.bool (sides0 s)) /\ Tch No W w') := fun h2 W T => by
  unfold listsB at h2
  simp only [Bool.and_eq_true, tidsB_iff] at h2
  exact maysides_any s hok h2.2.1.2 (by have := h2.2.2; omega) h2.1.1.2 (by have := h2.1.2; omega) v W (h.keep T)
 have HT1 : Hid (∀ W, Tch No w W -> Calls Tryz.prog 76 #[.slice aw s.waits.length cw, .func (.func 77) #[] #[]] W fun e w' => e = .returned (.bool (tidsB (s.waits.map (·.tid)) s.waits.length)) /\ Tch No W w') := fun W T => by
  obtain ⟨vs, h1, h2, h3⟩ := hws.keep T
  have hz : ((s.waits.map (·.tid)).zip vs).length = s.waits.length := by rw [List.length_zip, List.length_map, h1, Nat.min_self]
  have hz2 := zip_fst (l := s.waits.map (·.tid)) (vs := vs) (by simpa using h1)
  have := tids1 Prod.fst Prod.snd ((s.waits.map (·.tid)).zip vs) (fun x hx => by
   obtain ⟨y, hy, e⟩ := List.mem_map.1 (List.of_mem_zip (a := x.1) (b := x.2) hx).1
   rw [<- e]; exact (hok.waits y hy).1) _ W (by rw [hz]; exact h2) (fun x hx => by
   obtain ⟨i, hi, e⟩ := List.getElem_of_mem (List.of_mem_zip (a := x.1) (b := x.2) hx).2
   obtain ⟨a, c, ea, _⟩ := CellsAt.shape (h3 i (by omega) hi)
   rw [<- e]; exact ⟨a, _, c, ea⟩)
  rw [hz, hz2] at this
  exact this
 have HT2 : Hid (∀ W, Tch No w W -> Calls Tryz.prog 78 #[.slice ae s.ends.length ce, .func (.func 79) #[] #[]] W fun e w' => e = .returned (.bool (tidsB (s.ends.map (·.tid)) s.ends.length)) /\ Tch No W w') := fun W T =>
  tids2 (fun e : EndM => e.tid) (fun e => .bool e.yes) s.ends (fun x hx => hok.ends x hx) _ W (hes.keep T) (fun x _ => ⟨_, rfl⟩)
 have HT3 : Hid (∀ W, Tch No w W -> Calls Tryz.prog 80 #[.slice ao s.opens.length co, .func (.func 81) #[] #[]] W fun e w' => e = .returned (.bool (tidsB (s.opens.map (·.tid)) s.opens.length)) /\ Tch No W w') := fun W T => by
  obtain ⟨vs, h1, h2, h3⟩ := hos.keep T
  have hz : ((s.opens.map (·.tid)).zip vs).length = s.opens.length := by rw [List.length_zip, List.length_map, h1, Nat.min_self]
  have hz2 := zip_fst (l := s.opens.map (·.tid)) (vs := vs) (by simpa using h1)
  have := tids3 Prod.fst Prod.snd ((s.opens.map (·.tid)).zip vs) (fun x hx => by
   obtain ⟨y, hy, e⟩ := List.mem_map.1 (List.of_mem_zip (a := x.1) (b := x.2) hx).1
   rw [<- e]; exact (hok.opens y hy).1) _ W (by rw [hz]; exact h2) (fun x hx => by
   obtain ⟨i, hi, e⟩ := List.getElem_of_mem (List.of_mem_zip (a := x.1) (b := x.2) hx).2
   obtain ⟨a, c, ea, _⟩ := CellsAt.shape (h3 i (by omega) hi)
   rw [<- e]; exact ⟨a, _, c, ea⟩)
  rw [hz, hz2] at this
  exact this
 have HT4 : Hid (∀ W, Tch No w W -> Calls Tryz.prog 80 #[.slice an s.noes.length cn, .func (.func 82) #[] #[]] W fun e w' => e = .returned (.bool (tidsB (s.noes.map (·.tid)) s.noes.length)) /\ Tch No W w') := fun W T => by
  obtain ⟨vs, h1, h2, h3⟩ := hns.keep T
  have hz : ((s.noes.map (·.tid)).zip vs).length = s.noes.length := by rw [List.length_zip, List.length_map, h1, Nat.min_self]
  have hz2 := zip_fst (l := s.noes.map (·.tid)) (vs := vs) (by simpa using h1)
  have := tids4 Prod.fst Prod.snd ((s.noes.map (·.tid)).zip vs) (fun x hx => by
   obtain ⟨y, hy, e⟩ := List.mem_map.1 (List.of_mem_zip (a := x.1) (b := x.2) hx).1
   rw [<- e]; exact (hok.noes y hy).1) _ W (by rw [hz]; exact h2) (fun x hx => by
   obtain ⟨i, hi, e⟩ := List.getElem_of_mem (List.of_mem_zip (a := x.1) (b := x.2) hx).2
   obtain ⟨a, c, ea, _⟩ := CellsAt.shape (h3 i (by omega) hi)
   rw [<- e]; exact ⟨a, _, c, ea⟩)
  rw [hz, hz2] at this
  exact this
 have HBr := Lib.hid (fun W => kbroker_any s.broker W)
 have HB1 := Lib.hid (fun W => between_any s.nid 1 4294967296 W)
 have HB2 := Lib.hid (fun W => between_any s.nseq 1 1099511627776 W)
 have HB3 := Lib.hid (fun W => between_any s.tx 0 200 W)
 obtain ⟨res, hres⟩ : ∃ r, mayAll s = r := ⟨_, rfl⟩
 have HRES := Lib.hid hres
 rw [hres]
 obtain ⟨hd, hhd⟩ : ∃ r, headB s = r := ⟨_, rfl⟩
 obtain ⟨ls, hls⟩ : ∃ r, listsB s = r := ⟨_, rfl⟩
 obtain ⟨ow, how⟩ : ∃ r, ownB s = r := ⟨_, rfl⟩
 have HLM : Hid (s.ms.length <= 9223372036854775807) := by
  obtain ⟨_, c, _, h1, h2⟩ := CellsAt.shape hms
  rw [Hid]; unfold maxLen at h2; omega
 rw [mayAll, hhd, hls, how] at HRES
 rw [hhd, hls] at HMS
 rw [hls] at HSI
 have HHD := Lib.hid hhd
 have HLS := Lib.hid hls
 have HOW := Lib.hid how
 unfold headB at HHD
 unfold listsB at HLS
 unfold ownB at HOW
 clear hhd hls how h hv hms hws hes hos hns hok hres
 generalize brokerB s.broker = b0 at HHD HBr
 generalize (decide (1 <= s.nid) && decide (s.nid <= 4294967296)) = b1 at HHD HB1
 generalize (decide (1 <= s.nseq) && decide (s.nseq <= 1099511627776)) = b2 at HHD HB2
 generalize (decide (0 <= s.tx) && decide (s.tx <= 200)) = b3 at HHD HB3
 generalize tidsB (s.waits.map (·.tid)) s.waits.length = q1 at HLS HT1
 generalize tidsB (s.ends.map (·.tid)) s.ends.length = q2 at HLS HT2
 generalize tidsB (s.opens.map (·.tid)) s.opens.length = q3 at HOW HT3
 generalize tidsB (s.noes.map (·.tid)) s.noes.length = q4 at HOW HT4
 generalize msB s = q5 at HRES HMS
 generalize sides0 s = q6 at HRES HSI
 generalize s.ms.length = nm at hval HRES HLM
 generalize s.waits.length = nw at hval HT1
 generalize s.ends.length = ne at hval HT2
 generalize s.opens.length = no at hval HT3
 generalize s.noes.length = nn at hval HT4
 have hlm := HLM.out
 subst hval
 go_enter Tryz.func26, Tryz.ntmps26
 go_upto_region 1 with fail
 go_cut [3] from 6 to 23 (fun s3 wx => s3 = .bool hd /\ Hid (Tch No w wx) /\ Hid (BoxAt wx w.heap.size [.int .i64 s.broker, .int .i64 s.nid, .int .i64 s.nseq, .int .i64 s.tx, .slice am nm cm, .slice aw nw cw, .slice ae ne ce, .slice ao no co, .slice an nn cn]))
 case first =>
  clear HRES HLS HOW HMS HSI HT1 HT2 HT3 HT4
  cases b0 with
  | false =>
   have hp : Hid (hd = false) := by rw [Hid, <- HHD.out]; simp
   go_wp2_with (first | (go_at_call 53; refine (HBr.out _).mono ?_; rintro e w' ⟨rfl, rfl⟩) | (go_at_call 75; with_reducible refine (HB1.out _).mono ?_; rintro e w' ⟨rfl, rfl⟩) | (go_at_call 75; with_reducible refine (HB2.out _).mono ?_; rintro e w' ⟨rfl, rfl⟩) | (go_at_call 75; with_reducible refine (HB3.out _).mono ?_; rintro e w' ⟨rfl, rfl⟩))
   go_meet
   exact ⟨by rw [hp.out], (Tch.alloc _ _), BoxAt.made _ _ _⟩
  | true =>
  cases b1 with
  | false =>
   have hp : Hid (hd = false) := by rw [Hid, <- HHD.out]; simp
   go_wp2_with (first | (go_at_call 53; refine (HBr.out _).mono ?_; rintro e w' ⟨rfl, rfl⟩) | (go_at_call 75; with_reducible refine (HB1.out _).mono ?_; rintro e w' ⟨rfl, rfl⟩) | (go_at_call 75; with_reducible refine (HB2.out _).mono ?_; rintro e w' ⟨rfl, rfl⟩) | (go_at_call 75; with_reducible refine (HB3.out _).mono ?_; rintro e w' ⟨rfl, rfl⟩))
   go_meet
   exact ⟨by rw [hp.out], (Tch.alloc _ _), BoxAt.made _ _ _⟩
  | true =>
  cases b2 with
  | false =>
   have hp : Hid (hd = false) := by rw [Hid, <- HHD.out]; simp
   go_wp2_with (first | (go_at_call 53; refine (HBr.out _).mono ?_; rintro e w' ⟨rfl, rfl⟩) | (go_at_call 75; with_reducible refine (HB1.out _).mono ?_; rintro e w' ⟨rfl, rfl⟩) | (go_at_call 75; with_reducible refine (HB2.out _).mono ?_; rintro e w' ⟨rfl, rfl⟩) | (go_at_call 75; with_reducible refine (HB3.out _).mono ?_; rintro e w' ⟨rfl, rfl⟩))
   go_meet
   exact ⟨by rw [hp.out], (Tch.alloc _ _), BoxAt.made _ _ _⟩
  | true =>
  cases b3 with
  | false =>
   have hp : Hid (hd = false) := by rw [Hid, <- HHD.out]; simp
   go_wp2_with (first | (go_at_call 53; refine (HBr.out _).mono ?_; rintro e w' ⟨rfl, rfl⟩) | (go_at_call 75; with_reducible refine (HB1.out _).mono ?_; rintro e w' ⟨rfl, rfl⟩) | (go_at_call 75; with_reducible refine (HB2.out _).mono ?_; rintro e w' ⟨rfl, rfl⟩) | (go_at_call 75; with_reducible refine (HB3.out _).mono ?_; rintro e w' ⟨rfl, rfl⟩))
   go_meet
   exact ⟨by rw [hp.out], (Tch.alloc _ _), BoxAt.made _ _ _⟩
  | true =>
   have hp : Hid (hd = true) := by rw [Hid, <- HHD.out]; simp
   go_wp2_with (first | (go_at_call 53; refine (HBr.out _).mono ?_; rintro e w' ⟨rfl, rfl⟩) | (go_at_call 75; with_reducible refine (HB1.out _).mono ?_; rintro e w' ⟨rfl, rfl⟩) | (go_at_call 75; with_reducible refine (HB2.out _).mono ?_; rintro e w' ⟨rfl, rfl⟩) | (go_at_call 75; with_reducible refine (HB3.out _).mono ?_; rintro e w' ⟨rfl, rfl⟩))
   go_meet
   exact ⟨by rw [hp.out], (Tch.alloc _ _), BoxAt.made _ _ _⟩
 case rest =>
  obtain ⟨rfl, TT, HB⟩ := hcut
  clear HHD HBr HB1 HB2 HB3
  obtain ⟨w2, hw2⟩ : ∃ x, x = wc := ⟨_, rfl⟩
  subst hw2
  have c5 := HB.out 5 _ rfl
  go_upto_region 2 with fail
  go_cut [4] from 24 to 31 (fun s4 wx => s4 = .bool ls /\ Hid (Tch No w wx) /\ Hid (BoxAt wx w.heap.size [.int .i64 s.broker, .int .i64 s.nid, .int .i64 s.nseq, .int .i64 s.tx, .slice am nm cm, .slice aw nw cw, .slice ae ne ce, .slice ao no co, .slice an nn cn]))
  case first =>
   clear HRES HOW HMS HSI HT3 HT4
   cases q1 with
   | false =>
    have hp : Hid (ls = false) := by rw [Hid, <- HLS.out]; rfl
    go_wp2_with (first | (go_at_call 76; refine (HT1.out _ TT.out).mono ?_; rintro e w3 ⟨rfl, T3⟩; have NB := Lib.hid (HB.out.keep T3); have d6 := NB.out 6 _ rfl) | (go_at_call 78; refine (HT2.out _ (TT.out.trans0 T3)).mono ?_; rintro e w4 ⟨rfl, T4⟩))
    go_meet
    exact ⟨by rw [hp.out], TT.out.trans0 T3, HB.out.keep T3⟩
   | true =>
    have hp : Hid (ls = q2) := by rw [Hid, <- HLS.out]; rfl
    go_wp2_with (first | (go_at_call 76; refine (HT1.out _ TT.out).mono ?_; rintro e w3 ⟨rfl, T3⟩; have NB := Lib.hid (HB.out.keep T3); have d6 := NB.out 6 _ rfl) | (go_at_call 78; refine (HT2.out _ (TT.out.trans0 T3)).mono ?_; rintro e w4 ⟨rfl, T4⟩))
    go_meet
    exact ⟨by rw [hp.out], (TT.out.trans0 T3).trans0 T4, (HB.out.keep T3).keep T4⟩
  case rest =>
  clear TT HB c5
  obtain ⟨rfl, TT, HB⟩ := hcut
  clear HLS HT1 HT2
  obtain ⟨w3, hw3⟩ : ∃ x, x = wc := ⟨_, rfl⟩
  subst hw3
  have c7 := HB.out 7 _ rfl
  go_upto_region 3 with fail
  go_cut [5] from 32 to 39 (fun s5 wx => s5 = .bool ow /\ Hid (Tch No w wx) /\ Hid (BoxAt wx w.heap.size [.int .i64 s.broker, .int .i64 s.nid, .int .i64 s.nseq, .int .i64 s.tx, .slice am nm cm, .slice aw nw cw, .slice ae ne ce, .slice ao no co, .slice an nn cn]))
  case first =>
   clear HRES HMS HSI
   cases q3 with
   | false =>
    have hp : Hid (ow = false) := by rw [Hid, <- HOW.out]; rfl
    go_wp2_with (first | (go_at_call 80; (fail_if_success (have q := T3)); refine (HT3.out _ TT.out).mono ?_; rintro e w4 ⟨rfl, T3⟩; have NB := Lib.hid (HB.out.keep T3); have d6 := NB.out 8 _ rfl) | (go_at_call 80; refine (HT4.out _ (TT.out.trans0 T3)).mono ?_; rintro e w5 ⟨rfl, T4⟩))
    go_meet
    exact ⟨by rw [hp.out], TT.out.trans0 T3, HB.out.keep T3⟩
   | true =>
    have hp : Hid (ow = q4) := by rw [Hid, <- HOW.out]; rfl
    go_wp2_with (first | (go_at_call 80; (fail_if_success (have q := T3)); refine (HT3.out _ TT.out).mono ?_; rintro e w4 ⟨rfl, T3⟩; have NB := Lib.hid (HB.out.keep T3); have d6 := NB.out 8 _ rfl) | (go_at_call 80; refine (HT4.out _ (TT.out.trans0 T3)).mono ?_; rintro e w5 ⟨rfl, T4⟩))
    go_meet
    exact ⟨by rw [hp.out], (TT.out.trans0 T3).trans0 T4, (HB.out.keep T3).keep T4⟩
  case rest =>
  clear TT HB c7
  obtain ⟨rfl, TT, HB⟩ := hcut
  clear HOW HT3 HT4
  obtain ⟨w4, hw4⟩ : ∃ x, x = wc := ⟨_, rfl⟩
  subst hw4
  have c0 := HB.out 0 _ rfl
  have c1 := HB.out 1 _ rfl
  have c2 := HB.out 2 _ rfl
  have c3 := HB.out 3 _ rfl
  have c4 := HB.out 4 _ rfl
  have c5 := HB.out 5 _ rfl
  have c6 := HB.out 6 _ rfl
  have c7 := HB.out 7 _ rfl
  have c8 := HB.out 8 _ rfl
  cases hd with
  | false =>
   have HE : Hid (res = false) := by rw [Hid, <- HRES.out]; simp
   go_wp2_with fail
   go_ret
   exact ⟨ret_b HE.out.symm, TT.out⟩
  | true =>
  cases ls with
  | false =>
   have HE : Hid (res = false) := by rw [Hid, <- HRES.out]; simp
   go_wp2_with fail
   go_ret
   exact ⟨ret_b HE.out.symm, TT.out⟩
  | true =>
  cases ow with
  | false =>
   have HE : Hid (res = false) := by rw [Hid, <- HRES.out]; simp
   go_wp2_with fail
   go_ret
   exact ⟨ret_b HE.out.symm, TT.out⟩
  | true =>
  have HM2 := Lib.hid (HMS.out rfl rfl)
  have HS2 := Lib.hid (HSI.out rfl)
  clear HMS HSI
  cases hn : decide ((nm : Int) <= 72) with
  | false =>
   have HE : Hid (res = false) := by rw [Hid, <- HRES.out, hn]; simp
   go_wp2_with fail
   go_ret
   exact ⟨ret_b HE.out.symm, TT.out⟩
  | true =>
  have HE : Hid (res = (q5 && q6)) := by rw [Hid, <- HRES.out, hn]; simp
  clear HRES
  cases q5 with
  | false =>
   go_wp2_with (first | (go_at_call 83; refine (HM2.out _ TT.out).mono ?_; rintro e w5 ⟨rfl, T5⟩; have NB := Lib.hid (HB.out.keep T5); have z0 := NB.out 0 _ rfl; have z1 := NB.out 1 _ rfl; have z2 := NB.out 2 _ rfl; have z3 := NB.out 3 _ rfl; have z4 := NB.out 4 _ rfl; have z5 := NB.out 5 _ rfl; have z6 := NB.out 6 _ rfl; have z7 := NB.out 7 _ rfl; have z8 := NB.out 8 _ rfl; skip) | (go_at_call 84; refine (HS2.out _ (TT.out.trans0 T5)).mono ?_; rintro e w6 ⟨rfl, T6⟩))
   go_ret
   exact ⟨ret_b HE.out.symm, TT.out.trans0 T5⟩
  | true =>
   go_wp2_with (first | (go_at_call 83; refine (HM2.out _ TT.out).mono ?_; rintro e w5 ⟨rfl, T5⟩; have NB := Lib.hid (HB.out.keep T5); have z0 := NB.out 0 _ rfl; have z1 := NB.out 1 _ rfl; have z2 := NB.out 2 _ rfl; have z3 := NB.out 3 _ rfl; have z4 := NB.out 4 _ rfl; have z5 := NB.out 5 _ rfl; have z6 := NB.out 6 _ rfl; have z7 := NB.out 7 _ rfl; have z8 := NB.out 8 _ rfl; skip) | (go_at_call 84; refine (HS2.out _ (TT.out.trans0 T5)).mono ?_; rintro e w6 ⟨rfl, T6⟩))
   go_ret
   exact ⟨ret_b HE.out.symm, (TT.out.trans0 T5).trans0 T6⟩
end
section
open Go.RowKit Go.Maps
theorem pend_take (l : List BrM) {k : Nat} (hk : k < l.length) : ((l.take (k + 1)).map (·.puts.length)).sum = ((l.take k).map (·.puts.length)).sum + l[k].puts.length := by
 rw [List.take_succ_eq_append_getElem hk, List.map_append, List.sum_append_nat]
 simp
theorem pend_le (l : List BrM) (k : Nat) : ((l.take k).map (·.puts.length)).sum <= (l.map (·.puts.length)).sum := by
 have e := congrArg (fun x : List BrM => (x.map (·.puts.length)).sum) (List.take_append_drop k l)
 simp only [List.map_append, List.sum_append_nat] at e
 omega
theorem pend_may {s : StM} (h : MayP s) : pendingM s <= 20000 := by
 have hw := h.waits
 have hl := h.lw
 unfold pendingM
 have : ∀ (l : List BrM), (∀ w ∈ l, w.puts.length <= 10) -> (l.map (·.puts.length)).sum <= 10 * l.length := by
  intro l
  induction l with
  | nil => intro _; simp
  | cons a r ih =>
   intro h
   have h1 := h a (by simp)
   have h2 := ih (fun w hw => h w (by simp [hw]))
   simp only [List.map_cons, List.sum_cons, List.length_cons]
   omega
 have := this s.waits (fun w hm => (hw w hm).len)
 omega
theorem ret_e {n m : Nat} (h : m = n) : Ending.returned (.int .i64 ((n : Nat) : Int)) = .returned (.int .i64 ((m : Nat) : Int)) := by rw [h]
theorem IsRec.shape {w : World} {v : Value} {r : RecM} (h : IsRec w v r) : ∃ ap cp au cu, v = .agg #[.int .i64 r.kind, .int .i64 r.tid, .int .i64 r.id, .bool r.yes, .slice ap r.parts.length cp, .slice au r.puts.length cu] /\ IsInts w (.slice ap r.parts.length cp) r.parts /\ IsPuts w (.slice au r.puts.length cu) r.puts := by
 obtain ⟨vp, vu, rfl, h1, h2⟩ := h
 obtain ⟨ap, cp, rfl, _⟩ := CellsAt.shape h1
 obtain ⟨au, cu, rfl, _⟩ := CellsAt.shape h2
 exact ⟨ap, cp, au, cu, rfl, h1, h2⟩
end
section
open Go.RowKit Go.Maps
theorem smsg1_any (i1 : Int) (sq sb : ByteArray) (s1 c1 w1 t : Int) (ib : Nat) (w : World) (hc : w.cell? ⟨ib, 0, none⟩ = some (.int .i64 t)) :
  Calls Tryz.prog 216 #[.agg #[.int .i64 i1, .string sq, .string sb, .int .i64 s1, .int .i64 c1, .int .i64 w1], .pointer (some ⟨ib, 0, none⟩)] w fun e w' => e = .returned (.bool (i1 == t)) /\ Tch No w w' := by
 have hc2 := cal hc
 go_enter Tryz.func216, Tryz.ntmps216
 go_wp2_with fail
 go_ret
 exact ⟨rfl, Tch.alloc _ _⟩
theorem sindex_msg (l : List MsgM) (t : Int) (ib : Nat) (v : Value) (w : World) (h : IsMsgs w v l) (hc : w.cell? ⟨ib, 0, none⟩ = some (.int .i64 t)) :
  Calls Tryz.prog 99 #[v, .func (.func 216) #[] #[.pointer (some ⟨ib, 0, none⟩)]] w fun e w' => e = .returned (.int .i64 (atI (·.id) l t)) /\ Tch No w w' := by
 obtain ⟨a, c, rfl, _⟩ := CellsAt.shape h
 have H := Lib.hid h
 have HC := Lib.hid hc
 obtain ⟨n, hn⟩ : ∃ n, l.length = n := ⟨_, rfl⟩
 rw [hn] at H ⊢
 have HN := Lib.hid hn
 have hml : n <= 9223372036854775807 := by
  obtain ⟨_, c, _, h1, h2⟩ := CellsAt.shape H.out
  unfold maxLen at h2; omega
 clear h hc hn
 go_enter Tryz.func99, Tryz.ntmps99
 go_wp2_with fail
 go_loopg [8] n (fun kx sx wr => ∃ k : Nat, sx = .int .i64 k /\ k <= n /\ n - k <= kx /\ Hid (Tch No w wr) /\ Hid (∀ i (hi : i < l.length), i < k -> l[i].id ≠ t))
 case atStart => exact ⟨0, rfl, Nat.zero_le _, by omega, Tch.refl _ _, fun i _ h => absurd h (Nat.not_lt_zero _)⟩
 case round =>
  obtain ⟨k, rfl, hk, hgk, TT, I⟩ := hrel
  by_cases hlt : k < n
  ·have hkl : k < l.length := by have := HN.out; omega
   have hb : ∃ b o, a = some ⟨b, o, none⟩ /\ wr.cell? ⟨b, o + k * 6, none⟩ = some (.int .i64 l[k].id) /\ wr.cell? ⟨b, o + k * 6 + 1, none⟩ = some (strV l[k].q) /\ wr.cell? ⟨b, o + k * 6 + 2, none⟩ = some (strV l[k].b) /\
     wr.cell? ⟨b, o + k * 6 + 3, none⟩ = some (.int .i64 l[k].seq) /\ wr.cell? ⟨b, o + k * 6 + 4, none⟩ = some (.int .i64 l[k].cnt) /\ wr.cell? ⟨b, o + k * 6 + 5, none⟩ = some (.int .i64 l[k].who) := by
    rcases msgs_cells H.out with ⟨_, h0⟩ | ⟨b, o, cap2, h1, _, _, _, h5⟩
    ·rw [h0] at hkl; simp at hkl
    ·rw [HN.out] at h1
     injection h1 with h1 _ _
     obtain ⟨g0, g1, g2, g3, g4, g5⟩ := h5 k hkl
     exact ⟨b, o, h1, TT.out.cell g0 (fun h => h), TT.out.cell g1 (fun h => h), TT.out.cell g2 (fun h => h), TT.out.cell g3 (fun h => h), TT.out.cell g4 (fun h => h), TT.out.cell g5 (fun h => h)⟩
   obtain ⟨b, o, rfl, e0, e1, e2, e3, e4, e5⟩ := hb
   obtain ⟨m, hm⟩ : ∃ m, l[k] = m := ⟨_, rfl⟩
   have HM := Lib.hid hm
   rw [hm] at e0 e1 e2 e3 e4 e5
   obtain ⟨i1, tq, tb, s1, c1, w1⟩ := m
   simp only at e0 e1 e2 e3 e4 e5
   obtain ⟨sq, hsq⟩ : ∃ z, strV tq = .string z := ⟨_, rfl⟩
   obtain ⟨sb, hsb⟩ : ∃ z, strV tb = .string z := ⟨_, rfl⟩
   rw [hsq] at e1
   rw [hsb] at e2
   have HF : Hid (∀ W, Tch No w W -> Calls Tryz.prog 216 #[.agg #[.int .i64 i1, .string sq, .string sb, .int .i64 s1, .int .i64 c1, .int .i64 w1], .pointer (some ⟨ib, 0, none⟩)] W fun e w' => e = .returned (.bool (i1 == t)) /\ Tch No W w') := fun W T => smsg1_any i1 sq sb s1 c1 w1 t ib W (T.cell HC.out (fun h => h))
   clear hm hsq hsb
   by_cases hit : i1 = t
   ·have HA : Hid (atI (fun x : MsgM => x.id) l t = (k : Int)) := atI_hit hkl (by rw [HM.out]; exact hit) I.out
    have hd : (i1 == t) = true := by simpa using hit
    rw [hd] at HF
    clear hit hd
    go_wp2_with (go_at_call 216; refine (HF.out _ TT.out).mono ?_; rintro e w3 ⟨rfl, T3⟩)
    go_ret
    exact ⟨ret_i HA.out.symm, TT.out.trans0 T3⟩
   ·have hd : (i1 == t) = false := by simpa using hit
    have HI : Hid (∀ i (hi : i < l.length), i < k + 1 -> l[i].id ≠ t) := fun i h1 h2 => by
     by_cases e : i = k
     ·subst e; rw [HM.out]; exact hit
     ·exact I.out i h1 (by omega)
    rw [hd] at HF
    clear hit hd
    go_wp2_with (go_at_call 216; refine (HF.out _ TT.out).mono ?_; rintro e w3 ⟨rfl, T3⟩)
    go_roundg (n - (k + 1))
    case measure => omega
    case rel => exact ⟨k + 1, by go_num, by omega, by omega, TT.out.trans0 T3, HI⟩
  ·obtain rfl : n = k := by omega
   have HA : Hid (atI (fun x : MsgM => x.id) l t = -1) := atI_miss (fun i hi => I.out i hi (by have := HN.out; omega))
   clear hgk hlt hk
   go_wp2_with fail
   go_ret
   exact ⟨ret_i HA.out.symm, TT.out⟩
theorem smessage_any (s : StM) (t : Int) (v : Value) (w : World) (h : IsSt w v s) :
  Calls Tryz.prog 166 #[v, .int .i64 t] w fun e w' => e = .returned (.int .i64 (atI (·.id) s.ms t)) /\ Tch No w w' := by
 obtain ⟨am, cm, aw, cw, ae, ce, ao, co, an, cn, nm, nw, ne, no, nn, hval, HMSL, HNM, hlnm, HWSL, HNW, hlnw, HESL, HNE, hlne, HOSL, HNO, hlno, HNSL, HNN, hlnn⟩ := st_pre h
 have HX : Hid (∀ W, Tch No w W -> W.cell? ⟨w.heap.size + 1, 0, none⟩ = some (.int .i64 t) -> Calls Tryz.prog 99 #[.slice am nm cm, .func (.func 216) #[] #[.pointer (some ⟨w.heap.size + 1, 0, none⟩)]] W fun e w' => e = .returned (.int .i64 (atI (·.id) s.ms t)) /\ Tch No W w') := fun W T hc => sindex_msg s.ms t _ _ W (HMSL.out.keep T) hc
 clear h
 subst hval
 have hcc := Lib.hid (box2_cell w #[.int .i64 t] 2 (.cells #[.int .i64 s.broker, .int .i64 s.nid, .int .i64 s.nseq, .int .i64 s.tx, .slice am nm cm, .slice aw nw cw, .slice ae ne ce, .slice ao no co, .slice an nn cn] 29) 0 (by simp))
 go_enter Tryz.func166, Tryz.ntmps166
 go_wp2_with (go_at_call 99; refine (HX.out _ ((Tch.alloc _ _).trans0 (Tch.alloc _ _)) hcc.out).mono ?_; rintro e w3 ⟨rfl, T3⟩)
 go_ret
 exact ⟨rfl, ((Tch.alloc _ _).trans0 (Tch.alloc _ _)).trans0 T3⟩
theorem sfits_any (s : StM) (hm : MayP s) (m : Nat) (hm2 : m <= 1000000) (v : Value) (w : World) (h : IsSt w v s) :
  Calls Tryz.prog 171 #[v, .int .i64 (m : Nat)] w fun e w' => e = .returned (.bool (fitsB s m)) /\ Tch No w w' := by
 obtain ⟨am, cm, aw, cw, ae, ce, ao, co, an, cn, nm, nw, ne, no, nn, hval, HMSL, HNM, hlnm, HWSL, HNW, hlnw, HESL, HNE, hlne, HOSL, HNO, hlno, HNSL, HNN, hlnn⟩ := st_pre h
 have hpm := pend_may hm
 have hni := hm.nid
 have hns := hm.nseq
 have hms := hm.lms
 rw [HNM.out] at hms
 have HPM := Lib.hid hpm
 obtain ⟨hn1, hn2⟩ := hni
 obtain ⟨hs1, hs2⟩ := hns
 clear h hm
 subst hval
 go_enter Tryz.func171, Tryz.ntmps171
 go_wp2_with fail
 go_loopg [1, 10] nw (fun kx s1 s10 wr => ∃ k n : Nat, s10 = .int .i64 k /\ s1 = .int .i64 n /\ k <= nw /\ nw - k <= kx /\ n <= 1020000 /\ Hid (n = m + ((s.waits.take k).map (·.puts.length)).sum) /\ Hid (Tch No w wr) /\ Hid (BoxAt wr w.heap.size [.int .i64 s.broker, .int .i64 s.nid, .int .i64 s.nseq, .int .i64 s.tx, .slice am nm cm, .slice aw nw cw, .slice ae ne ce, .slice ao no co, .slice an nn cn]))
 case atStart => exact ⟨0, m, rfl, rfl, Nat.zero_le _, by omega, by omega, by simp [Hid], Tch.alloc _ _, BoxAt.made _ _ _⟩
 case round =>
  obtain ⟨k, n, rfl, rfl, hk, hgk, hn, HN0, TT, HB⟩ := hrel
  by_cases hlt : k < nw
  ·have hkl : k < s.waits.length := by have := HNW.out; omega
   have hb : ∃ b o, aw = some ⟨b, o, none⟩ /\ ∃ t, wr.cell? ⟨b, o + k * 2, none⟩ = some (.int .i64 t) /\ ∃ a c, wr.cell? ⟨b, o + k * 2 + 1, none⟩ = some (.slice a s.waits[k].puts.length c) := by
    rcases brs_cells HWSL.out with ⟨_, h0⟩ | ⟨b, o, cap2, h1, _, _, _, h5⟩
    ·rw [h0] at hkl; simp at hkl
    ·rw [HNW.out] at h1
     injection h1 with h1 _ _
     obtain ⟨g1, a, c, g2, g3⟩ := h5 k hkl
     exact ⟨b, o, h1, _, TT.out.cell g1 (fun h => h), a, c, TT.out.cell g2 (fun h => h)⟩
   obtain ⟨b, o, rfl, t, e0, pa, pc, e1⟩ := hb
   have hsum := pend_take s.waits hkl
   have hle := pend_le s.waits (k + 1)
   obtain ⟨q, hq⟩ : ∃ q, s.waits[k].puts.length = q := ⟨_, rfl⟩
   rw [hq] at e1 hsum
   have HS : Hid (n + q = m + ((s.waits.take (k + 1)).map (·.puts.length)).sum) := by rw [Hid, hsum, HN0.out]; omega
   have hnm : n + q <= 1020000 := by have := HS.out; have := HPM.out; unfold pendingM at this; omega
   clear hsum hle hq
   go_wp2_with fail
   go_roundg (nw - (k + 1))
   case measure => omega
   case rel => exact ⟨k + 1, n + q, by go_num, by go_num, by omega, by omega, hnm, HS, TT.out.trans0 (Tch.alloc _ _), HB.out.keep (Tch.alloc _ _)⟩
  ·obtain rfl : nw = k := by omega
   have hp : m + pendingM s = n := by rw [HN0.out, pendingM, List.take_of_length_le (by have := HNW.out; omega)]
   have HF : Hid (fitsB s m = ((decide ((n : Int) <= 4294967296 - s.nid) && decide ((n : Int) <= 72 - (nm : Int))) && decide ((n : Int) <= 1099511627776 - s.nseq))) := by
    rw [Hid, fitsB, HNM.out]
    have e1 : ((pendingM s + m : Nat) : Int) = (n : Int) := by omega
    have e2 : decide (pendingM s + m + nm <= 72) = decide ((n : Int) <= 72 - (nm : Int)) := by congr 1; simp only [eq_iff_iff]; omega
    rw [e1, e2]
   have c1 := HB.out 1 _ rfl
   have c2 := HB.out 2 _ rfl
   have c4 := HB.out 4 _ rfl
   clear hgk hk hlt hp
   by_cases l1 : (n : Int) <= 4294967296 - s.nid
   case neg =>
    have HN : Hid (fitsB s m = false) := by rw [Hid, HF.out]; simp [l1]
    go_wp2_with fail
    go_ret
    exact ⟨ret_b HN.out.symm, TT.out⟩
   by_cases l2 : (n : Int) <= 72 - (nm : Int)
   case neg =>
    have HN : Hid (fitsB s m = false) := by rw [Hid, HF.out]; simp [l2]
    go_wp2_with fail
    go_ret
    exact ⟨ret_b HN.out.symm, TT.out⟩
   have HN : Hid (fitsB s m = decide ((n : Int) <= 1099511627776 - s.nseq)) := by rw [Hid, HF.out]; simp [l1, l2]
   go_wp2_with fail
   go_ret
   exact ⟨ret_b HN.out.symm, TT.out⟩
end
end Go.Proofs.YtafndmnbnmlklaaGreat
