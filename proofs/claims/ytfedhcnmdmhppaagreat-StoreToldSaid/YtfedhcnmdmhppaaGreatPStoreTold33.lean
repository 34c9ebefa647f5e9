/- Part 33 of what the proof of StoreTold rests on. No condition. -/
import Derived.Test.YtfedhcnmdmhppaaGreatPStoreTold02
import Derived.Test.YtfedhcnmdmhppaaGreatPStoreTold09
import Derived.Test.YtfedhcnmdmhppaaGreatPStoreTold10
import Derived.Test.YtfedhcnmdmhppaaGreatPStoreTold11
import Derived.Test.YtfedhcnmdmhppaaGreatPStoreTold12
namespace Go.Proofs.YtfedhcnmdmhppaaGreat
set_option maxRecDepth 100000
set_option maxHeartbeats 60000000
set_option linter.unusedVariables false
set_option linter.unusedSimpArgs false
section
open Go.RowKit Go.Maps
def stEmpty (br nid nseq : Int) : Value := .agg #[.int .i64 br, .int .i64 nid, .int .i64 nseq, .int .i64 0, .slice none 0 0, .slice none 0 0, .slice none 0 0, .slice none 0 0, .slice none 0 0]
theorem isst_empty (w : World) (br nid nseq : Int) : IsSt w (stEmpty br nid nseq) ⟨br, nid, nseq, 0, [], [], [], [], []⟩ :=
 ⟨_, _, _, _, _, rfl, CellsAt.nil _ _, ⟨[], rfl, CellsAt.nil _ _, fun i h => absurd h (Nat.not_lt_zero _)⟩, CellsAt.nil _ _, ⟨[], rfl, CellsAt.nil _ _, fun i h => absurd h (Nat.not_lt_zero _)⟩, ⟨[], rfl, CellsAt.nil _ _, fun i h => absurd h (Nat.not_lt_zero _)⟩⟩
theorem snew_any (b : Int) (w : World) :
  Calls Tryz.prog 22 #[.int .i64 b] w fun e w' => ∃ v, e = .returned v /\ IsSt w' v (newM b) /\ Tch No w w' := by
 have HB := Lib.hid (fun W => kbroker_any b W)
 have HN : Hid (newM b = if brokerB b = true then ⟨b, 1, 1, 0, [], [], [], [], []⟩ else ⟨0, 0, 0, 0, [], [], [], [], []⟩) := by
  rw [Hid]; unfold newM brokerB; simp
 obtain ⟨x, hx⟩ : ∃ x, brokerB b = x := ⟨_, rfl⟩
 rw [hx] at HB HN
 clear hx
 cases x with
 | true =>
  go_enter Tryz.func22, Tryz.ntmps22
  go_wp2_with (go_at_call 46; refine (HB.out _).mono ?_; rintro e w' ⟨rfl, rfl⟩)
  exact bodyPost_ret (v := stEmpty b 1 1) (by unfold stEmpty; simp [results, Tryz.results22, go_sem]) rfl ⟨_, rfl, by rw [HN.out]; exact isst_empty _ _ _ _, Tch.alloc _ _⟩
 | false =>
  go_enter Tryz.func22, Tryz.ntmps22
  go_wp2_with (go_at_call 46; refine (HB.out _).mono ?_; rintro e w' ⟨rfl, rfl⟩)
  exact bodyPost_ret (v := stEmpty 0 0 0) (by unfold stEmpty; simp [results, Tryz.results22, go_sem]) rfl ⟨_, rfl, by rw [HN.out]; exact isst_empty _ _ _ _, Tch.alloc _ _⟩
end
section
open Go.RowKit Go.Maps
def tidsB (l : List Int) (n : Nat) : Bool := (l.all tidB && strictB l) && decide ((n : Int) <= 2000)
def headB (s : StM) : Bool := ((brokerB s.broker && (decide (1 <= s.nid) && decide (s.nid <= 4294967296))) && (decide (1 <= s.nseq) && decide (s.nseq <= 1099511627776))) && (decide (0 <= s.tx) && decide (s.tx <= 200))
def listsB (s : StM) : Bool := tidsB (s.waits.map (·.tid)) s.waits.length && tidsB (s.ends.map (·.tid)) s.ends.length
def ownB (s : StM) : Bool := tidsB (s.opens.map (·.tid)) s.opens.length && tidsB (s.noes.map (·.tid)) s.noes.length
def mayAll (s : StM) : Bool := ((((headB s && listsB s) && ownB s) && decide ((s.ms.length : Int) <= 72)) && msB s) && sides0 s
theorem tidsB_iff {l : List Int} {n : Nat} : tidsB l n = true ↔ ((∀ x ∈ l, tidB x = true) /\ strictB l = true) /\ n <= 2000 := by
 unfold tidsB
 rw [Bool.and_eq_true, Bool.and_eq_true, List.all_eq_true, decide_eq_true_eq]
 constructor
 ·rintro ⟨h, h2⟩; exact ⟨h, by omega⟩
 ·rintro ⟨h, h2⟩; exact ⟨h, by omega⟩
theorem rec4_iff {t : Int} {ps : List PutM} : recB ⟨4, t, 0, false, [], ps⟩ = true ↔ tidB t = true /\ ps.length <= 10 /\ ps.all putB = true := by
 unfold recB
 simp [Bool.and_eq_true]
theorem rec6_iff {t : Int} {l : List Int} : recB ⟨6, t, 0, false, l, []⟩ = true ↔ tidB t = true /\ (1 <= l.length /\ l.length <= 7) /\ risingB l = true := by
 unfold recB
 simp [Bool.and_eq_true]
theorem yes_any {l : List EndM} (hs : strictB (l.map (·.tid)) = true) (t : Int) : (hasP (·.tid) l t = true /\ yesAt l t = false) ↔ ∃ e ∈ l, e.tid = t /\ e.yes = false := by
 constructor
 ·rintro ⟨h1, h2⟩
  obtain ⟨hp, e⟩ := (hasP_pos hs t).1 h1
  refine ⟨l[posP (·.tid) l t], List.getElem_mem hp, e, ?_⟩
  unfold yesAt at h2
  rw [List.getElem?_eq_getElem hp] at h2
  exact h2
 ·rintro ⟨e, he, h1, h2⟩
  have hh : hasP (·.tid) l t = true := hasP_iff.2 ⟨e, he, h1⟩
  refine ⟨hh, ?_⟩
  obtain ⟨hp, ep⟩ := (hasP_pos hs t).1 hh
  obtain ⟨i, hi, rfl⟩ := List.getElem_of_mem he
  have hii : i = posP (·.tid) l t := by
   rcases Nat.lt_trichotomy i (posP (·.tid) l t) with h | h | h
   ·have := strictB_get hs (i := i) (j := posP (·.tid) l t) h (by simpa using hp)
    simp only [List.getElem_map] at this
    omega
   ·exact h
   ·have := strictB_get hs (i := posP (·.tid) l t) (j := i) h (by simpa using hi)
    simp only [List.getElem_map] at this
    omega
  unfold yesAt
  rw [<- hii, List.getElem?_eq_getElem hi]
  exact h2
theorem mayAll_eq (s : StM) : mayAll s = mayM s := by
 rw [Bool.eq_iff_iff, may_iff]
 unfold mayAll headB listsB ownB sides0 brokerB msB
 simp only [Bool.and_eq_true, decide_eq_true_eq, tidsB_iff, List.all_eq_true, List.mem_map, forall_exists_index, and_imp, forall_apply_eq_imp_iff₂]
 constructor
 ·rintro ⟨⟨⟨⟨⟨⟨⟨⟨h1, h2⟩, h3⟩, h4⟩, ⟨⟨w1, w2⟩, w3⟩, ⟨⟨e1, e2⟩, e3⟩⟩, ⟨⟨o1, o2⟩, o3⟩, ⟨⟨n1, n2⟩, n3⟩⟩, h5⟩, ⟨m1, m2⟩, m3⟩, s1, s2, s3⟩
  refine ⟨h1, h2, h3, h4, by omega, w3, e3, o3, n3, fun m hm => (msgB_iff s m).1 (m1 m hm), m2, m3, e1, e2, ?_, w2, ?_, o2, ?_, n2⟩
  ·intro w hw
   have := s1 w hw
   unfold side1 at this
   rw [Bool.and_eq_true, rec4_iff, Bool.not_eq_true'] at this
   exact ⟨this.2.1, this.1, this.2.2.1, this.2.2.2⟩
  ·intro p hp
   have := s2 p hp
   unfold side2 pendOk at this
   simp only [Bool.and_eq_true, rec6_iff, Bool.not_eq_true', decide_eq_true_eq] at this
   obtain ⟨q1, q2, ⟨⟨q3, q4, q5⟩, q6⟩, q7⟩ := this
   exact ⟨⟨q6, q4, q5, q7⟩, q1, q2⟩
  ·intro p hp
   have := s3 p hp
   unfold side3 pendOk at this
   simp only [Bool.and_eq_true, rec6_iff, Bool.not_eq_true', decide_eq_true_eq] at this
   obtain ⟨q1, q2, ⟨⟨q3, q4, q5⟩, q6⟩, q7⟩ := this
   exact ⟨⟨q6, q4, q5, q7⟩, (yes_any e2 p.tid).1 ⟨q1, q2⟩⟩
 ·intro h
  have hb := h.br
  have tid_of : ∀ t, homeM t = s.broker -> tidB t = true := fun t ht => by unfold tidB; simp only [decide_eq_true_eq]; omega
  refine ⟨⟨⟨⟨⟨⟨⟨⟨h.br, h.nid⟩, h.nseq⟩, h.tx⟩, ⟨⟨fun w hw => (h.waits w hw).tid, h.waits2⟩, h.lw⟩, ⟨⟨h.ends, h.ends2⟩, h.le⟩⟩, ⟨⟨fun p hp => tid_of _ (h.opens p hp).1.home, h.opens2⟩, h.lo⟩, ⟨⟨fun p hp => tid_of _ (h.noes p hp).1.home, h.noes2⟩, h.ln⟩⟩, by have := h.lms; omega⟩, ⟨fun m hm => (msgB_iff s m).2 (h.ms m hm), h.mseq⟩, h.mids⟩, ?_, ?_, ?_⟩
  ·intro w hw
   have k := h.waits w hw
   unfold side1
   rw [Bool.and_eq_true, rec4_iff, Bool.not_eq_true']
   exact ⟨k.no, k.tid, k.len, k.puts⟩
  ·intro p hp
   obtain ⟨k, k1, k2⟩ := h.opens p hp
   unfold side2 pendOk
   simp only [Bool.and_eq_true, rec6_iff, Bool.not_eq_true', decide_eq_true_eq]
   exact ⟨k1, k2, ⟨⟨tid_of _ k.home, k.len, k.rising⟩, k.home⟩, k.other⟩
  ·intro p hp
   obtain ⟨k, k1⟩ := h.noes p hp
   have := (yes_any h.ends2 p.tid).2 k1
   unfold side3 pendOk
   simp only [Bool.and_eq_true, rec6_iff, Bool.not_eq_true', decide_eq_true_eq]
   exact ⟨this.1, this.2, ⟨⟨tid_of _ k.home, k.len, k.rising⟩, k.home⟩, k.other⟩
theorem may_any (s : StM) (hok : OkSt s) (v : Value) (w : World) (h : IsSt w v s) :
  Calls Tryz.prog 18 #[v] w fun e w' => e = .returned (.bool (mayM s)) /\ Tch No w w' := by
 rw [<- mayAll_eq]
 obtain ⟨am, cm, aw, cw, ae, ce, ao, co, an, cn, hv, hms, hws, hes, hos, hns⟩ := h.shape
 have hval : v = .agg #[.int .i64 s.broker, .int .i64 s.nid, .int .i64 s.nseq, .int .i64 s.tx, .slice am s.ms.length cm, .slice aw s.waits.length cw, .slice ae s.ends.length ce, .slice ao s.opens.length co, .slice an s.noes.length cn] := hv
 have HMS : Hid (headB s = true -> listsB s = true -> ∀ W, Tch No w W -> Calls Tryz.prog 55 #[v] W fun e w' => e = .returned (.bool (msB s)) /\ Tch No W w') := fun h1 h2 W T => by
  unfold headB brokerB at h1
  unfold listsB at h2
  simp only [Bool.and_eq_true, decide_eq_true_eq, tidsB_iff] at h1 h2
  exact mayms_any s hok h1.1.1.1.1 h2.2.1.2 (by have := h2.2.2; omega) v W (h.keep T)
 have HSI : Hid (listsB s = true -> ∀ W, Tch No w W -> Calls Tryz.prog 56 #[v] W fun e w' => e = .returned (.bool (sides0 s)) /\ Tch No W w') := fun h2 W T => by
  unfold listsB at h2
  simp only [Bool.and_eq_true, tidsB_iff] at h2
  exact maysides_any s hok h2.2.1.2 (by have := h2.2.2; omega) h2.1.1.2 (by have := h2.1.2; omega) v W (h.keep T)
 have HT1 : Hid (∀ W, Tch No w W -> Calls Tryz.prog 48 #[.slice aw s.waits.length cw, .func (.func 49) #[] #[]] W fun e w' => e = .returned (.bool (tidsB (s.waits.map (·.tid)) s.waits.length)) /\ Tch No W w') := fun W T => by
  obtain ⟨vs, h1, h2, h3⟩ := hws.keep T
  have hz : ((s.waits.map (·.tid)).zip vs).length = s.waits.length := by rw [List.length_zip, List.length_map, h1, Nat.min_self]
  have hz2 := zip_fst (l := s.waits.map (·.tid)) (vs := vs) (by simpa using h1)
  have := tids1 Prod.fst Prod.snd ((s.waits.map (·.tid)).zip vs) (fun x hx => by
   obtain ⟨y, hy, e⟩ := List.mem_map.1 (List.of_mem_zip (a := x.1) (b := x.2) hx).1
   rw [<- e]; exact (hok.waits y hy).1) _ W (by rw [hz]; exact h2) (fun x hx => by
   obtain ⟨i, hi, e⟩ := List.getElem_of_mem (List.of_mem_zip (a := x.1) (b := x.2) hx).2
   obtain ⟨a, c, ea, _⟩ := CellsAt.shape (h3 i (by omega) hi)
   rw [<- e]; exact ⟨a, _, c, ea⟩)
  rw [hz, hz2] at this
  exact this
 have HT2 : Hid (∀ W, Tch No w W -> Calls Tryz.prog 50 #[.slice ae s.ends.length ce, .func (.func 51) #[] #[]] W fun e w' => e = .returned (.bool (tidsB (s.ends.map (·.tid)) s.ends.length)) /\ Tch No W w') := fun W T =>
  tids2 (fun e : EndM => e.tid) (fun e => .bool e.yes) s.ends (fun x hx => hok.ends x hx) _ W (hes.keep T) (fun x _ => ⟨_, rfl⟩)
 have HT3 : Hid (∀ W, Tch No w W -> Calls Tryz.prog 52 #[.slice ao s.opens.length co, .func (.func 53) #[] #[]] W fun e w' => e = .returned (.bool (tidsB (s.opens.map (·.tid)) s.opens.length)) /\ Tch No W w') := fun W T => by
  obtain ⟨vs, h1, h2, h3⟩ := hos.keep T
  have hz : ((s.opens.map (·.tid)).zip vs).length = s.opens.length := by rw [List.length_zip, List.length_map, h1, Nat.min_self]
  have hz2 := zip_fst (l := s.opens.map (·.tid)) (vs := vs) (by simpa using h1)
  have := tids3 Prod.fst Prod.snd ((s.opens.map (·.tid)).zip vs) (fun x hx => by
   obtain ⟨y, hy, e⟩ := List.mem_map.1 (List.of_mem_zip (a := x.1) (b := x.2) hx).1
   rw [<- e]; exact (hok.opens y hy).1) _ W (by rw [hz]; exact h2) (fun x hx => by
   obtain ⟨i, hi, e⟩ := List.getElem_of_mem (List.of_mem_zip (a := x.1) (b := x.2) hx).2
   obtain ⟨a, c, ea, _⟩ := CellsAt.shape (h3 i (by omega) hi)
   rw [<- e]; exact ⟨a, _, c, ea⟩)
  rw [hz, hz2] at this
  exact this
 have HT4 : Hid (∀ W, Tch No w W -> Calls Tryz.prog 52 #[.slice an s.noes.length cn, .func (.func 54) #[] #[]] W fun e w' => e = .returned (.bool (tidsB (s.noes.map (·.tid)) s.noes.length)) /\ Tch No W w') := fun W T => by
  obtain ⟨vs, h1, h2, h3⟩ := hns.keep T
  have hz : ((s.noes.map (·.tid)).zip vs).length = s.noes.length := by rw [List.length_zip, List.length_map, h1, Nat.min_self]
  have hz2 := zip_fst (l := s.noes.map (·.tid)) (vs := vs) (by simpa using h1)
  have := tids4 Prod.fst Prod.snd ((s.noes.map (·.tid)).zip vs) (fun x hx => by
   obtain ⟨y, hy, e⟩ := List.mem_map.1 (List.of_mem_zip (a := x.1) (b := x.2) hx).1
   rw [<- e]; exact (hok.noes y hy).1) _ W (by rw [hz]; exact h2) (fun x hx => by
   obtain ⟨i, hi, e⟩ := List.getElem_of_mem (List.of_mem_zip (a := x.1) (b := x.2) hx).2
   obtain ⟨a, c, ea, _⟩ := CellsAt.shape (h3 i (by omega) hi)
   rw [<- e]; exact ⟨a, _, c, ea⟩)
  rw [hz, hz2] at this
  exact this
 have HBr := Lib.hid (fun W => kbroker_any s.broker W)
 have HB1 := Lib.hid (fun W => between_any s.nid 1 4294967296 W)
 have HB2 := Lib.hid (fun W => between_any s.nseq 1 1099511627776 W)
 have HB3 := Lib.hid (fun W => between_any s.tx 0 200 W)
 obtain ⟨res, hres⟩ : ∃ r, mayAll s = r := ⟨_, rfl⟩
 have HRES := Lib.hid hres
 rw [hres]
 obtain ⟨hd, hhd⟩ : ∃ r, headB s = r := ⟨_, rfl⟩
 obtain ⟨ls, hls⟩ : ∃ r, listsB s = r := ⟨_, rfl⟩
 obtain ⟨ow, how⟩ : ∃ r, ownB s = r := ⟨_, rfl⟩
 have HLM : Hid (s.ms.length <= 9223372036854775807) := by
  obtain ⟨_, c, _, h1, h2⟩ := CellsAt.shape hms
  rw [Hid]; unfold maxLen at h2; omega
 rw [mayAll, hhd, hls, how] at HRES
 rw [hhd, hls] at HMS
 rw [hls] at HSI
 have HHD := Lib.hid hhd
 have HLS := Lib.hid hls
 have HOW := Lib.hid how
 unfold headB at HHD
 unfold listsB at HLS
 unfold ownB at HOW
 clear hhd hls how h hv hms hws hes hos hns hok hres
 generalize brokerB s.broker = b0 at HHD HBr
 generalize (decide (1 <= s.nid) && decide (s.nid <= 4294967296)) = b1 at HHD HB1
 generalize (decide (1 <= s.nseq) && decide (s.nseq <= 1099511627776)) = b2 at HHD HB2
 generalize (decide (0 <= s.tx) && decide (s.tx <= 200)) = b3 at HHD HB3
 generalize tidsB (s.waits.map (·.tid)) s.waits.length = q1 at HLS HT1
 generalize tidsB (s.ends.map (·.tid)) s.ends.length = q2 at HLS HT2
 generalize tidsB (s.opens.map (·.tid)) s.opens.length = q3 at HOW HT3
 generalize tidsB (s.noes.map (·.tid)) s.noes.length = q4 at HOW HT4
 generalize msB s = q5 at HRES HMS
 generalize sides0 s = q6 at HRES HSI
 generalize s.ms.length = nm at hval HRES HLM
 generalize s.waits.length = nw at hval HT1
 generalize s.ends.length = ne at hval HT2
 generalize s.opens.length = no at hval HT3
 generalize s.noes.length = nn at hval HT4
 have hlm := HLM.out
 subst hval
 go_enter Tryz.func18, Tryz.ntmps18
 go_upto_region 1 with fail
 go_cut [3] from 6 to 23 (fun s3 wx => s3 = .bool hd /\ Hid (Tch No w wx) /\ Hid (BoxAt wx w.heap.size [.int .i64 s.broker, .int .i64 s.nid, .int .i64 s.nseq, .int .i64 s.tx, .slice am nm cm, .slice aw nw cw, .slice ae ne ce, .slice ao no co, .slice an nn cn]))
 case first =>
  clear HRES HLS HOW HMS HSI HT1 HT2 HT3 HT4
  cases b0 with
  | false =>
   have hp : Hid (hd = false) := by rw [Hid, <- HHD.out]; simp
   go_wp2_with (first | (go_at_call 46; refine (HBr.out _).mono ?_; rintro e w' ⟨rfl, rfl⟩) | (go_at_call 47; with_reducible refine (HB1.out _).mono ?_; rintro e w' ⟨rfl, rfl⟩) | (go_at_call 47; with_reducible refine (HB2.out _).mono ?_; rintro e w' ⟨rfl, rfl⟩) | (go_at_call 47; with_reducible refine (HB3.out _).mono ?_; rintro e w' ⟨rfl, rfl⟩))
   go_meet
   exact ⟨by rw [hp.out], (Tch.alloc _ _), BoxAt.made _ _ _⟩
  | true =>
  cases b1 with
  | false =>
   have hp : Hid (hd = false) := by rw [Hid, <- HHD.out]; simp
   go_wp2_with (first | (go_at_call 46; refine (HBr.out _).mono ?_; rintro e w' ⟨rfl, rfl⟩) | (go_at_call 47; with_reducible refine (HB1.out _).mono ?_; rintro e w' ⟨rfl, rfl⟩) | (go_at_call 47; with_reducible refine (HB2.out _).mono ?_; rintro e w' ⟨rfl, rfl⟩) | (go_at_call 47; with_reducible refine (HB3.out _).mono ?_; rintro e w' ⟨rfl, rfl⟩))
   go_meet
   exact ⟨by rw [hp.out], (Tch.alloc _ _), BoxAt.made _ _ _⟩
  | true =>
  cases b2 with
  | false =>
   have hp : Hid (hd = false) := by rw [Hid, <- HHD.out]; simp
   go_wp2_with (first | (go_at_call 46; refine (HBr.out _).mono ?_; rintro e w' ⟨rfl, rfl⟩) | (go_at_call 47; with_reducible refine (HB1.out _).mono ?_; rintro e w' ⟨rfl, rfl⟩) | (go_at_call 47; with_reducible refine (HB2.out _).mono ?_; rintro e w' ⟨rfl, rfl⟩) | (go_at_call 47; with_reducible refine (HB3.out _).mono ?_; rintro e w' ⟨rfl, rfl⟩))
   go_meet
   exact ⟨by rw [hp.out], (Tch.alloc _ _), BoxAt.made _ _ _⟩
  | true =>
  cases b3 with
  | false =>
   have hp : Hid (hd = false) := by rw [Hid, <- HHD.out]; simp
   go_wp2_with (first | (go_at_call 46; refine (HBr.out _).mono ?_; rintro e w' ⟨rfl, rfl⟩) | (go_at_call 47; with_reducible refine (HB1.out _).mono ?_; rintro e w' ⟨rfl, rfl⟩) | (go_at_call 47; with_reducible refine (HB2.out _).mono ?_; rintro e w' ⟨rfl, rfl⟩) | (go_at_call 47; with_reducible refine (HB3.out _).mono ?_; rintro e w' ⟨rfl, rfl⟩))
   go_meet
   exact ⟨by rw [hp.out], (Tch.alloc _ _), BoxAt.made _ _ _⟩
  | true =>
   have hp : Hid (hd = true) := by rw [Hid, <- HHD.out]; simp
   go_wp2_with (first | (go_at_call 46; refine (HBr.out _).mono ?_; rintro e w' ⟨rfl, rfl⟩) | (go_at_call 47; with_reducible refine (HB1.out _).mono ?_; rintro e w' ⟨rfl, rfl⟩) | (go_at_call 47; with_reducible refine (HB2.out _).mono ?_; rintro e w' ⟨rfl, rfl⟩) | (go_at_call 47; with_reducible refine (HB3.out _).mono ?_; rintro e w' ⟨rfl, rfl⟩))
   go_meet
   exact ⟨by rw [hp.out], (Tch.alloc _ _), BoxAt.made _ _ _⟩
 case rest =>
  obtain ⟨rfl, TT, HB⟩ := hcut
  clear HHD HBr HB1 HB2 HB3
  obtain ⟨w2, hw2⟩ : ∃ x, x = wc := ⟨_, rfl⟩
  subst hw2
  have c5 := HB.out 5 _ rfl
  go_upto_region 2 with fail
  go_cut [4] from 24 to 31 (fun s4 wx => s4 = .bool ls /\ Hid (Tch No w wx) /\ Hid (BoxAt wx w.heap.size [.int .i64 s.broker, .int .i64 s.nid, .int .i64 s.nseq, .int .i64 s.tx, .slice am nm cm, .slice aw nw cw, .slice ae ne ce, .slice ao no co, .slice an nn cn]))
  case first =>
   clear HRES HOW HMS HSI HT3 HT4
   cases q1 with
   | false =>
    have hp : Hid (ls = false) := by rw [Hid, <- HLS.out]; rfl
    go_wp2_with (first | (go_at_call 48; refine (HT1.out _ TT.out).mono ?_; rintro e w3 ⟨rfl, T3⟩; have NB := Lib.hid (HB.out.keep T3); have d6 := NB.out 6 _ rfl) | (go_at_call 50; refine (HT2.out _ (TT.out.trans0 T3)).mono ?_; rintro e w4 ⟨rfl, T4⟩))
    go_meet
    exact ⟨by rw [hp.out], TT.out.trans0 T3, HB.out.keep T3⟩
   | true =>
    have hp : Hid (ls = q2) := by rw [Hid, <- HLS.out]; rfl
    go_wp2_with (first | (go_at_call 48; refine (HT1.out _ TT.out).mono ?_; rintro e w3 ⟨rfl, T3⟩; have NB := Lib.hid (HB.out.keep T3); have d6 := NB.out 6 _ rfl) | (go_at_call 50; refine (HT2.out _ (TT.out.trans0 T3)).mono ?_; rintro e w4 ⟨rfl, T4⟩))
    go_meet
    exact ⟨by rw [hp.out], (TT.out.trans0 T3).trans0 T4, (HB.out.keep T3).keep T4⟩
  case rest =>
  clear TT HB c5
  obtain ⟨rfl, TT, HB⟩ := hcut
  clear HLS HT1 HT2
  obtain ⟨w3, hw3⟩ : ∃ x, x = wc := ⟨_, rfl⟩
  subst hw3
  have c7 := HB.out 7 _ rfl
  go_upto_region 3 with fail
  go_cut [5] from 32 to 39 (fun s5 wx => s5 = .bool ow /\ Hid (Tch No w wx) /\ Hid (BoxAt wx w.heap.size [.int .i64 s.broker, .int .i64 s.nid, .int .i64 s.nseq, .int .i64 s.tx, .slice am nm cm, .slice aw nw cw, .slice ae ne ce, .slice ao no co, .slice an nn cn]))
  case first =>
   clear HRES HMS HSI
   cases q3 with
   | false =>
    have hp : Hid (ow = false) := by rw [Hid, <- HOW.out]; rfl
    go_wp2_with (first | (go_at_call 52; (fail_if_success (have q := T3)); refine (HT3.out _ TT.out).mono ?_; rintro e w4 ⟨rfl, T3⟩; have NB := Lib.hid (HB.out.keep T3); have d6 := NB.out 8 _ rfl) | (go_at_call 52; refine (HT4.out _ (TT.out.trans0 T3)).mono ?_; rintro e w5 ⟨rfl, T4⟩))
    go_meet
    exact ⟨by rw [hp.out], TT.out.trans0 T3, HB.out.keep T3⟩
   | true =>
    have hp : Hid (ow = q4) := by rw [Hid, <- HOW.out]; rfl
    go_wp2_with (first | (go_at_call 52; (fail_if_success (have q := T3)); refine (HT3.out _ TT.out).mono ?_; rintro e w4 ⟨rfl, T3⟩; have NB := Lib.hid (HB.out.keep T3); have d6 := NB.out 8 _ rfl) | (go_at_call 52; refine (HT4.out _ (TT.out.trans0 T3)).mono ?_; rintro e w5 ⟨rfl, T4⟩))
    go_meet
    exact ⟨by rw [hp.out], (TT.out.trans0 T3).trans0 T4, (HB.out.keep T3).keep T4⟩
  case rest =>
  clear TT HB c7
  obtain ⟨rfl, TT, HB⟩ := hcut
  clear HOW HT3 HT4
  obtain ⟨w4, hw4⟩ : ∃ x, x = wc := ⟨_, rfl⟩
  subst hw4
  have c0 := HB.out 0 _ rfl
  have c1 := HB.out 1 _ rfl
  have c2 := HB.out 2 _ rfl
  have c3 := HB.out 3 _ rfl
  have c4 := HB.out 4 _ rfl
  have c5 := HB.out 5 _ rfl
  have c6 := HB.out 6 _ rfl
  have c7 := HB.out 7 _ rfl
  have c8 := HB.out 8 _ rfl
  cases hd with
  | false =>
   have HE : Hid (res = false) := by rw [Hid, <- HRES.out]; simp
   go_wp2_with fail
   go_ret
   exact ⟨ret_b HE.out.symm, TT.out⟩
  | true =>
  cases ls with
  | false =>
   have HE : Hid (res = false) := by rw [Hid, <- HRES.out]; simp
   go_wp2_with fail
   go_ret
   exact ⟨ret_b HE.out.symm, TT.out⟩
  | true =>
  cases ow with
  | false =>
   have HE : Hid (res = false) := by rw [Hid, <- HRES.out]; simp
   go_wp2_with fail
   go_ret
   exact ⟨ret_b HE.out.symm, TT.out⟩
  | true =>
  have HM2 := Lib.hid (HMS.out rfl rfl)
  have HS2 := Lib.hid (HSI.out rfl)
  clear HMS HSI
  cases hn : decide ((nm : Int) <= 72) with
  | false =>
   have HE : Hid (res = false) := by rw [Hid, <- HRES.out, hn]; simp
   go_wp2_with fail
   go_ret
   exact ⟨ret_b HE.out.symm, TT.out⟩
  | true =>
  have HE : Hid (res = (q5 && q6)) := by rw [Hid, <- HRES.out, hn]; simp
  clear HRES
  cases q5 with
  | false =>
   go_wp2_with (first | (go_at_call 55; refine (HM2.out _ TT.out).mono ?_; rintro e w5 ⟨rfl, T5⟩; have NB := Lib.hid (HB.out.keep T5); have z0 := NB.out 0 _ rfl; have z1 := NB.out 1 _ rfl; have z2 := NB.out 2 _ rfl; have z3 := NB.out 3 _ rfl; have z4 := NB.out 4 _ rfl; have z5 := NB.out 5 _ rfl; have z6 := NB.out 6 _ rfl; have z7 := NB.out 7 _ rfl; have z8 := NB.out 8 _ rfl; skip) | (go_at_call 56; refine (HS2.out _ (TT.out.trans0 T5)).mono ?_; rintro e w6 ⟨rfl, T6⟩))
   go_ret
   exact ⟨ret_b HE.out.symm, TT.out.trans0 T5⟩
  | true =>
   go_wp2_with (first | (go_at_call 55; refine (HM2.out _ TT.out).mono ?_; rintro e w5 ⟨rfl, T5⟩; have NB := Lib.hid (HB.out.keep T5); have z0 := NB.out 0 _ rfl; have z1 := NB.out 1 _ rfl; have z2 := NB.out 2 _ rfl; have z3 := NB.out 3 _ rfl; have z4 := NB.out 4 _ rfl; have z5 := NB.out 5 _ rfl; have z6 := NB.out 6 _ rfl; have z7 := NB.out 7 _ rfl; have z8 := NB.out 8 _ rfl; skip) | (go_at_call 56; refine (HS2.out _ (TT.out.trans0 T5)).mono ?_; rintro e w6 ⟨rfl, T6⟩))
   go_ret
   exact ⟨ret_b HE.out.symm, (TT.out.trans0 T5).trans0 T6⟩
end
section
open Go.RowKit Go.Maps
structure RoomP (s : StM) (n : Nat) : Prop where
 nid : ((pendingM s + n : Nat) : Int) <= 4294967296 - s.nid
 ms : pendingM s + n + s.ms.length <= 72
 seq : ((pendingM s + n : Nat) : Int) <= 1099511627776 - s.nseq
theorem rec_parts {r : RecM} (h : recB r = true) : (1 <= r.kind /\ r.kind <= 9) /\ tidB r.tid = true /\ (r.kind = 4 ∨ r.kind = 7 -> r.puts.length <= 10 /\ r.puts.all putB = true) /\ (r.kind = 6 -> (1 <= r.parts.length /\ r.parts.length <= 7) /\ risingB r.parts = true) /\ (r.kind = 8 -> r.parts.length <= 7 /\ risingB r.parts = true) := by
 unfold recB at h
 simp only [Bool.and_eq_true, decide_eq_true_eq] at h
 obtain ⟨⟨⟨⟨⟨h1, h2⟩, h3⟩, h4⟩, h5⟩, h6⟩ := h
 refine ⟨h1, h2, ?_, ?_, ?_⟩
 ·intro hk
  rw [if_pos hk] at h5
  simpa using h5
 ·intro hk
  rw [if_pos hk] at h6
  simpa using h6
 ·intro hk
  rw [if_neg (by omega), if_pos hk] at h6
  simpa using h6
end
section
open Go.RowKit Go.Maps
theorem pend_take (l : List BrM) {k : Nat} (hk : k < l.length) : ((l.take (k + 1)).map (·.puts.length)).sum = ((l.take k).map (·.puts.length)).sum + l[k].puts.length := by
 rw [List.take_succ_eq_append_getElem hk, List.map_append, List.sum_append_nat]
 simp
theorem pend_le (l : List BrM) (k : Nat) : ((l.take k).map (·.puts.length)).sum <= (l.map (·.puts.length)).sum := by
 have e := congrArg (fun x : List BrM => (x.map (·.puts.length)).sum) (List.take_append_drop k l)
 simp only [List.map_append, List.sum_append_nat] at e
 omega
theorem pend_may {s : StM} (h : MayP s) : pendingM s <= 20000 := by
 have hw := h.waits
 have hl := h.lw
 unfold pendingM
 have : ∀ (l : List BrM), (∀ w ∈ l, w.puts.length <= 10) -> (l.map (·.puts.length)).sum <= 10 * l.length := by
  intro l
  induction l with
  | nil => intro _; simp
  | cons a r ih =>
   intro h
   have h1 := h a (by simp)
   have h2 := ih (fun w hw => h w (by simp [hw]))
   simp only [List.map_cons, List.sum_cons, List.length_cons]
   omega
 have := this s.waits (fun w hm => (hw w hm).len)
 omega
theorem ret_e {n m : Nat} (h : m = n) : Ending.returned (.int .i64 ((n : Nat) : Int)) = .returned (.int .i64 ((m : Nat) : Int)) := by rw [h]
theorem IsRec.shape {w : World} {v : Value} {r : RecM} (h : IsRec w v r) : ∃ ap cp au cu, v = .agg #[.int .i64 r.kind, .int .i64 r.tid, .int .i64 r.id, .bool r.yes, .slice ap r.parts.length cp, .slice au r.puts.length cu] /\ IsInts w (.slice ap r.parts.length cp) r.parts /\ IsPuts w (.slice au r.puts.length cu) r.puts := by
 obtain ⟨vp, vu, rfl, h1, h2⟩ := h
 obtain ⟨ap, cp, rfl, _⟩ := CellsAt.shape h1
 obtain ⟨au, cu, rfl, _⟩ := CellsAt.shape h2
 exact ⟨ap, cp, au, cu, rfl, h1, h2⟩
end
end Go.Proofs.YtfedhcnmdmhppaaGreat
