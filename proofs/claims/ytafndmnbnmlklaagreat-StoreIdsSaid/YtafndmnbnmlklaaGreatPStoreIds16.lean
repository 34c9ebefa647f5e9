/- Part 16 of what the proof of StoreIds rests on. No condition. -/
import Derived.Test.YtafndmnbnmlklaaGreatPStoreIds02
namespace Go.Proofs.YtafndmnbnmlklaaGreat
set_option maxRecDepth 100000
set_option maxHeartbeats 60000000
set_option linter.unusedVariables false
set_option linter.unusedSimpArgs false
set_option linter.unusedSectionVars false
section
open Go.RowKit Go.Maps
structure RoomP (s : StM) (n : Nat) : Prop where
 nid : ((pendingM s + n : Nat) : Int) <= 4294967296 - s.nid
 ms : pendingM s + n + s.ms.length <= 72
 seq : ((pendingM s + n : Nat) : Int) <= 1099511627776 - s.nseq
theorem fits_iff (s : StM) (n : Nat) : fitsB s n = true ↔ RoomP s n := by
 unfold fitsB
 simp only [Bool.and_eq_true, decide_eq_true_eq]
 constructor
 ·rintro ⟨⟨h1, h2⟩, h3⟩; exact ⟨h1, h2, h3⟩
 ·rintro ⟨h1, h2, h3⟩; exact ⟨⟨h1, h2⟩, h3⟩
theorem left_len (ms : List MsgM) (tid : Int) (yes : Bool) : (leftM ms tid yes).length <= ms.length := by
 have := (left_id ms tid yes).length_le
 simpa using this
theorem endM_eq {s : StM} {tid : Int} {yes : Bool} {puts l : List PutM} (hl : (if yes then puts else []) = l) : endM s tid yes puts = ⟨s.broker, s.nid + l.length, s.nseq + l.length, s.tx, leftM s.ms tid yes ++ putsM s.broker s.nid s.nseq l, delP (·.tid) s.waits tid, insP (·.tid) s.ends ⟨tid, yes⟩, delP (·.tid) s.opens tid, s.noes⟩ := by
 unfold endM; simp only [hl]
theorem may_end {s : StM} (h : MayP s) {tid : Int} (ht : tidB tid = true) (hn : hasP (·.tid) s.ends tid = false) (hle : s.ends.length < 2000) (yes : Bool) (puts : List PutM)
  (hp : puts.all putB = true) (hr : (if yes then puts.length else 0) + s.ms.length <= 72) (hi : s.nid + (if yes then puts.length else 0 : Nat) <= 4294967296) (hq : s.nseq + (if yes then puts.length else 0 : Nat) <= 1099511627776) : MayP (endM s tid yes puts) := by
 obtain ⟨l, hl⟩ : ∃ l, (if yes then puts else []) = l := ⟨_, rfl⟩
 have hll : (if yes then puts.length else 0) = l.length := by rw [<- hl]; split <;> rfl
 have hlp : ∀ p ∈ l, putB p = true := by
  intro p hp2
  rw [<- hl] at hp2
  split at hp2
  ·exact List.all_eq_true.1 hp p hp2
  ·cases hp2
 rw [hll] at hr hi hq
 have hpl := puts_len l s.broker s.nid s.nseq
 have hlf := left_len s.ms tid yes
 have hends : ∀ u, u ≠ tid -> hasP (·.tid) s.ends u = false -> hasP (·.tid) (insP (·.tid) s.ends ⟨tid, yes⟩) u = false := fun u h1 h2 => hasP_ins h2 h1
 rw [endM_eq hl]
 have hnid := h.nid
 have hnseq := h.nseq
 refine { br := h.br, nid := ⟨by show 1 <= s.nid + _; omega, hi⟩, nseq := ⟨by show 1 <= s.nseq + _; omega, hq⟩, tx := h.tx, lms := ?_, lw := ?_, le := ?_, lo := ?_, ln := h.ln, ms := ?_, mseq := ?_, mids := ?_, ends := ?_, ends2 := ?_, waits := ?_, waits2 := strict_del _ h.waits2, opens := ?_, opens2 := strict_del _ h.opens2, noes := ?_, noes2 := h.noes2 }
 ·show (leftM s.ms tid yes ++ putsM s.broker s.nid s.nseq l).length <= 72
  rw [List.length_append]; omega
 ·show (delP _ s.waits tid).length <= 2000
  have := (del_sub (·.tid) s.waits tid).length_le; have := h.lw; omega
 ·show (insP _ s.ends _).length <= 2000
  rw [len_ins]; omega
 ·show (delP _ s.opens tid).length <= 2000
  have := (del_sub (·.tid) s.opens tid).length_le; have := h.lo; omega
 ·intro m hm
  rcases List.mem_append.1 hm with hm | hm
  ·obtain ⟨m0, hm0, ⟨h1, rfl⟩ | ⟨h1, h2, rfl⟩⟩ := mem_left.1 hm
   ·have k := h.ms m hm0
    refine ⟨⟨k.seq.1, ?_⟩, k.home, ?_, k.q, k.b, k.cnt, ?_⟩
    ·show m.seq < s.nseq + _; have := k.seq.2; omega
    ·show _ < s.nid + _; have := k.low; omega
    ·rcases k.who with hw | ⟨hw1, hw2⟩
     ·exact .inl hw
     ·exact .inr ⟨hw1, hends _ h1 hw2⟩
   ·have k := h.ms m0 hm0
    have kc := k.cnt
    refine ⟨⟨k.seq.1, ?_⟩, k.home, ?_, k.q, k.b, ?_, .inl rfl⟩
    ·show m0.seq < s.nseq + _; have := k.seq.2; omega
    ·show m0.id % _ < s.nid + _; have := k.low; omega
    ·show 0 <= min (m0.cnt + 1) 1000 /\ min (m0.cnt + 1) 1000 <= 1000; omega
  ·obtain ⟨k, p, hk, hp2, rfl⟩ := puts_get _ _ _ _ _ hm
   have hb := hlp p hp2
   unfold putB at hb
   rw [Bool.and_eq_true] at hb
   refine ⟨⟨by show 1 <= s.nseq + k; omega, by show s.nseq + k < s.nseq + l.length; omega⟩, home_make h.br (by omega), ?_, hb.1, hb.2, ⟨Int.le_refl 0, show (0 : Int) <= 1000 by decide⟩, .inl rfl⟩
   show makeM s.broker (s.nid + k) % 4294967296 < s.nid + l.length
   rw [low_make h.br (by omega)]; omega
 ·show strictB ((leftM s.ms tid yes ++ putsM s.broker s.nid s.nseq l).map (·.seq)) = true
  rw [strict_iff, List.map_append, List.pairwise_append]
  refine ⟨(strict_iff.1 h.mseq).sublist (left_seq _ _ _), puts_seq _ _ _ _, ?_⟩
  intro a ha b hb
  obtain ⟨m, hm, rfl⟩ := List.mem_map.1 ((left_seq _ _ _).subset ha)
  obtain ⟨x, hx, rfl⟩ := List.mem_map.1 hb
  obtain ⟨k, p, _, _, rfl⟩ := puts_get _ _ _ _ _ hx
  have := (h.ms m hm).seq.2
  show m.seq < s.nseq + k
  omega
 ·show ((leftM s.ms tid yes ++ putsM s.broker s.nid s.nseq l).map (·.id)).Nodup
  rw [List.map_append, List.nodup_append]
  refine ⟨h.mids.sublist (left_id _ _ _), (puts_id _ _ _ _ h.br hnid.1 hi).imp (fun h => by omega), ?_⟩
  intro a ha b hb e2
  obtain ⟨m, hm, rfl⟩ := List.mem_map.1 ((left_id _ _ _).subset ha)
  obtain ⟨x, hx, rfl⟩ := List.mem_map.1 hb
  obtain ⟨k, p, hk, _, rfl⟩ := puts_get _ _ _ _ _ hx
  have h1 := (h.ms m hm).low
  have h2 : makeM s.broker (s.nid + k) % 4294967296 = s.nid + k := low_make h.br (by omega)
  have e3 : m.id = makeM s.broker (s.nid + k) := e2
  rw [e3] at h1
  omega
 ·intro x hx
  rcases mem_ins.1 hx with rfl | hx
  ·exact ht
  ·exact h.ends x hx
 ·exact strict_ins h.ends2 hn
 ·intro w hw
  obtain ⟨h1, h2⟩ := mem_del.1 hw
  have k := h.waits w h1
  exact ⟨k.tid, hends _ h2 k.no, k.len, k.puts⟩
 ·intro p hp2
  obtain ⟨h1, h2⟩ := mem_del.1 hp2
  obtain ⟨k1, k2, k3⟩ := h.opens p h1
  exact ⟨k1, hends _ h2 k2, hasP_del k3⟩
 ·intro p hp2
  obtain ⟨k1, x, k2, k3, k4⟩ := h.noes p hp2
  exact ⟨k1, x, mem_ins.2 (.inr k2), k3, k4⟩
theorem room_end {s : StM} (tid : Int) (yes : Bool) (puts : List PutM) (n : Nat)
  (h1 : ((delP (·.tid) s.waits tid).map (·.puts.length)).sum + (if yes then puts.length else 0) <= pendingM s + n) (hr : RoomP s n) : RoomP (endM s tid yes puts) 0 := by
 obtain ⟨l, hl⟩ : ∃ l, (if yes then puts else []) = l := ⟨_, rfl⟩
 have hll : (if yes then puts.length else 0) = l.length := by rw [<- hl]; split <;> rfl
 rw [hll] at h1
 rw [endM_eq hl]
 have hpl := puts_len l s.broker s.nid s.nseq
 have hlf := left_len s.ms tid yes
 obtain ⟨r1, r2, r3⟩ := hr
 refine ⟨?_, ?_, ?_⟩
 ·show ((((delP (·.tid) s.waits tid).map (·.puts.length)).sum + 0 : Nat) : Int) <= 4294967296 - (s.nid + l.length); omega
 ·show ((delP (·.tid) s.waits tid).map (·.puts.length)).sum + 0 + (leftM s.ms tid yes ++ putsM s.broker s.nid s.nseq l).length <= 72
  rw [List.length_append]; omega
 ·show ((((delP (·.tid) s.waits tid).map (·.puts.length)).sum + 0 : Nat) : Int) <= 1099511627776 - (s.nseq + l.length); omega
theorem find_has {α : Type} {f : α -> Int} {l : List α} {t : Int} (h : hasP f l t = true) : ∃ x, l.find? (fun y => decide (f y = t)) = some x /\ x ∈ l /\ f x = t := by
 obtain ⟨y, hy, e⟩ := hasP_iff.1 h
 cases hf : l.find? (fun y => decide (f y = t)) with
 | none =>
  have := List.find?_eq_none.1 hf y hy
  simp [e] at this
 | some x => exact ⟨x, rfl, List.mem_of_find?_eq_some hf, by simpa using List.find?_some hf⟩
theorem rec_parts {r : RecM} (h : recB r = true) : (1 <= r.kind /\ r.kind <= 9) /\ tidB r.tid = true /\ (r.kind = 4 ∨ r.kind = 7 -> r.puts.length <= 10 /\ r.puts.all putB = true) /\ (r.kind = 6 -> (1 <= r.parts.length /\ r.parts.length <= 7) /\ risingB r.parts = true) /\ (r.kind = 8 -> r.parts.length <= 7 /\ risingB r.parts = true) := by
 unfold recB at h
 simp only [Bool.and_eq_true, decide_eq_true_eq] at h
 obtain ⟨⟨⟨⟨⟨h1, h2⟩, h3⟩, h4⟩, h5⟩, h6⟩ := h
 refine ⟨h1, h2, ?_, ?_, ?_⟩
 ·intro hk
  rw [if_pos hk] at h5
  simpa using h5
 ·intro hk
  rw [if_pos hk] at h6
  simpa using h6
 ·intro hk
  rw [if_neg (by omega), if_pos hk] at h6
  simpa using h6
theorem rising_sub {l k : List Int} (h : risingB l = true) (hs : k.Sublist l) : risingB k = true := by
 unfold risingB at h ⊢
 rw [Bool.and_eq_true] at h ⊢
 exact ⟨List.all_eq_true.2 fun x hx => List.all_eq_true.1 h.1 x (hs.subset hx), strict_sub h.2 hs⟩
theorem ite0 {c : Prop} [Decidable c] {k x : Nat} (h : (if c then k + 1 else x) = 0) : ¬ c /\ x = 0 := by
 split at h
 ·cases h
 ·exact ⟨by assumption, h⟩
theorem may_do {s : StM} {r : RecM} (h : MayP s) (hr : RoomP s 0) (hc : canM s r = 0) : MayP (doM s r) /\ RoomP (doM s r) 0 := by
 have hrec : recB r = true := by
  cases e : recB r with
  | true => rfl
  | false => unfold canM at hc; rw [if_pos e] at hc; cases hc
 obtain ⟨hk, htid, hputs, hp6, hp8⟩ := rec_parts hrec
 have hcases : r.kind = 1 ∨ r.kind = 2 ∨ r.kind = 3 ∨ r.kind = 4 ∨ r.kind = 5 ∨ r.kind = 6 ∨ r.kind = 7 ∨ r.kind = 8 ∨ r.kind = 9 := by omega
 have hover : r.kind ≠ 9 -> hasP (·.tid) s.ends r.tid = false := by
  intro h9
  cases e : hasP (·.tid) s.ends r.tid with
  | false => rfl
  | true => unfold canM at hc; rw [if_neg (by rw [hrec]; simp), if_pos ⟨h9, e⟩] at hc; cases hc
 have hlen0 : RoomP s 0 := hr
 obtain ⟨r1, r2, r3⟩ := hr
 have hpen : ∀ t, ((delP (·.tid) s.waits t).map (·.puts.length)).sum <= pendingM s := fun t => pending_del_le s.waits t
 have hno : tidB r.tid = true -> hasP (·.tid) s.ends r.tid = false -> hasP (·.tid) s.noes r.tid = false := by
  intro _ h2
  cases e : hasP (·.tid) s.noes r.tid with
  | false => rfl
  | true =>
   obtain ⟨p, hp, e2⟩ := hasP_iff.1 e
   obtain ⟨_, x, hx, e3, _⟩ := h.noes p hp
   rw [hasP_iff.2 ⟨x, hx, e3.trans e2⟩] at h2; cases h2
 unfold canM at hc
 rw [if_neg (by rw [hrec]; simp)] at hc
 rcases hcases with k | k | k | k | k | k | k | k | k
 ·have ho := hover (by omega)
  rw [if_neg (by rw [ho]; simp)] at hc
  simp only [k] at hc
  have hx : s.tx < 200 := by
   by_cases hx : 200 <= s.tx
   ·simp [hx] at hc; split at hc <;> cases hc
   ·omega
  have e : doM s r = { s with tx := s.tx + 1 } := by unfold doM; rw [if_pos k]
  rw [e]
  have := h.tx
  refine ⟨{ h with tx := ⟨by show 0 <= s.tx + 1; omega, by show s.tx + 1 <= 200; omega⟩, ms := fun m hm => ?_, waits := fun w hw => ?_ }, ⟨r1, r2, r3⟩⟩
  ·have k := h.ms m hm; exact ⟨k.seq, k.home, k.low, k.q, k.b, k.cnt, k.who⟩
  ·have k := h.waits w hw; exact ⟨k.tid, k.no, k.len, k.puts⟩
 ·have ho := hover (by omega)
  have e : doM s r = { s with ms := s.ms.map fun m => if m.id = r.id then { m with who := r.tid } else m } := by unfold doM; rw [if_neg (by omega), if_pos k]
  rw [e]
  have f1 : (s.ms.map fun m => if m.id = r.id then { m with who := r.tid } else m).map (·.seq) = s.ms.map (·.seq) := by
   rw [List.map_map]; apply List.map_congr_left; intro m _; simp only [Function.comp]; split <;> rfl
  have f2 : (s.ms.map fun m => if m.id = r.id then { m with who := r.tid } else m).map (·.id) = s.ms.map (·.id) := by
   rw [List.map_map]; apply List.map_congr_left; intro m _; simp only [Function.comp]; split <;> rfl
  refine ⟨{ h with lms := by simpa using h.lms, ms := fun m hm => ?_, mseq := by show strictB (List.map _ (List.map _ _)) = true; rw [f1]; exact h.mseq, mids := by show (List.map _ (List.map _ _)).Nodup; rw [f2]; exact h.mids, waits := fun w hw => ?_ }, ⟨r1, by show pendingM s + 0 + (List.map _ s.ms).length <= 72; rw [List.length_map]; exact r2, r3⟩⟩
  ·obtain ⟨m0, hm0, rfl⟩ := List.mem_map.1 hm
   have k := h.ms m0 hm0
   split
   ·exact ⟨k.seq, k.home, k.low, k.q, k.b, k.cnt, .inr ⟨htid, ho⟩⟩
   ·exact ⟨k.seq, k.home, k.low, k.q, k.b, k.cnt, k.who⟩
  ·have k := h.waits w hw; exact ⟨k.tid, k.no, k.len, k.puts⟩
 ·have ho := hover (by omega)
  rw [if_neg (by rw [ho]; simp)] at hc
  simp only [k] at hc
  simp [fullM, k] at hc
  have hc := (ite0 (ite0 hc).2).1
  have e : doM s r = endM s r.tid false [] := by unfold doM; rw [if_neg (by omega), if_neg (by omega), if_pos k]
  rw [e]
  exact ⟨may_end h htid ho (by omega) false [] (by simp) (by have := h.lms; simpa using this) (by have := h.nid; simpa using this.2) (by have := h.nseq; simpa using this.2),
   room_end r.tid false [] 0 (by simpa using hpen r.tid) hlen0⟩
 ·have ho := hover (by omega)
  rw [if_neg (by rw [ho]; simp)] at hc
  have e : doM s r = { s with waits := insP (·.tid) s.waits ⟨r.tid, r.puts⟩ } := by unfold doM; rw [if_neg (by omega), if_neg (by omega), if_neg (by omega), if_pos k]
  rw [e]
  obtain ⟨hp1, hp2⟩ := hputs (.inl k)
  simp only [k] at hc
  simp at hc
  obtain ⟨c12, c3⟩ := ite0 hc
  simp at c12
  obtain ⟨c1, c2⟩ := c12
  simp [fullM, k] at c3
  obtain ⟨c4, c5⟩ := ite0 c3
  have c6 : fitsB s r.puts.length = true := by
   cases e : fitsB s r.puts.length with
   | true => rfl
   | false => simp [e] at c5
  obtain ⟨q1, q2, q3⟩ := (fits_iff _ _).1 c6
  have hpi := pending_ins s.waits ⟨r.tid, r.puts⟩
  have hpi' : pendingM { s with waits := insP (·.tid) s.waits ⟨r.tid, r.puts⟩ } = r.puts.length + pendingM s := hpi
  refine ⟨{ h with lw := by show (insP _ _ _).length <= 2000; rw [len_ins]; omega, ms := fun m hm => ?_, waits := fun w hw => ?_, waits2 := strict_ins h.waits2 c1, opens := fun p hp => ?_ }, ⟨?_, ?_, ?_⟩⟩
  ·have k := h.ms m hm; exact ⟨k.seq, k.home, k.low, k.q, k.b, k.cnt, k.who⟩
  ·rcases mem_ins.1 hw with rfl | hw
   ·exact ⟨htid, ho, hp1, hp2⟩
   ·have k := h.waits w hw; exact ⟨k.tid, k.no, k.len, k.puts⟩
  ·obtain ⟨k1, k2, k3⟩ := h.opens p hp
   refine ⟨k1, k2, hasP_ins k3 ?_⟩
   intro e2
   exact c2 (by rw [<- k1.home, e2])
  ·rw [hpi']; show _ <= 4294967296 - s.nid; omega
  ·rw [hpi']; show _ + s.ms.length <= 72; omega
  ·rw [hpi']; show _ <= 1099511627776 - s.nseq; omega
 ·have ho := hover (by omega)
  rw [if_neg (by rw [ho]; simp)] at hc
  simp [k, fullM] at hc
  obtain ⟨c1, c2⟩ := ite0 hc
  simp at c1
  have c2 := (ite0 c2).1
  obtain ⟨w, hf, hw, hwt⟩ := find_has c1
  have e : doM s r = endM s r.tid r.yes w.puts := by unfold doM; rw [if_neg (by omega), if_neg (by omega), if_neg (by omega), if_neg (by omega), if_pos k, hf]; rfl
  rw [e]
  have kw := h.waits w hw
  have hd := pending_del s.waits r.tid w hw hwt
  have hd' : ((delP (·.tid) s.waits r.tid).map (·.puts.length)).sum + w.puts.length <= pendingM s := hd
  have hn := h.nid
  have hq := h.nseq
  have hm := h.lms
  refine ⟨may_end h htid ho (by omega) r.yes w.puts kw.puts ?_ ?_ ?_, room_end r.tid r.yes w.puts 0 ?_ hlen0⟩
  ·split <;> omega
  ·split <;> omega
  ·split <;> omega
  ·have := hpen r.tid
   split <;> omega
 ·have ho := hover (by omega)
  rw [if_neg (by rw [ho]; simp)] at hc
  simp [k, fullM] at hc
  obtain ⟨c14, c5⟩ := ite0 hc
  simp at c14
  obtain ⟨c1, c2, c3, c4⟩ := c14
  have c5 := (ite0 c5).1
  obtain ⟨hp1, hp2⟩ := hp6 k
  have e : doM s r = { s with opens := insP (·.tid) s.opens ⟨r.tid, r.parts⟩ } := by unfold doM; rw [if_neg (by omega), if_neg (by omega), if_neg (by omega), if_neg (by omega), if_neg (by omega), if_pos k]
  rw [e]
  refine ⟨{ h with lo := by show (insP _ _ _).length <= 2000; rw [len_ins]; omega, ms := fun m hm => ?_, waits := fun w hw => ?_, opens := fun p hp => ?_, opens2 := strict_ins h.opens2 c4 }, ⟨r1, r2, r3⟩⟩
  ·have k := h.ms m hm; exact ⟨k.seq, k.home, k.low, k.q, k.b, k.cnt, k.who⟩
  ·have k := h.waits w hw; exact ⟨k.tid, k.no, k.len, k.puts⟩
  ·rcases mem_ins.1 hp with rfl | hp
   ·exact ⟨⟨c1, hp1, hp2, by simpa using c3⟩, ho, c2⟩
   ·exact h.opens p hp
 ·have ho := hover (by omega)
  rw [if_neg (by rw [ho]; simp)] at hc
  simp [k, fullM] at hc
  obtain ⟨c13, c45⟩ := ite0 hc
  simp at c13
  obtain ⟨c1, c2, c3⟩ := c13
  obtain ⟨c4, c5⟩ := ite0 c45
  obtain ⟨hp1, hp2⟩ := hputs (.inr k)
  have c6 : fitsB s r.puts.length = true := by
   cases e : fitsB s r.puts.length with
   | true => rfl
   | false => simp [e] at c5
  have hR := (fits_iff _ _).1 c6
  obtain ⟨q1, q2, q3⟩ := (fits_iff _ _).1 c6
  have e : doM s r = endM s r.tid true r.puts := by unfold doM; rw [if_neg (by omega), if_neg (by omega), if_neg (by omega), if_neg (by omega), if_neg (by omega), if_neg (by omega), if_pos k]
  rw [e]
  refine ⟨may_end h htid ho (by omega) true r.puts hp2 (by simp; omega) (by simp; omega) (by simp; omega), room_end r.tid true r.puts r.puts.length ?_ hR⟩
  have := hpen r.tid
  simp; omega
 ·have ho := hover (by omega)
  rw [if_neg (by rw [ho]; simp)] at hc
  simp [k, fullM] at hc
  obtain ⟨c13, c45⟩ := ite0 hc
  simp at c13
  obtain ⟨c1, c2, c3⟩ := c13
  obtain ⟨c4, c5⟩ := ite0 c45
  have c5 := (ite0 c5).1
  simp at c5
  obtain ⟨hp1, hp2⟩ := hp8 k
  have hE := may_end h htid ho (by omega) false [] (by simp) (by have := h.lms; simpa using this) (by have := h.nid; simpa using this.2) (by have := h.nseq; simpa using this.2)
  have hRo := room_end (s := s) r.tid false [] 0 (by simpa using hpen r.tid) hlen0
  have e : doM s r = if r.parts = [] then endM s r.tid false [] else { endM s r.tid false [] with noes := insP (·.tid) (endM s r.tid false []).noes ⟨r.tid, r.parts⟩ } := by unfold doM; rw [if_neg (by omega), if_neg (by omega), if_neg (by omega), if_neg (by omega), if_neg (by omega), if_neg (by omega), if_neg (by omega), if_pos k]
  rw [e]
  by_cases hnil : r.parts = []
  ·rw [if_pos hnil]; exact ⟨hE, hRo⟩
  ·rw [if_neg hnil]
   have hl1 : 1 <= r.parts.length := by
    cases hpp : r.parts with
    | nil => exact absurd hpp hnil
    | cons _ _ => simp
   have hnn : hasP (·.tid) s.noes r.tid = false := hno htid ho
   refine ⟨{ hE with ln := ?_, ms := fun m hm => ?_, waits := fun w hw => ?_, noes := fun p hp => ?_, noes2 := strict_ins hE.noes2 hnn }, ⟨hRo.nid, hRo.ms, hRo.seq⟩⟩
   ·show (insP _ s.noes _).length <= 2000
    rw [len_ins]
    have := c5 hnil
    omega
   ·have k := hE.ms m hm; exact ⟨k.seq, k.home, k.low, k.q, k.b, k.cnt, k.who⟩
   ·have k := hE.waits w hw; exact ⟨k.tid, k.no, k.len, k.puts⟩
   ·rcases mem_ins.1 hp with rfl | hp
    ·refine ⟨⟨c1, ⟨hl1, hp1⟩, hp2, (by simpa using c3 : r.parts.contains s.broker = false)⟩, ⟨r.tid, false⟩, mem_ins.2 (.inl rfl), rfl, rfl⟩
    ·exact hE.noes p hp
 ·rw [if_neg (by omega)] at hc
  have e : doM s r = { s with noes := if (((s.noes.find? (fun p => decide (p.tid = r.tid))).map (·.parts)).getD []).filter (fun n => !decide (n = r.parts.headD 0)) = [] then delP (·.tid) s.noes r.tid else insP (·.tid) (delP (·.tid) s.noes r.tid) ⟨r.tid, (((s.noes.find? (fun p => decide (p.tid = r.tid))).map (·.parts)).getD []).filter (fun n => !decide (n = r.parts.headD 0))⟩ } := by
   unfold doM; rw [if_neg (by omega), if_neg (by omega), if_neg (by omega), if_neg (by omega), if_neg (by omega), if_neg (by omega), if_neg (by omega), if_neg (by omega), if_pos k]
  rw [e]
  have hx : ∃ p, s.noes.find? (fun p => decide (p.tid = r.tid)) = some p /\ p ∈ s.noes /\ p.tid = r.tid := by
   cases hf : s.noes.find? (fun p => decide (p.tid = r.tid)) with
   | none => simp [k, hf] at hc
   | some p => exact ⟨p, rfl, List.mem_of_find?_eq_some hf, by simpa using List.find?_some hf⟩
  obtain ⟨p, hf, hp, hpt⟩ := hx
  rw [hf]
  simp only [Option.map_some, Option.getD_some]
  obtain ⟨l, hl⟩ : ∃ l, p.parts.filter (fun n => !decide (n = r.parts.headD 0)) = l := ⟨_, rfl⟩
  rw [hl]
  obtain ⟨hP, x, hx1, hx2, hx3⟩ := h.noes p hp
  have hsub : l.Sublist p.parts := by rw [<- hl]; exact List.filter_sublist
  refine ⟨{ h with ln := ?_, ms := fun m hm => ?_, waits := fun w hw => ?_, noes := fun p2 hp2 => ?_, noes2 := ?_ }, ⟨r1, r2, r3⟩⟩
  ·have h1 := (del_sub (·.tid) s.noes r.tid).length_le
   have h2 := h.ln
   show (if l = [] then _ else _ : List PendM).length <= 2000
   split
   ·omega
   ·rw [len_ins]
    have h3 : (delP (·.tid) s.noes r.tid).length < s.noes.length := by
     rcases Nat.lt_or_ge (delP (·.tid) s.noes r.tid).length s.noes.length with h3 | h3
     ·exact h3
     ·have e2 := (del_sub (·.tid) s.noes r.tid).eq_of_length_le h3
      rw [<- e2] at hp
      exact absurd hpt (mem_del.1 hp).2
    omega
  ·have k := h.ms m hm; exact ⟨k.seq, k.home, k.low, k.q, k.b, k.cnt, k.who⟩
  ·have k := h.waits w hw; exact ⟨k.tid, k.no, k.len, k.puts⟩
  ·have hp3 : p2 ∈ (if l = [] then delP (·.tid) s.noes r.tid else insP (·.tid) (delP (·.tid) s.noes r.tid) ⟨r.tid, l⟩) := hp2
   split at hp3
   ·exact h.noes p2 (mem_del.1 hp3).1
   ·rename_i hl0
    rcases mem_ins.1 hp3 with rfl | hp3
    ·have hll := hsub.length_le
     have hl1 : 1 <= l.length := by
      cases l with
      | nil => exact absurd rfl hl0
      | cons _ _ => simp
     refine ⟨⟨?_, ⟨hl1, Nat.le_trans hll hP.len.2⟩, rising_sub hP.rising hsub, ?_⟩, x, hx1, hx2.trans hpt, hx3⟩
     ·show homeM r.tid = _; rw [<- hpt]; exact hP.home
     ·cases hcc : l.contains s.broker with
      | false => rfl
      | true =>
       have : s.broker ∈ l := by simpa using hcc
       have h2 : s.broker ∈ p.parts := hsub.subset this
       have h3 := hP.other
       simp [h2] at h3
    ·exact h.noes p2 (mem_del.1 hp3).1
  ·show strictB (List.map _ (if l = [] then _ else _ : List PendM)) = true
   split
   ·exact strict_del _ h.noes2
   ·exact strict_ins (strict_del _ h.noes2) hasP_del_self
end
section
open Go.RowKit Go.Maps
structure GrewP (s t : StM) (l : List PutM) (A : List MsgM) : Prop where
 ms : t.ms = A ++ putsM s.broker s.nid s.nseq l
 old : ∀ m ∈ A, hasP (·.id) s.ms m.id = true
 br : t.broker = s.broker
 nid : t.nid = s.nid + l.length
 nseq : t.nseq = s.nseq + l.length
theorem grew_same {s t : StM} (hm : t.ms = s.ms) (hb : t.broker = s.broker) (hn : t.nid = s.nid) (hq : t.nseq = s.nseq) : GrewP s t [] s.ms :=
 ⟨by rw [hm]; simp [putsM], fun m hm => hasP_iff.2 ⟨m, hm, rfl⟩, hb, by rw [hn]; simp, by rw [hq]; simp⟩
theorem left_old (ms : List MsgM) (tid : Int) (yes : Bool) : ∀ m ∈ leftM ms tid yes, hasP (·.id) ms m.id = true := by
 intro m hm
 unfold leftM at hm
 obtain ⟨x, hx, e⟩ := List.mem_filterMap.1 hm
 refine hasP_iff.2 ⟨x, hx, ?_⟩
 split at e
 ·split at e
  ·cases e
  ·injection e with e; rw [<- e]
 ·injection e with e; rw [<- e]
theorem grew_end (s : StM) (tid : Int) (yes : Bool) (puts : List PutM) : ∃ l A, GrewP s (endM s tid yes puts) l A :=
 ⟨_, leftM s.ms tid yes, by rw [endM_eq rfl], left_old _ _ _, by rw [endM_eq rfl], by rw [endM_eq rfl], by rw [endM_eq rfl]⟩
theorem grew_do (s : StM) (r : RecM) : ∃ l A, GrewP s (doM s r) l A := by
 unfold doM
 by_cases h1 : r.kind = 1
 ·rw [if_pos h1]
  exact ⟨_, _, grew_same rfl rfl rfl rfl⟩
 rw [if_neg h1]
 by_cases h2 : r.kind = 2
 ·rw [if_pos h2]
  refine ⟨[], s.ms.map fun m => if m.id = r.id then { m with who := r.tid } else m, by simp [putsM], fun m hm => ?_, rfl, by simp, by simp⟩
  obtain ⟨x, hx, e⟩ := List.mem_map.1 hm
  refine hasP_iff.2 ⟨x, hx, ?_⟩
  by_cases c : x.id = r.id
  ·rw [if_pos c] at e; rw [<- e]
  ·rw [if_neg c] at e; rw [<- e]
 rw [if_neg h2]
 by_cases h3 : r.kind = 3
 ·rw [if_pos h3]
  exact grew_end _ _ _ _
 rw [if_neg h3]
 by_cases h4 : r.kind = 4
 ·rw [if_pos h4]
  exact ⟨_, _, grew_same rfl rfl rfl rfl⟩
 rw [if_neg h4]
 by_cases h5 : r.kind = 5
 ·rw [if_pos h5]
  exact grew_end _ _ _ _
 rw [if_neg h5]
 by_cases h6 : r.kind = 6
 ·rw [if_pos h6]
  exact ⟨_, _, grew_same rfl rfl rfl rfl⟩
 rw [if_neg h6]
 by_cases h7 : r.kind = 7
 ·rw [if_pos h7]
  exact grew_end _ _ _ _
 rw [if_neg h7]
 by_cases h8 : r.kind = 8
 ·rw [if_pos h8]
  obtain ⟨l, A, h⟩ := grew_end s r.tid false []
  refine ⟨l, A, ?_⟩
  dsimp only
  by_cases c : r.parts = []
  ·rw [if_pos c]; exact h
  ·rw [if_neg c]; exact ⟨h.ms, h.old, h.br, h.nid, h.nseq⟩
 rw [if_neg h8]
 by_cases h9 : r.kind = 9
 ·rw [if_pos h9]
  exact ⟨_, _, grew_same rfl rfl rfl rfl⟩
 rw [if_neg h9]
 exact ⟨_, _, grew_same rfl rfl rfl rfl⟩
theorem grew_apply (s : StM) (r : RecM) : ∃ l A, GrewP s (applyM s r) l A := by
 unfold applyM
 split
 ·exact grew_do s r
 ·exact ⟨_, _, grew_same rfl rfl rfl rfl⟩
theorem puts_at (b : Int) : ∀ (l : List PutM) (nid nseq : Int) (j : Nat) (h : j < (putsM b nid nseq l).length), (putsM b nid nseq l)[j].id = makeM b (nid + j) /\ (putsM b nid nseq l)[j].seq = nseq + j
 | [], _, _, j, h => by simp [putsM] at h
 | p :: r, nid, nseq, 0, h => by simp [putsM]
 | p :: r, nid, nseq, j + 1, h => by
  have h2 : j < (putsM b (nid + 1) (nseq + 1) r).length := by simpa [putsM] using h
  obtain ⟨e1, e2⟩ := puts_at b r (nid + 1) (nseq + 1) j h2
  simp only [putsM, List.getElem_cons_succ, e1, e2]
  refine ⟨?_, ?_⟩
  ·congr 1; push_cast; omega
  ·push_cast; omega
theorem new_not {s : StM} (h : MayP s) (j : Nat) (hj : s.nid + j < 4294967296) : hasP (·.id) s.ms (makeM s.broker (s.nid + j)) = false := by
 cases e : hasP (·.id) s.ms (makeM s.broker (s.nid + j)) with
 | false => rfl
 | true =>
  exfalso
  obtain ⟨m, hm, e1⟩ := hasP_iff.1 e
  have hl := (h.ms m hm).low
  have hb := h.br
  have hn := h.nid
  have e2 : m.id = makeM s.broker (s.nid + j) := e1
  rw [e2, makeM, if_pos ⟨hb.1, hb.2, by omega, hj⟩] at hl
  omega
end
end Go.Proofs.YtafndmnbnmlklaaGreat
