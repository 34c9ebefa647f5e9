/- Part 2 of what the proof of StoreIds rests on. No condition. -/
import Derived.BigQuiet
import Derived.Deep.CutBlock
import Derived.Deep.LoopGhost
import Derived.Test.YtafndmnbnmlklaaGreatPStoreIds01
namespace Go.Proofs.YtafndmnbnmlklaaGreat
set_option maxRecDepth 100000
set_option maxHeartbeats 60000000
set_option linter.unusedVariables false
set_option linter.unusedSimpArgs false
set_option linter.unusedSectionVars false
section
open Go.RowKit Go.Maps
def CellsAt (w : World) (v : Value) (n size : Nat) (cs : List Value) : Prop :=
 cs.length = n * size /\ ((v = .slice none 0 0 /\ n = 0) ∨ ∃ b o cap, v = .slice (some ⟨b, o, none⟩) n cap /\ n <= cap /\ cap <= maxLen /\ b < w.heap.size /\ ∀ j x, cs[j]? = some x -> w.cell? ⟨b, o + j, none⟩ = some x)
theorem CellsAt.keep {w w' : World} {v : Value} {n size : Nat} {cs : List Value} (h : CellsAt w v n size cs) (t : Tch No w w') : CellsAt w' v n size cs := by
 refine ⟨h.1, ?_⟩
 rcases h.2 with h2 | ⟨b, o, cap, h2, h3, h4, h5, h6⟩
 ·exact .inl h2
 ·exact .inr ⟨b, o, cap, h2, h3, h4, Nat.lt_of_lt_of_le h5 t.size, fun j x hx => t.cell (h6 j x hx) (fun h => h)⟩
theorem CellsAt.nil (w : World) (size : Nat) : CellsAt w (.slice none 0 0) 0 size [] := ⟨by simp, .inl ⟨rfl, rfl⟩⟩
theorem CellsAt.shape {w : World} {v : Value} {n size : Nat} {cs : List Value} (h : CellsAt w v n size cs) : ∃ a cap, v = .slice a n cap /\ n <= cap /\ cap <= maxLen := by
 rcases h.2 with ⟨rfl, rfl⟩ | ⟨b, o, cap, h2, h3, h4, _⟩
 ·exact ⟨none, 0, rfl, Nat.le_refl _, by simp [maxLen]⟩
 ·exact ⟨_, cap, h2, h3, h4⟩
def strV (s : Txt) : Value := .string ⟨s.toArray⟩
def encPut (p : PutM) : List Value := [strV p.q, strV p.b]
def encMsg (m : MsgM) : List Value := [.int .i64 m.id, strV m.q, strV m.b, .int .i64 m.seq, .int .i64 m.cnt, .int .i64 m.who]
def encEnd (e : EndM) : List Value := [.int .i64 e.tid, .bool e.yes]
def IsInts (w : World) (v : Value) (l : List Int) : Prop := CellsAt w v l.length 1 (l.map (fun x => .int .i64 x))
def IsPuts (w : World) (v : Value) (l : List PutM) : Prop := CellsAt w v l.length 2 (l.flatMap encPut)
def IsMsgs (w : World) (v : Value) (l : List MsgM) : Prop := CellsAt w v l.length 6 (l.flatMap encMsg)
def IsEnds (w : World) (v : Value) (l : List EndM) : Prop := CellsAt w v l.length 2 (l.flatMap encEnd)
def encTid (x : Int × Value) : List Value := [.int .i64 x.1, x.2]
def IsBrs (w : World) (v : Value) (l : List BrM) : Prop := ∃ vs : List Value, vs.length = l.length /\ CellsAt w v l.length 2 (((l.map (·.tid)).zip vs).flatMap encTid) /\ ∀ i (h : i < l.length) (h' : i < vs.length), IsPuts w vs[i] l[i].puts
def IsPends (w : World) (v : Value) (l : List PendM) : Prop := ∃ vs : List Value, vs.length = l.length /\ CellsAt w v l.length 2 (((l.map (·.tid)).zip vs).flatMap encTid) /\ ∀ i (h : i < l.length) (h' : i < vs.length), IsInts w vs[i] l[i].parts
def IsSt (w : World) (v : Value) (s : StM) : Prop :=
 ∃ vm vw ve vo vn, v = .agg #[.int .i64 s.broker, .int .i64 s.nid, .int .i64 s.nseq, .int .i64 s.tx, vm, vw, ve, vo, vn] /\ IsMsgs w vm s.ms /\ IsBrs w vw s.waits /\ IsEnds w ve s.ends /\ IsPends w vo s.opens /\ IsPends w vn s.noes
def IsRec (w : World) (v : Value) (r : RecM) : Prop :=
 ∃ vp vu, v = .agg #[.int .i64 r.kind, .int .i64 r.tid, .int .i64 r.id, .bool r.yes, vp, vu] /\ IsInts w vp r.parts /\ IsPuts w vu r.puts
theorem IsInts.keep {w w' : World} {v : Value} {l : List Int} (h : IsInts w v l) (t : Tch No w w') : IsInts w' v l := CellsAt.keep h t
theorem IsPuts.keep {w w' : World} {v : Value} {l : List PutM} (h : IsPuts w v l) (t : Tch No w w') : IsPuts w' v l := CellsAt.keep h t
theorem IsMsgs.keep {w w' : World} {v : Value} {l : List MsgM} (h : IsMsgs w v l) (t : Tch No w w') : IsMsgs w' v l := CellsAt.keep h t
theorem IsEnds.keep {w w' : World} {v : Value} {l : List EndM} (h : IsEnds w v l) (t : Tch No w w') : IsEnds w' v l := CellsAt.keep h t
theorem IsBrs.keep {w w' : World} {v : Value} {l : List BrM} (h : IsBrs w v l) (t : Tch No w w') : IsBrs w' v l := by
 obtain ⟨vs, h1, h2, h3⟩ := h
 exact ⟨vs, h1, h2.keep t, fun i h h' => (h3 i h h').keep t⟩
theorem IsPends.keep {w w' : World} {v : Value} {l : List PendM} (h : IsPends w v l) (t : Tch No w w') : IsPends w' v l := by
 obtain ⟨vs, h1, h2, h3⟩ := h
 exact ⟨vs, h1, h2.keep t, fun i h h' => (h3 i h h').keep t⟩
theorem IsSt.keep {w w' : World} {v : Value} {s : StM} (h : IsSt w v s) (t : Tch No w w') : IsSt w' v s := by
 obtain ⟨vm, vw, ve, vo, vn, h0, h1, h2, h3, h4, h5⟩ := h
 exact ⟨vm, vw, ve, vo, vn, h0, h1.keep t, h2.keep t, h3.keep t, h4.keep t, h5.keep t⟩
theorem IsRec.keep {w w' : World} {v : Value} {r : RecM} (h : IsRec w v r) (t : Tch No w w') : IsRec w' v r := by
 obtain ⟨vp, vu, h0, h1, h2⟩ := h
 exact ⟨vp, vu, h0, h1.keep t, h2.keep t⟩
theorem flat_get {α : Type} (enc : α -> List Value) (m : Nat) (he : ∀ x, (enc x).length = m) : ∀ (l : List α) (i k : Nat) (hi : i < l.length), k < m -> (l.flatMap enc)[i * m + k]? = (enc l[i])[k]?
 | a :: r, 0, k, hi, hk => by
  rw [List.flatMap_cons, List.getElem?_append_left (by rw [he]; omega)]
  simp
 | a :: r, i + 1, k, hi, hk => by
  have e : (i + 1) * m + k = (enc a).length + (i * m + k) := by rw [he, Nat.succ_mul]; omega
  rw [List.flatMap_cons, e, List.getElem?_append_right (by omega), Nat.add_sub_cancel_left]
  simpa using flat_get enc m he r i k (by simpa using hi) hk
theorem flat_len {α : Type} (enc : α -> List Value) (m : Nat) (he : ∀ x, (enc x).length = m) (l : List α) : (l.flatMap enc).length = l.length * m := by
 induction l with
 | nil => simp
 | cons a r ih => rw [List.flatMap_cons, List.length_append, he, ih, List.length_cons, Nat.succ_mul]; omega
theorem CellsAt.elem {α : Type} {w : World} {v : Value} {enc : α -> List Value} {m : Nat} (he : ∀ x, (enc x).length = m) {l : List α} (h : CellsAt w v l.length m (l.flatMap enc)) {i : Nat} (hi : i < l.length) : ∃ b o cap, v = .slice (some ⟨b, o, none⟩) l.length cap /\ ∀ k x, k < m -> (enc l[i])[k]? = some x -> w.cell? ⟨b, o + (i * m + k), none⟩ = some x := by
 rcases h.2 with ⟨_, h0⟩ | ⟨b, o, cap, h2, h3, h4, h5, h6⟩
 ·omega
 ·exact ⟨b, o, cap, h2, fun k x hk hx => h6 _ x (by rw [flat_get enc m he l i k hi hk]; exact hx)⟩
end
section
open Go.RowKit Go.Maps
theorem kbody_any (s : ByteArray) (w : World) (hlen : s.size <= 9223372036854775807) :
  Calls Tryz.prog 209 #[.string s] w fun e w' => e = .returned (.bool (bodyB s.data.toList)) /\ w = w' := by
 have hsl : s.data.toList.length = s.size := rfl
 have hb : Hid (bodyB s.data.toList = decide ((s.size : Int) <= 60)) := by rw [Hid, bodyB, hsl]; congr 1; simp; omega
 clear hsl
 go_enter Tryz.func209, Tryz.ntmps209
 go_wp2_with fail
 go_ret
 exact ⟨ret_b hb.out.symm, rfl⟩
theorem kput_any (s t : ByteArray) (w : World) (h1 : s.size <= 9223372036854775807) (h2 : t.size <= 9223372036854775807) :
  Calls Tryz.prog 162 #[.agg #[.string s, .string t]] w fun e w' => e = .returned (.bool (putB ⟨s.data.toList, t.data.toList⟩)) /\ Tch No w w' := by
 have hq := Lib.hid (fun W => kqueue_any s W h1)
 have hb := Lib.hid (fun W => kbody_any t W h2)
 have he : putB ⟨s.data.toList, t.data.toList⟩ = (queueB s.data.toList && bodyB t.data.toList) := rfl
 rw [he]
 obtain ⟨q, hq2⟩ : ∃ q, queueB s.data.toList = q := ⟨_, rfl⟩
 obtain ⟨b, hb2⟩ : ∃ b, bodyB t.data.toList = b := ⟨_, rfl⟩
 rw [hq2, hb2]
 rw [hq2] at hq
 rw [hb2] at hb
 clear he hq2 hb2
 cases q with
 | false =>
  go_enter Tryz.func162, Tryz.ntmps162
  go_wp2_with (go_at_call 208; go_must (refine (hq.out _).mono ?_); rintro e w' ⟨rfl, rfl⟩)
  go_ret
  exact ⟨rfl, Tch.alloc _ _⟩
 | true =>
  go_enter Tryz.func162, Tryz.ntmps162
  go_wp2_with (first
   | (go_at_call 208; go_must (refine (hq.out _).mono ?_); rintro e w' ⟨rfl, rfl⟩)
   | (go_at_call 209; go_must (refine (hb.out _).mono ?_); rintro e w' ⟨rfl, rfl⟩))
  go_ret
  exact ⟨rfl, Tch.alloc _ _⟩
end
section
open Go.RowKit Go.Maps
theorem strict_iff {l : List Int} : strictB l = true ↔ l.Pairwise (· < ·) := by
 induction l with
 | nil => simp [strictB]
 | cons a r ih => rw [strictB_cons, List.pairwise_cons, ih]
theorem strict_sub {l k : List Int} (h : strictB l = true) (hs : k.Sublist l) : strictB k = true :=
 strict_iff.2 ((strict_iff.1 h).sublist hs)
theorem mem_del {α : Type} {f : α -> Int} {l : List α} {t : Int} {x : α} : x ∈ delP f l t ↔ x ∈ l /\ f x ≠ t := by
 simp [delP]
theorem del_sub {α : Type} (f : α -> Int) (l : List α) (t : Int) : (delP f l t).Sublist l := List.filter_sublist
theorem strict_del {α : Type} {f : α -> Int} {l : List α} (t : Int) (h : strictB (l.map f) = true) : strictB ((delP f l t).map f) = true :=
 strict_sub h ((del_sub f l t).map f)
theorem hasP_del {α : Type} {f : α -> Int} {l : List α} {t u : Int} (h : hasP f l u = false) : hasP f (delP f l t) u = false := by
 cases e : hasP f (delP f l t) u with
 | false => rfl
 | true =>
  obtain ⟨x, hx, e2⟩ := hasP_iff.1 e
  rw [hasP_iff.2 ⟨x, (mem_del.1 hx).1, e2⟩] at h
  cases h
theorem hasP_del_self {α : Type} {f : α -> Int} {l : List α} {t : Int} : hasP f (delP f l t) t = false := by
 cases e : hasP f (delP f l t) t with
 | false => rfl
 | true =>
  obtain ⟨x, hx, e2⟩ := hasP_iff.1 e
  exact absurd e2 (mem_del.1 hx).2
theorem mem_ins {α : Type} {f : α -> Int} {l : List α} {x y : α} : y ∈ insP f l x ↔ y = x ∨ y ∈ l := by
 have e := List.takeWhile_append_dropWhile (p := fun y => decide (f y < f x)) (l := l)
 unfold insP
 rw [List.mem_append, List.mem_cons]
 constructor
 ·rintro (h | h | h)
  ·right; rw [<- e]; exact List.mem_append_left _ h
  ·exact .inl h
  ·right; rw [<- e]; exact List.mem_append_right _ h
 ·rintro (h | h)
  ·exact .inr (.inl h)
  ·rw [<- e, List.mem_append] at h
   rcases h with h | h
   ·exact .inl h
   ·exact .inr (.inr h)
theorem len_ins {α : Type} (f : α -> Int) (l : List α) (x : α) : (insP f l x).length = l.length + 1 := by
 have e := congrArg List.length (List.takeWhile_append_dropWhile (p := fun y => decide (f y < f x)) (l := l))
 unfold insP
 rw [List.length_append] at e
 rw [List.length_append, List.length_cons]
 omega
theorem hasP_ins {α : Type} {f : α -> Int} {l : List α} {x : α} {u : Int} (h : hasP f l u = false) (hn : u ≠ f x) : hasP f (insP f l x) u = false := by
 cases e : hasP f (insP f l x) u with
 | false => rfl
 | true =>
  obtain ⟨y, hy, e2⟩ := hasP_iff.1 e
  rcases mem_ins.1 hy with rfl | hy
  ·exact absurd e2.symm hn
  ·rw [hasP_iff.2 ⟨y, hy, e2⟩] at h; cases h
theorem drop_ge {α : Type} {f : α -> Int} {t : Int} : ∀ {l : List α}, (l.map f).Pairwise (· < ·) -> ∀ y ∈ l.dropWhile (fun y => decide (f y < t)), t <= f y
 | [], _, y, hy => by simp at hy
 | a :: r, h, y, hy => by
  rw [List.map_cons, List.pairwise_cons] at h
  rw [List.dropWhile_cons] at hy
  split at hy
  ·exact drop_ge h.2 y hy
  ·rename_i hn
   simp only [decide_eq_true_eq] at hn
   rcases List.mem_cons.1 hy with rfl | hy
   ·omega
   ·have := h.1 (f y) (List.mem_map_of_mem hy)
    omega
theorem mem_tw {α : Type} {p : α -> Bool} : ∀ {l : List α} {x : α}, x ∈ l.takeWhile p -> p x = true
 | [], x, h => by simp at h
 | a :: r, x, h => by
  rw [List.takeWhile_cons] at h
  split at h
  ·rename_i ha
   rcases List.mem_cons.1 h with rfl | h
   ·exact ha
   ·exact mem_tw h
  ·cases h
theorem strict_ins {α : Type} {f : α -> Int} {l : List α} {x : α} (h : strictB (l.map f) = true) (hn : hasP f l (f x) = false) : strictB ((insP f l x).map f) = true := by
 rw [strict_iff] at h ⊢
 have e := List.takeWhile_append_dropWhile (p := fun y => decide (f y < f x)) (l := l)
 have h0 := h
 rw [<- e, List.map_append, List.pairwise_append] at h
 unfold insP
 rw [List.map_append, List.map_cons, List.pairwise_append, List.pairwise_cons]
 have hd : ∀ b ∈ (l.dropWhile (fun y => decide (f y < f x))).map f, f x < b := by
  intro b hb
  obtain ⟨y, hy, rfl⟩ := List.mem_map.1 hb
  have h1 := drop_ge h0 y hy
  have h2 : f y ≠ f x := fun e2 => by
   have hm : y ∈ l := (List.dropWhile_sublist _).subset hy
   rw [hasP_iff.2 ⟨y, hm, e2⟩] at hn; cases hn
  omega
 refine ⟨h.1, ⟨hd, h.2.1⟩, ?_⟩
 intro a ha b hb
 have ha2 : a < f x := by
  obtain ⟨y, hy, rfl⟩ := List.mem_map.1 ha
  have := mem_tw hy
  simpa using this
 rcases List.mem_cons.1 hb with rfl | hb
 ·exact ha2
 ·have := hd b hb; omega
structure MsgP (s : StM) (m : MsgM) : Prop where
 seq : 1 <= m.seq /\ m.seq < s.nseq
 home : homeM m.id = s.broker
 low : m.id % 4294967296 < s.nid
 q : queueB m.q = true
 b : bodyB m.b = true
 cnt : 0 <= m.cnt /\ m.cnt <= 1000
 who : m.who = 0 ∨ (tidB m.who = true /\ hasP (·.tid) s.ends m.who = false)
structure WaitP (s : StM) (w : BrM) : Prop where
 tid : tidB w.tid = true
 no : hasP (·.tid) s.ends w.tid = false
 len : w.puts.length <= 10
 puts : w.puts.all putB = true
structure PendP (b : Int) (p : PendM) : Prop where
 home : homeM p.tid = b
 len : 1 <= p.parts.length /\ p.parts.length <= 7
 rising : risingB p.parts = true
 other : p.parts.contains b = false
structure MayP (s : StM) : Prop where
 br : 1 <= s.broker /\ s.broker <= 8
 nid : 1 <= s.nid /\ s.nid <= 4294967296
 nseq : 1 <= s.nseq /\ s.nseq <= 1099511627776
 tx : 0 <= s.tx /\ s.tx <= 200
 lms : s.ms.length <= 72
 lw : s.waits.length <= 2000
 le : s.ends.length <= 2000
 lo : s.opens.length <= 2000
 ln : s.noes.length <= 2000
 ms : ∀ m ∈ s.ms, MsgP s m
 mseq : strictB (s.ms.map (·.seq)) = true
 mids : (s.ms.map (·.id)).Nodup
 ends : ∀ e ∈ s.ends, tidB e.tid = true
 ends2 : strictB (s.ends.map (·.tid)) = true
 waits : ∀ w ∈ s.waits, WaitP s w
 waits2 : strictB (s.waits.map (·.tid)) = true
 opens : ∀ p ∈ s.opens, PendP s.broker p /\ hasP (·.tid) s.ends p.tid = false /\ hasP (·.tid) s.waits p.tid = false
 opens2 : strictB (s.opens.map (·.tid)) = true
 noes : ∀ p ∈ s.noes, PendP s.broker p /\ ∃ e ∈ s.ends, e.tid = p.tid /\ e.yes = false
 noes2 : strictB (s.noes.map (·.tid)) = true
theorem msgB_iff (s : StM) (m : MsgM) : msgB s m = true ↔ MsgP s m := by
 unfold msgB
 simp only [Bool.and_eq_true, Bool.or_eq_true, decide_eq_true_eq, Bool.not_eq_true']
 constructor
 ·rintro ⟨⟨⟨⟨⟨⟨h1, h2⟩, h3⟩, h4⟩, h5⟩, h6⟩, h7⟩
  exact ⟨h1, h2, h3, h4, h5, h6, h7⟩
 ·rintro ⟨h1, h2, h3, h4, h5, h6, h7⟩
  exact ⟨⟨⟨⟨⟨⟨h1, h2⟩, h3⟩, h4⟩, h5⟩, h6⟩, h7⟩
theorem pendB_iff (s : StM) (p : PendM) : pendB s p = true ↔ PendP s.broker p := by
 unfold pendB
 simp only [Bool.and_eq_true, decide_eq_true_eq, Bool.not_eq_true']
 constructor
 ·rintro ⟨⟨⟨h1, h2⟩, h3⟩, h4⟩
  exact ⟨h1, h2, h3, h4⟩
 ·rintro ⟨h1, h2, h3, h4⟩
  exact ⟨⟨⟨h1, h2⟩, h3⟩, h4⟩
theorem may_iff (s : StM) : mayM s = true ↔ MayP s := by
 unfold mayM msB endsB waitsB pendsB sidesB brokerB
 simp only [Bool.and_eq_true, decide_eq_true_eq, List.all_eq_true, Bool.not_eq_true', msgB_iff, pendB_iff, List.any_eq_true]
 constructor
 ·rintro ⟨⟨⟨⟨⟨⟨⟨⟨⟨⟨⟨⟨⟨⟨h1, h2⟩, h3⟩, h4⟩, h5⟩, h6⟩, h7⟩, h8⟩, h9⟩, ⟨ha, hb⟩, hc⟩, hd, he⟩, hf, hg⟩, hh, hi⟩, hj, hk⟩, hl, hm⟩
  exact ⟨h1, h2, h3, h4, h5, h6, h7, h8, h9, ha, hb, hc, hd, he, fun w hw => ⟨(hf w hw).1.1.1, (hf w hw).1.1.2, (hf w hw).1.2, List.all_eq_true.2 (hf w hw).2⟩, hg,
   fun p hp => ⟨hh p hp, (hl p hp).1, (hl p hp).2⟩, hi, fun p hp => ⟨hj p hp, hm p hp⟩, hk⟩
 ·rintro ⟨h1, h2, h3, h4, h5, h6, h7, h8, h9, ha, hb, hc, hd, he, hf, hg, hh, hi, hj, hk⟩
  exact ⟨⟨⟨⟨⟨⟨⟨⟨⟨⟨⟨⟨⟨⟨h1, h2⟩, h3⟩, h4⟩, h5⟩, h6⟩, h7⟩, h8⟩, h9⟩, ⟨ha, hb⟩, hc⟩, hd, he⟩, fun w hw => ⟨⟨⟨(hf w hw).tid, (hf w hw).no⟩, (hf w hw).len⟩, List.all_eq_true.1 (hf w hw).puts⟩, hg⟩, fun p hp => (hh p hp).1, hi⟩, fun p hp => (hj p hp).1, hk⟩, fun p hp => (hh p hp).2, fun p hp => (hj p hp).2⟩
theorem make_eq {b n : Int} (hb : 1 <= b /\ b <= 8) (hn : 1 <= n /\ n < 4294967296) : makeM b n = b * 4294967296 + n := if_pos ⟨hb.1, hb.2, hn.1, hn.2⟩
theorem home_make {b n : Int} (hb : 1 <= b /\ b <= 8) (hn : 1 <= n /\ n < 4294967296) : homeM (makeM b n) = b := by
 rw [make_eq hb hn]
 unfold homeM
 rw [if_pos (by omega)]
 omega
theorem low_make {b n : Int} (hb : 1 <= b /\ b <= 8) (hn : 1 <= n /\ n < 4294967296) : makeM b n % 4294967296 = n := by
 rw [make_eq hb hn]
 omega
theorem home_pos {t b : Int} (h : homeM t = b) (hb : 1 <= b) : t = b * 4294967296 + t % 4294967296 /\ 1 <= t % 4294967296 /\ t % 4294967296 < 4294967296 := by
 unfold homeM at h
 split at h
 ·omega
 ·omega
theorem left_seq (ms : List MsgM) (tid : Int) (yes : Bool) : ((leftM ms tid yes).map (·.seq)).Sublist (ms.map (·.seq)) := by
 induction ms with
 | nil => exact List.Sublist.refl _
 | cons a r ih =>
  unfold leftM at ih ⊢
  rw [List.filterMap_cons]
  split
  ·exact (ih.trans (List.sublist_cons_self _ _))
  ·rename_i x hx
   have e : x.seq = a.seq := by
    split at hx
    ·split at hx
     ·cases hx
     ·injection hx with hx; rw [<- hx]
    ·injection hx with hx; rw [<- hx]
   rw [List.map_cons, List.map_cons, e]
   exact ih.cons_cons _
theorem left_id (ms : List MsgM) (tid : Int) (yes : Bool) : ((leftM ms tid yes).map (·.id)).Sublist (ms.map (·.id)) := by
 induction ms with
 | nil => exact List.Sublist.refl _
 | cons a r ih =>
  unfold leftM at ih ⊢
  rw [List.filterMap_cons]
  split
  ·exact (ih.trans (List.sublist_cons_self _ _))
  ·rename_i x hx
   have e : x.id = a.id := by
    split at hx
    ·split at hx
     ·cases hx
     ·injection hx with hx; rw [<- hx]
    ·injection hx with hx; rw [<- hx]
   rw [List.map_cons, List.map_cons, e]
   exact ih.cons_cons _
theorem mem_left {ms : List MsgM} {tid : Int} {yes : Bool} {x : MsgM} : x ∈ leftM ms tid yes ↔ ∃ m ∈ ms, (m.who ≠ tid /\ x = m) ∨ (m.who = tid /\ yes = false /\ x = { m with who := 0, cnt := min (m.cnt + 1) 1000 }) := by
 unfold leftM
 rw [List.mem_filterMap]
 constructor
 ·rintro ⟨m, hm, h⟩
  refine ⟨m, hm, ?_⟩
  split at h
  ·rename_i hw
   split at h
   ·cases h
   ·rename_i hy
    injection h with h
    exact .inr ⟨hw, by simpa using hy, h.symm⟩
  ·rename_i hw
   injection h with h
   exact .inl ⟨hw, h.symm⟩
 ·rintro ⟨m, hm, ⟨h1, rfl⟩ | ⟨h1, h2, rfl⟩⟩
  ·exact ⟨x, hm, by rw [if_neg h1]⟩
  ·exact ⟨m, hm, by rw [if_pos h1, h2]; rfl⟩
theorem puts_len : ∀ (l : List PutM) (b n s : Int), (putsM b n s l).length = l.length
 | [], _, _, _ => rfl
 | p :: r, b, n, s => by simp [putsM, puts_len r]
theorem puts_get : ∀ (l : List PutM) (b n s : Int) (x : MsgM), x ∈ putsM b n s l -> ∃ k : Nat, ∃ p, k < l.length /\ p ∈ l /\ x = ⟨makeM b (n + k), p.q, p.b, s + k, 0, 0⟩
 | [], _, _, _, x, h => by simp [putsM] at h
 | p :: r, b, n, s, x, h => by
  rw [putsM] at h
  rcases List.mem_cons.1 h with rfl | h
  ·exact ⟨0, p, by simp, by simp, by simp⟩
  ·obtain ⟨k, q, h1, h2, h3⟩ := puts_get r b (n + 1) (s + 1) x h
   refine ⟨k + 1, q, by simpa using h1, by simp [h2], ?_⟩
   rw [h3]
   have e1 : n + 1 + (k : Int) = n + ((k + 1 : Nat) : Int) := by omega
   have e2 : s + 1 + (k : Int) = s + ((k + 1 : Nat) : Int) := by omega
   rw [e1, e2]
theorem puts_seq : ∀ (l : List PutM) (b n s : Int), ((putsM b n s l).map (·.seq)).Pairwise (· < ·)
 | [], _, _, _ => by simp [putsM]
 | p :: r, b, n, s => by
  rw [putsM, List.map_cons, List.pairwise_cons]
  refine ⟨?_, puts_seq r b (n + 1) (s + 1)⟩
  intro z hz
  obtain ⟨x, hx, rfl⟩ := List.mem_map.1 hz
  obtain ⟨k, q, _, _, rfl⟩ := puts_get _ _ _ _ _ hx
  show s < s + 1 + k
  omega
theorem puts_id : ∀ (l : List PutM) (b n s : Int), 1 <= b /\ b <= 8 -> 1 <= n -> n + l.length <= 4294967296 -> ((putsM b n s l).map (·.id)).Pairwise (· < ·)
 | [], _, _, _, _, _, _ => by simp [putsM]
 | p :: r, b, n, s, hb, hn, hl => by
  rw [List.length_cons] at hl
  rw [putsM, List.map_cons, List.pairwise_cons]
  refine ⟨?_, puts_id r b (n + 1) (s + 1) hb (by omega) (by omega)⟩
  intro z hz
  obtain ⟨x, hx, rfl⟩ := List.mem_map.1 hz
  obtain ⟨k, q, hk, _, rfl⟩ := puts_get _ _ _ _ _ hx
  show makeM b n < makeM b (n + 1 + k)
  rw [make_eq hb (by omega), make_eq hb (by omega)]
  omega
theorem pending_del_le (l : List BrM) (t : Int) : ((delP (·.tid) l t).map (·.puts.length)).sum <= (l.map (·.puts.length)).sum := by
 induction l with
 | nil => exact Nat.le_refl _
 | cons a r ih =>
  simp only [delP] at ih ⊢
  rw [List.filter_cons]
  split
  ·simp only [List.map_cons, List.sum_cons]; omega
  ·simp only [List.map_cons, List.sum_cons]; omega
theorem pending_del (l : List BrM) (t : Int) (w : BrM) (hw : w ∈ l) (e : w.tid = t) : ((delP (·.tid) l t).map (·.puts.length)).sum + w.puts.length <= (l.map (·.puts.length)).sum := by
 induction l with
 | nil => cases hw
 | cons a r ih =>
  rcases List.mem_cons.1 hw with rfl | hw
  ·have := pending_del_le r t
   simp only [delP] at this ⊢
   rw [List.filter_cons, if_neg (by simp [e])]
   simp only [List.map_cons, List.sum_cons]; omega
  ·have := ih hw
   simp only [delP] at this ⊢
   rw [List.filter_cons]
   split
   ·simp only [List.map_cons, List.sum_cons]; omega
   ·simp only [List.map_cons, List.sum_cons]; omega
theorem perm_ins {α : Type} (f : α -> Int) (l : List α) (x : α) : (insP f l x).Perm (x :: l) := by
 unfold insP
 have e := List.takeWhile_append_dropWhile (p := fun y => decide (f y < f x)) (l := l)
 exact (List.perm_middle).trans (by rw [e])
theorem pending_ins (l : List BrM) (x : BrM) : ((insP (·.tid) l x).map (·.puts.length)).sum = x.puts.length + (l.map (·.puts.length)).sum := by
 rw [((perm_ins (·.tid) l x).map _).sum_nat]
 simp
end
section
open Go.RowKit Go.Maps
def OkT (s : Txt) : Prop := s.length <= lim
def OkPut (p : PutM) : Prop := OkT p.q /\ OkT p.b
def OkMsg (m : MsgM) : Prop := I64 m.id /\ OkT m.q /\ OkT m.b /\ I64 m.seq /\ I64 m.cnt /\ I64 m.who
structure OkRec (r : RecM) : Prop where
 kind : I64 r.kind
 tid : I64 r.tid
 id : I64 r.id
 parts : ∀ x ∈ r.parts, I64 x
 puts : ∀ p ∈ r.puts, OkPut p
structure OkSt (s : StM) : Prop where
 broker : I64 s.broker
 nid : I64 s.nid
 nseq : I64 s.nseq
 tx : I64 s.tx
 ms : ∀ m ∈ s.ms, OkMsg m
 waits : ∀ b ∈ s.waits, I64 b.tid /\ ∀ p ∈ b.puts, OkPut p
 ends : ∀ e ∈ s.ends, I64 e.tid
 opens : ∀ p ∈ s.opens, I64 p.tid /\ ∀ x ∈ p.parts, I64 x
 noes : ∀ p ∈ s.noes, I64 p.tid /\ ∀ x ∈ p.parts, I64 x
theorem OkT.size {s : Txt} (h : OkT s) : (ByteArray.mk s.toArray).size <= 9223372036854775807 := by
 have : (ByteArray.mk s.toArray).size = s.length := by simp [ByteArray.size]
 unfold OkT lim at h; omega
theorem kput_t (p : PutM) (hp : OkPut p) (w : World) : Calls Tryz.prog 162 #[.agg #[strV p.q, strV p.b]] w fun e w' => e = .returned (.bool (putB p)) /\ Tch No w w' := by
 have := kput_any ⟨p.q.toArray⟩ ⟨p.b.toArray⟩ w hp.1.size hp.2.size
 simpa [strV] using this
theorem ints_cells {w : World} {v : Value} {l : List Int} (h : IsInts w v l) :
  (v = .slice none 0 0 /\ l = []) ∨ ∃ b o cap, v = .slice (some ⟨b, o, none⟩) l.length cap /\ l.length <= cap /\ cap <= maxLen /\ b < w.heap.size /\ ∀ i (hi : i < l.length), w.cell? ⟨b, o + i, none⟩ = some (.int .i64 l[i]) := by
 rcases h.2 with ⟨h1, h2⟩ | ⟨b, o, cap, h1, h2, h3, h4, h5⟩
 ·exact .inl ⟨h1, List.eq_nil_of_length_eq_zero h2⟩
 ·exact .inr ⟨b, o, cap, h1, h2, h3, h4, fun i hi => h5 i _ (by simp [hi])⟩
theorem puts_cells {w : World} {v : Value} {l : List PutM} (h : IsPuts w v l) :
  (v = .slice none 0 0 /\ l = []) ∨ ∃ b o cap, v = .slice (some ⟨b, o, none⟩) l.length cap /\ l.length <= cap /\ cap <= maxLen /\ b < w.heap.size /\ ∀ i (hi : i < l.length), w.cell? ⟨b, o + i * 2, none⟩ = some (strV l[i].q) /\ w.cell? ⟨b, o + i * 2 + 1, none⟩ = some (strV l[i].b) := by
 rcases h.2 with ⟨h1, h2⟩ | ⟨b, o, cap, h1, h2, h3, h4, h5⟩
 ·exact .inl ⟨h1, List.eq_nil_of_length_eq_zero h2⟩
 ·refine .inr ⟨b, o, cap, h1, h2, h3, h4, fun i hi => ⟨?_, ?_⟩⟩
  ·have := h5 (i * 2 + 0) (strV l[i].q) (by rw [flat_get encPut 2 (fun _ => rfl) l i 0 hi (by omega)]; rfl)
   simpa using this
  ·have := h5 (i * 2 + 1) (strV l[i].b) (by rw [flat_get encPut 2 (fun _ => rfl) l i 1 hi (by omega)]; rfl)
   simpa [Nat.add_assoc] using this
theorem strict_idx : ∀ {l : List Int}, strictB l = true ↔ ∀ i (h : i + 1 < l.length), l[i] < l[i + 1]
 | [] => by simp [strictB]
 | [a] => by simp [strictB]
 | a :: b :: r => by
  rw [strictB, Bool.and_eq_true, decide_eq_true_eq, strict_idx (l := b :: r)]
  constructor
  ·rintro ⟨h1, h2⟩ i h
   match i with
   | 0 => exact h1
   | i + 1 => exact h2 i (by simpa using h)
  ·intro h
   exact ⟨h 0 (by simp), fun i hi => h (i + 1) (by simpa using hi)⟩
def RiseTo (l : List Int) (k : Nat) : Prop := ∀ i (h : i < l.length), i < k -> brokerB l[i] = true /\ ∀ (h0 : 0 < i), l[i - 1] < l[i]
theorem rise_all {l : List Int} : RiseTo l l.length ↔ risingB l = true := by
 unfold RiseTo risingB
 rw [Bool.and_eq_true, strict_idx, List.all_eq_true]
 constructor
 ·intro h
  refine ⟨fun x hx => ?_, fun i hi => ?_⟩
  ·obtain ⟨i, hi, rfl⟩ := List.getElem_of_mem hx
   exact (h i hi hi).1
  ·exact (h (i + 1) hi hi).2 (by omega)
 ·rintro ⟨h1, h2⟩ i hi _
  refine ⟨h1 _ (List.getElem_mem hi), fun h0 => ?_⟩
  have := h2 (i - 1) (by omega)
  simpa [Nat.sub_add_cancel h0] using this
theorem rise_bad {l : List Int} {k : Nat} (hk : k < l.length) (h : brokerB l[k] = false ∨ ∃ h0 : 0 < k, ¬ l[k - 1] < l[k]) : risingB l = false := by
 cases e : risingB l with
 | false => rfl
 | true =>
  have := (rise_all.2 e) k hk hk
  rcases h with h | ⟨h0, h⟩
  ·rw [this.1] at h; cases h
  ·exact absurd (this.2 h0) h
theorem rise_step {l : List Int} {k : Nat} (h : RiseTo l k) (hk : k < l.length) (hb : brokerB l[k] = true) (hp : ∀ h0 : 0 < k, l[k - 1] < l[k]) : RiseTo l (k + 1) := by
 intro i hi hik
 by_cases e : i = k
 ·subst e; exact ⟨hb, hp⟩
 ·exact h i hi (by omega)
theorem krising_any (l : List Int) (v : Value) (lo hi : Int) (w : World) (h : IsInts w v l) :
  Calls Tryz.prog 163 #[v, .int .i64 lo, .int .i64 hi] w fun e w' => e = .returned (.bool (risingB l && (decide (lo <= (l.length : Int)) && decide ((l.length : Int) <= hi)))) /\ Tch No w w' := by
 have H := Lib.hid h
 obtain ⟨m, hm⟩ : ∃ m, l.length = m := ⟨_, rfl⟩
 have HM := Lib.hid hm
 obtain ⟨a, cap, hv, hcap, hmax⟩ := CellsAt.shape h
 rw [hm] at hcap hv ⊢
 have hml : m <= 9223372036854775807 := by unfold maxLen at hmax; omega
 have HB := Lib.hid (fun n W => kbroker_any n W)
 subst hv
 clear h hm hcap hmax
 go_enter Tryz.func163, Tryz.ntmps163
 go_wp2_with fail
 go_loopg [11] m (fun kx s11 wr => ∃ k : Nat, s11 = .int .i64 k /\ k <= m /\ m - k <= kx /\ wr = w /\ Hid (RiseTo l k))
 case atStart => exact ⟨0, rfl, Nat.zero_le _, by omega, rfl, fun i _ h => absurd h (Nat.not_lt_zero _)⟩
 case round =>
  obtain ⟨k, rfl, hk, hg, rfl, I⟩ := hrel
  by_cases hlt : k < m
  ·have hkl : k < l.length := by have := HM.out; omega
   have hb : ∃ b o, a = some ⟨b, o, none⟩ /\ ∀ i (hi : i < l.length), wr.cell? ⟨b, o + i, none⟩ = some (.int .i64 l[i]) := by
    rcases ints_cells H.out with ⟨_, h0⟩ | ⟨b, o, cap2, h1, _, _, _, h5⟩
    ·subst h0; simp at hkl
    ·rw [HM.out] at h1
     injection h1 with h1 _ _
     exact ⟨b, o, h1, h5⟩
   obtain ⟨b, o, rfl, hc⟩ := hb
   have hc1 := hc k hkl
   have HC := Lib.hid hc
   clear hc
   obtain ⟨x, hx⟩ : ∃ x, l[k] = x := ⟨_, rfl⟩
   rw [hx] at hc1
   have HX := Lib.hid hx
   clear hx
   cases hbx : brokerB x with
   | false =>
    have HB2 : Hid (∀ W, Calls Tryz.prog 53 #[.int .i64 x] W fun e w' => e = .returned (.bool false) /\ W = w') := fun W => by rw [<- hbx]; exact HB.out x W
    have HX2 := Lib.hid hbx
    clear hbx
    go_wp2_with (go_at_call 53; refine (HB2.out _).mono ?_; rintro e w' ⟨rfl, rfl⟩)
    go_ret
    exact ⟨ret_b (by rw [rise_bad hkl (.inl (by rw [HX.out]; exact HX2.out))]; rfl), Tch.refl _ _⟩
   | true =>
    have HB2 : Hid (∀ W, Calls Tryz.prog 53 #[.int .i64 x] W fun e w' => e = .returned (.bool true) /\ W = w') := fun W => by rw [<- hbx]; exact HB.out x W
    have HX2 := Lib.hid hbx
    clear hbx
    by_cases h0 : k = 0
    ·have HI : Hid (RiseTo l (k + 1)) := rise_step I.out hkl (by rw [HX.out]; exact HX2.out) (fun h => by omega)
     subst h0
     simp only [Nat.add_zero] at hc1
     go_wp2_with (go_at_call 53; refine (HB2.out _).mono ?_; rintro e w' ⟨rfl, rfl⟩)
     go_roundg (m - 1)
     case measure => omega
     case rel => exact ⟨1, by go_num, by omega, by omega, rfl, HI⟩
    ·have hk0 : 0 < k := by omega
     have hc2 := HC.out (k - 1) (by omega)
     obtain ⟨y, hy⟩ : ∃ y, l[k - 1] = y := ⟨_, rfl⟩
     rw [hy] at hc2
     have HY := Lib.hid hy
     clear hy
     have hk1 : (k : Int) - 1 = ((k - 1 : Nat) : Int) := by omega
     have hk3 : k - 1 < m := by omega
     by_cases hyx : y < x
     ·have HI : Hid (RiseTo l (k + 1)) := rise_step I.out hkl (by rw [HX.out]; exact HX2.out) (fun h => by rw [HY.out, HX.out]; exact hyx)
      have hd : decide (x <= y) = false := decide_eq_false (by omega)
      go_wp2_with (go_at_call 53; refine (HB2.out _).mono ?_; rintro e w' ⟨rfl, rfl⟩)
      go_roundg (m - (k + 1))
      case measure => omega
      case rel => exact ⟨k + 1, by go_num, by omega, by omega, rfl, HI⟩
     ·have hd : decide (x <= y) = true := decide_eq_true (by omega)
      have HN : Hid (risingB l = false) := rise_bad hkl (.inr ⟨hk0, by rw [HY.out, HX.out]; exact hyx⟩)
      go_wp2_with (go_at_call 53; refine (HB2.out _).mono ?_; rintro e w' ⟨rfl, rfl⟩)
      go_ret
      exact ⟨ret_b (by rw [HN.out]; rfl), Tch.refl _ _⟩
  ·obtain rfl : k = m := by omega
   have HN : Hid (risingB l = true) := rise_all.1 (by rw [HM.out]; exact I.out)
   by_cases h1 : lo <= (k : Int)
   ·have hd : decide (lo <= (k : Int)) = true := decide_eq_true h1
    go_wp2_with fail
    go_ret
    exact ⟨ret_b (by first | rfl | (rw [HN.out]; rfl) | (rw [HN.out, hd]; rfl) | simp [HN.out]), Tch.refl _ _⟩
   ·have hd : decide (lo <= (k : Int)) = false := decide_eq_false h1
    go_wp2_with fail
    go_ret
    exact ⟨ret_b (by first | rfl | (rw [HN.out]; rfl) | (rw [HN.out, hd]; rfl) | simp [HN.out]), Tch.refl _ _⟩
end
section
open Go.RowKit Go.Maps
structure TchW (w : World) where
 wo : World
 t : Tch No w wo
instance (w : World) : Inhabited (TchW w) := ⟨⟨w, Tch.refl _ _⟩⟩
theorem wp_region_qt {P : Program} {id : Nat} {Q : Exit -> Act -> World -> Prop} {a : Act} {w : World} {l : List Oper} (hm : P.follows .mixedOrders = true) (hB : Region.lexB .any l.toArray = true)
  (h : wpQuiet P l.toArray (fun w' => ∃ p : TchW w, w' = p.wo) (fun a' => ∀ w', (∃ p : TchW w, w' = p.wo) -> Q .normal a' w') l a) : (Code.region id l.toArray true).wp P Q a w :=
 wp_region_quiet (C := fun w' => ∃ p : TchW w, w' = p.wo) hm hB ⟨⟨w.drew, Tch.drew w⟩, rfl⟩ (by simpa using h)
theorem qt_t {P : Program} {f : FuncId} {args : Array Value} {w : World} {p : TchW w} {v : Value} (h : Calls P f args p.wo fun e w' => e = .returned v /\ Tch No p.wo w') :
  Calls P f args p.wo fun e w'' => e = .returned v /\ ∃ q : TchW w, w'' = q.wo :=
 h.mono fun _ x ⟨he, t⟩ => ⟨he, ⟨x, p.t.trans0 t⟩, rfl⟩
theorem cz {P : Program} {f : FuncId} {args : Array Value} {w0 w : World} {v : Value} {Q : Ending -> World -> Prop} (H : ∀ W, Tch No w0 W -> Calls P f args W fun e w' => e = .returned v /\ Tch No W w') (T : Hid (Tch No w0 w)) {p : TchW w} (h : ∀ q : TchW w, Q (.returned v) q.wo) : Calls P f args p.wo Q :=
  (qt_t (H p.wo (T.out.trans0 p.t))).mono (by rintro e _ ⟨rfl, q, rfl⟩; exact h q)
theorem qt_s {P : Program} {f : FuncId} {args : Array Value} {w : World} {p : TchW w} {v : Value} (h : Calls P f args p.wo fun e w' => e = .returned v /\ p.wo = w') :
  Calls P f args p.wo fun e w'' => e = .returned v /\ ∃ q : TchW w, w'' = q.wo :=
 h.mono fun _ x ⟨he, t⟩ => ⟨he, p, t.symm⟩
theorem TchW.cell {w : World} (p : TchW w) {a : Addr} {v : Value} (h : w.cell? a = some v) : p.wo.cell? a = some v := p.t.cell h (fun h => h)
theorem wp_world {P : Program} {c : Code} {Q : Exit -> Act -> World -> Prop} {a : Act} {w : World} (F : World -> Prop) (hF : F w) (h : ∀ w', F w' -> Code.wp P c Q a w') : Code.wp P c Q a w := h w hF
def RiseQ (q : Int -> Bool) (l : List Int) (k : Nat) : Prop := ∀ i (h : i < l.length), i < k -> q l[i] = true /\ ∀ (h0 : 0 < i), l[i - 1] < l[i]
theorem riseQ_all {q : Int -> Bool} {l : List Int} : RiseQ q l l.length ↔ (l.all q && strictB l) = true := by
 unfold RiseQ
 rw [Bool.and_eq_true, strict_idx, List.all_eq_true]
 constructor
 ·intro h
  refine ⟨fun x hx => ?_, fun i hi => ?_⟩
  ·obtain ⟨i, hi, rfl⟩ := List.getElem_of_mem hx
   exact (h i hi hi).1
  ·exact (h (i + 1) hi hi).2 (by omega)
 ·rintro ⟨h1, h2⟩ i hi _
  refine ⟨h1 _ (List.getElem_mem hi), fun h0 => ?_⟩
  have := h2 (i - 1) (by omega)
  simpa [Nat.sub_add_cancel h0] using this
theorem riseQ_bad {q : Int -> Bool} {l : List Int} {k : Nat} (hk : k < l.length) (h : q l[k] = false ∨ ∃ h0 : 0 < k, ¬ l[k - 1] < l[k]) : (l.all q && strictB l) = false := by
 cases e : (l.all q && strictB l) with
 | false => rfl
 | true =>
  have := (riseQ_all.2 e) k hk hk
  rcases h with h | ⟨h0, h⟩
  ·rw [this.1] at h; cases h
  ·exact absurd (this.2 h0) h
theorem riseQ_step {q : Int -> Bool} {l : List Int} {k : Nat} (h : RiseQ q l k) (hk : k < l.length) (hb : q l[k] = true) (hp : ∀ h0 : 0 < k, l[k - 1] < l[k]) : RiseQ q l (k + 1) := by
 intro i hi hik
 by_cases e : i = k
 ·subst e; exact ⟨hb, hp⟩
 ·exact h i hi (by omega)
end
section
open Go.RowKit Go.Maps
abbrev LRow := Option Nat × List Nat × List Nat
def lrow (ops : Array Oper) (o : Oper) : LRow := (o.dst, o.looksAt ops, (o.after.toList.filter (Region.binds .any)).map (·.on))
theorem lon_mem {ops : Array Oper} {o : Oper} {k : Nat} : k ∈ (lrow ops o).2.2 ↔ ∃ e ∈ o.after, Region.binds .any e = true /\ e.on = k := by
 unfold lrow
 simp only [List.mem_map, List.mem_filter, Array.mem_toList_iff]
 constructor
 ·rintro ⟨e, ⟨h1, h2⟩, h3⟩; exact ⟨e, h1, h2, h3⟩
 ·rintro ⟨e, h1, h2, h3⟩; exact ⟨e, ⟨h1, h2⟩, h3⟩
end
end Go.Proofs.YtafndmnbnmlklaaGreat
