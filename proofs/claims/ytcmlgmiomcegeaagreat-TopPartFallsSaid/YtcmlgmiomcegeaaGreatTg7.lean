/- The texts EwQ, EwG, InsL, EwO, EwI, InsS, EwV, one behind the other. No condition. -/
import Derived.Test.YtcmlgmiomcegeaaGreatTg3
import Derived.Test.YtcmlgmiomcegeaaGreatIter
import Derived.Test.YtcmlgmiomcegeaaGreatTg4
import Derived.Test.YtcmlgmiomcegeaaGreatTg1
import Derived.Deep.LoopGhost
import Derived.BigQuiet
import Derived.Deep.CutBlock
import Derived.StringKeys
import Derived.OrdersHeld
import Derived.RegionTactic
import Derived.Laws.IdiomCopy
import Derived.Lib.Overlaps
import Derived.Lib.AppendZerosOnto
import Derived.Shelf.Spec.SlicesInsert
import Derived.Laws.NewBlocks
import Derived.Test.YtcmlgmiomcegeaaGreatTg2
namespace Go.Proofs.YtcmlgmiomcegeaaGreat.Ev
open Go Go.RowKit Go.Maps Go.Sort Go.Shelf
set_option linter.unusedVariables false
set_option linter.unusedSectionVars false
variable [Env]
set_option maxHeartbeats 1000000 in
theorem sortedK : SortedK Tryz.prog 498 518 9 := by
  refine ⟨Tryz.underlying9, fun k b nn D0 W hk hc hown hle => ?_, ⟨_, Tryz.func498, rfl⟩⟩
  have hseq : SeqGives Fence.wide 2 Tryz.prog 518 #[.pointer (some ⟨k, 0, none⟩)] encStr (fun ss => ss.Perm (strKeys D0)) (Maps.size D0) W :=
    AnyZ.keys_gives (ρ := Tryz.keys499_ren) { Tryz.keys499 with } Fence.wide _ trivial rfl (by omega) k b nn D0 _ hk hc hown
  exact callsIn_wide.1 (AnyZ.sorted_in Tryz.sorted498 Fence.wide 5 trivial trivial trivial trivial rfl (by omega) (Tryz.sorts498 _) (enters_of Tryz.func396 (by kernel_rfl) rfl) 518 #[.pointer (some ⟨k, 0, none⟩)] trivial (enters_of Tryz.func518 (by kernel_rfl) rfl) _ _ (by simp only [maxLen]; omega) (by omega) _ hseq)
theorem srt_ok {orc : Orc} (ho : OrcOK Tryz.prog orc) : OrcOK Tryz.prog (srtOrc 498 518 9 orc) := srtOrc_ok sortedK ho
end Go.Proofs.YtcmlgmiomcegeaaGreat.Ev
namespace Go.Proofs.YtcmlgmiomcegeaaGreat.Ev
open Go Go.RowKit Go.Maps Go.Sort Go.Shelf
set_option linter.unusedVariables false
set_option linter.unusedSectionVars false
variable [Env]
set_option maxHeartbeats 1000000 in
theorem sortedK2 : SortedK Tryz.prog 498 536 9 := by
  refine ⟨Tryz.underlying9, fun k b nn D0 W hk hc hown hle => ?_, ⟨_, Tryz.func498, rfl⟩⟩
  have hseq : SeqGives Fence.wide 2 Tryz.prog 536 #[.pointer (some ⟨k, 0, none⟩)] encStr (fun ss => ss.Perm (strKeys D0)) (Maps.size D0) W :=
    AnyZ.keys_gives (ρ := Tryz.keys531_ren) { Tryz.keys531 with } Fence.wide _ trivial rfl (by omega) k b nn D0 _ hk hc hown
  exact callsIn_wide.1 (AnyZ.sorted_in Tryz.sorted498 Fence.wide 5 trivial trivial trivial trivial rfl (by omega) (Tryz.sorts498 _) (enters_of Tryz.func396 (by kernel_rfl) rfl) 536 #[.pointer (some ⟨k, 0, none⟩)] trivial (enters_of Tryz.func536 (by kernel_rfl) rfl) _ _ (by simp only [maxLen]; omega) (by omega) _ hseq)
set_option maxHeartbeats 1000000 in
theorem srt_int {g : FuncId} {k : Nat} {D0 : DataW Unit} {W : World} (eg : ∀ args w, (callFunc g args).run Tryz.prog w = .ok (.enter g args) w) (hle : Go.Maps.size D0 ≤ 1000000)
    (hseq : SeqGives Fence.wide 2 Tryz.prog g #[.pointer (some ⟨k, 0, none⟩)] encZ (fun ss => ss.Perm (intKeys D0)) (Maps.size D0) W) :
    Calls Tryz.prog 53 #[.func (.func g) #[] #[.pointer (some ⟨k, 0, none⟩)]] W fun e w' => ∃ (v : Value) (ss : List Int), e = .returned v ∧ ss.Perm (intKeys D0) ∧ w'.ownsRow W.heap.size 3 1 v ss.length ((ss.mergeSort leI).map encZ) ∧ (v = .slice none 0 0 ↔ ss = []) ∧ Below W.heap.size W w' :=
  callsIn_wide.1 (AnyZI.sorted_in Tryz.sorted53 Fence.wide 5 trivial trivial trivial trivial rfl (by omega) (Tryz.sorts53 _) (enters_of Tryz.func110 (by kernel_rfl) rfl) g #[.pointer (some ⟨k, 0, none⟩)] trivial eg _ _ (by simp only [maxLen]; omega) (by omega) _ hseq)
set_option maxHeartbeats 1000000 in
theorem srt_intN {g : FuncId} {k : Nat} {W : World} (eg : ∀ args w, (callFunc g args).run Tryz.prog w = .ok (.enter g args) w)
    (hseq : SeqGives Fence.wide 2 Tryz.prog g #[.pointer (some ⟨k, 0, none⟩)] encZ (fun ss : List Int => ss = []) 0 W) :
    Calls Tryz.prog 53 #[.func (.func g) #[] #[.pointer (some ⟨k, 0, none⟩)]] W fun e w' => e = .returned (.slice none 0 0) ∧ Below W.heap.size W w' := by
  have h := callsIn_wide.1 (AnyZI.sorted_in Tryz.sorted53 Fence.wide 5 trivial trivial trivial trivial rfl (by omega) (Tryz.sorts53 _) (enters_of Tryz.func110 (by kernel_rfl) rfl) g #[.pointer (some ⟨k, 0, none⟩)] trivial eg _ 0 (Nat.zero_le _) (by omega) _ hseq)
  refine h.mono ?_
  rintro e w' ⟨v, ss, rfl, hS, hrow, hnil, hb⟩
  exact ⟨by rw [hnil.2 hS], hb⟩
theorem sortedI : SortedI Tryz.prog 53 [111, 321] 3 := by
  refine ⟨Tryz.underlying3, fun g hg k b nn D0 W hk hc hown hle => ?_, fun g hg k W hk hc => ?_, ⟨_, Tryz.func53, rfl⟩⟩
  · simp only [List.mem_cons, List.not_mem_nil, or_false] at hg
    rcases hg with rfl | rfl
    · exact srt_int (enters_of Tryz.func111 (by kernel_rfl) rfl) hle (AnyZI.keys_gives (ρ := Tryz.keys54_ren) { Tryz.keys54 with } Fence.wide _ trivial rfl (by omega) k b nn D0 _ hk hc hown)
    · exact srt_int (enters_of Tryz.func321 (by kernel_rfl) rfl) hle (AnyZI.keys_gives (ρ := Tryz.keys242_ren) { Tryz.keys242 with } Fence.wide _ trivial rfl (by omega) k b nn D0 _ hk hc hown)
  · simp only [List.mem_cons, List.not_mem_nil, or_false] at hg
    rcases hg with rfl | rfl
    · exact srt_intN (enters_of Tryz.func111 (by kernel_rfl) rfl) (AnyZI.keys_gives_nil (ρ := Tryz.keys54_ren) { Tryz.keys54 with } Fence.wide _ trivial rfl k _ hk hc)
    · exact srt_intN (enters_of Tryz.func321 (by kernel_rfl) rfl) (AnyZI.keys_gives_nil (ρ := Tryz.keys242_ren) { Tryz.keys242 with } Fence.wide _ trivial rfl k _ hk hc)
set_option maxHeartbeats 1000000 in
theorem sortedL : SortedI Tryz.prog 477 [504] 2 := by
  refine ⟨Tryz.underlying2, fun g hg k b nn D0 W hk hc hown hle => ?_, fun g hg k W hk hc => ?_, ⟨_, Tryz.func477, rfl⟩⟩
  · obtain rfl := List.mem_singleton.1 hg
    exact callsIn_wide.1 (AnyZI.sorted_in Tryz.sorted477 Fence.wide 5 trivial trivial trivial trivial rfl (by omega) (Tryz.sorts477 _) (enters_of Tryz.func196 (by kernel_rfl) rfl) 504 #[.pointer (some ⟨k, 0, none⟩)] trivial (enters_of Tryz.func504 (by kernel_rfl) rfl) _ _ (by simp only [maxLen]; omega) (by omega) _
      (AnyZI.keys_gives (ρ := Tryz.keys478_ren) { Tryz.keys478 with } Fence.wide _ trivial rfl (by omega) k b nn D0 _ hk hc hown))
  · obtain rfl := List.mem_singleton.1 hg
    have h := callsIn_wide.1 (AnyZI.sorted_in Tryz.sorted477 Fence.wide 5 trivial trivial trivial trivial rfl (by omega) (Tryz.sorts477 _) (enters_of Tryz.func196 (by kernel_rfl) rfl) 504 #[.pointer (some ⟨k, 0, none⟩)] trivial (enters_of Tryz.func504 (by kernel_rfl) rfl) _ 0 (Nat.zero_le _) (by omega) _
      (AnyZI.keys_gives_nil (ρ := Tryz.keys478_ren) { Tryz.keys478 with } Fence.wide _ trivial rfl k _ hk hc))
    refine h.mono ?_
    rintro e w' ⟨v, ss, rfl, hS, hrow, hnil, hb⟩
    exact ⟨by rw [hnil.2 hS], hb⟩
theorem srtAll_ok {orc : Orc} (ho : OrcOK Tryz.prog orc) : OrcOK Tryz.prog (srtOrc 498 518 9 (srtOrc 498 536 9 (genOrc 53 (srtIF [111, 321] 3) (genOrc 477 (srtIF [504] 2) orc)))) :=
  srt_ok (srtOrc_ok sortedK2 (genOrc_ok (srtI_ok sortedI) (genOrc_ok (srtI_ok sortedL) ho)))
end Go.Proofs.YtcmlgmiomcegeaaGreat.Ev
namespace Go.Proofs.YtcmlgmiomcegeaaGreat
open Go.RowKit Go.Maps
set_option linter.unusedVariables false
set_option linter.unusedSimpArgs false
set_option linter.unusedSectionVars false
/-! ### of St0 -/
section
open Go.RowKit Go.Maps
set_option linter.unusedVariables false
set_option linter.unusedSimpArgs false
abbrev Txt := List UInt8
structure PutM where
  q : Txt
  b : Txt
deriving DecidableEq
structure MsgM where
  id : Int
  q : Txt
  b : Txt
  seq : Int
  cnt : Int
  who : Int
deriving DecidableEq
structure BrM where
  tid : Int
  puts : List PutM
deriving DecidableEq
structure EndM where
  tid : Int
  yes : Bool
deriving DecidableEq
structure PendM where
  tid : Int
  parts : List Int
deriving DecidableEq
structure RecM where
  kind : Int
  tid : Int
  id : Int
  yes : Bool
  parts : List Int
  puts : List PutM
deriving DecidableEq
structure StM where
  broker : Int
  nid : Int
  nseq : Int
  tx : Int
  ms : List MsgM
  waits : List BrM
  ends : List EndM
  opens : List PendM
  noes : List PendM
deriving DecidableEq
def homeM (t : Int) : Int := if 4294967296 < t ∧ t < 38654705664 ∧ t % 4294967296 ≠ 0 then t / 4294967296 else 0
def tidB (t : Int) : Bool := decide (0 < homeM t)
def brokerB (n : Int) : Bool := decide (1 ≤ n ∧ n ≤ 8)
def lowB (c : UInt8) : Bool := decide (97 ≤ c.toNat ∧ c.toNat ≤ 122)
def queueB (s : Txt) : Bool := s.all lowB && decide (1 ≤ s.length ∧ s.length ≤ 8)
def bodyB (s : Txt) : Bool := decide (s.length ≤ 60)
def putB (p : PutM) : Bool := queueB p.q && bodyB p.b
def strictB : List Int → Bool
  | [] => true
  | [_] => true
  | a :: b :: r => decide (a < b) && strictB (b :: r)
def risingB (l : List Int) : Bool := l.all brokerB && strictB l
def hasP {α : Type} (f : α → Int) (l : List α) (t : Int) : Bool := l.any (fun x => decide (f x = t))
end
/-! ### of Kind -/
section
open Go.RowKit Go.Maps
set_option linter.unusedVariables false
set_option linter.unusedSimpArgs false
def I64 (z : Int) : Prop := -9223372036854775808 ≤ z ∧ z ≤ 9223372036854775807
end
/-! ### of St1 -/
section
open Go.RowKit Go.Maps
set_option linter.unusedVariables false
set_option linter.unusedSimpArgs false
def CellsAt (w : World) (v : Value) (n size : Nat) (cs : List Value) : Prop :=
  cs.length = n * size ∧ ((v = .slice none 0 0 ∧ n = 0) ∨ ∃ b o cap, v = .slice (some ⟨b, o, none⟩) n cap ∧ n ≤ cap ∧ cap ≤ maxLen ∧ b < w.heap.size ∧ ∀ j x, cs[j]? = some x → w.cell? ⟨b, o + j, none⟩ = some x)
theorem CellsAt.keep {w w' : World} {v : Value} {n size : Nat} {cs : List Value} (h : CellsAt w v n size cs) (t : Tch No w w') : CellsAt w' v n size cs := by
  refine ⟨h.1, ?_⟩
  rcases h.2 with h2 | ⟨b, o, cap, h2, h3, h4, h5, h6⟩
  · exact .inl h2
  · exact .inr ⟨b, o, cap, h2, h3, h4, Nat.lt_of_lt_of_le h5 t.size, fun j x hx => t.cell (h6 j x hx) (fun h => h)⟩
theorem CellsAt.nil (w : World) (size : Nat) : CellsAt w (.slice none 0 0) 0 size [] := ⟨by simp, .inl ⟨rfl, rfl⟩⟩
theorem CellsAt.shape {w : World} {v : Value} {n size : Nat} {cs : List Value} (h : CellsAt w v n size cs) : ∃ a cap, v = .slice a n cap ∧ n ≤ cap ∧ cap ≤ maxLen := by
  rcases h.2 with ⟨rfl, rfl⟩ | ⟨b, o, cap, h2, h3, h4, _⟩
  · exact ⟨none, 0, rfl, Nat.le_refl _, by simp [maxLen]⟩
  · exact ⟨_, cap, h2, h3, h4⟩
def strV (s : Txt) : Value := .string ⟨s.toArray⟩
def encPut (p : PutM) : List Value := [strV p.q, strV p.b]
def encMsg (m : MsgM) : List Value := [.int .i64 m.id, strV m.q, strV m.b, .int .i64 m.seq, .int .i64 m.cnt, .int .i64 m.who]
def encEnd (e : EndM) : List Value := [.int .i64 e.tid, .bool e.yes]
def IsInts (w : World) (v : Value) (l : List Int) : Prop := CellsAt w v l.length 1 (l.map (fun x => .int .i64 x))
def IsPuts (w : World) (v : Value) (l : List PutM) : Prop := CellsAt w v l.length 2 (l.flatMap encPut)
def IsMsgs (w : World) (v : Value) (l : List MsgM) : Prop := CellsAt w v l.length 6 (l.flatMap encMsg)
def IsEnds (w : World) (v : Value) (l : List EndM) : Prop := CellsAt w v l.length 2 (l.flatMap encEnd)
def encTid (x : Int × Value) : List Value := [.int .i64 x.1, x.2]
def IsBrs (w : World) (v : Value) (l : List BrM) : Prop := ∃ vs : List Value, vs.length = l.length ∧ CellsAt w v l.length 2 (((l.map (·.tid)).zip vs).flatMap encTid) ∧ ∀ i (h : i < l.length) (h' : i < vs.length), IsPuts w vs[i] l[i].puts
def IsPends (w : World) (v : Value) (l : List PendM) : Prop := ∃ vs : List Value, vs.length = l.length ∧ CellsAt w v l.length 2 (((l.map (·.tid)).zip vs).flatMap encTid) ∧ ∀ i (h : i < l.length) (h' : i < vs.length), IsInts w vs[i] l[i].parts
def IsSt (w : World) (v : Value) (s : StM) : Prop :=
  ∃ vm vw ve vo vn, v = .agg #[.int .i64 s.broker, .int .i64 s.nid, .int .i64 s.nseq, .int .i64 s.tx, vm, vw, ve, vo, vn] ∧ IsMsgs w vm s.ms ∧ IsBrs w vw s.waits ∧ IsEnds w ve s.ends ∧ IsPends w vo s.opens ∧ IsPends w vn s.noes
def IsRec (w : World) (v : Value) (r : RecM) : Prop :=
  ∃ vp vu, v = .agg #[.int .i64 r.kind, .int .i64 r.tid, .int .i64 r.id, .bool r.yes, vp, vu] ∧ IsInts w vp r.parts ∧ IsPuts w vu r.puts
theorem IsInts.keep {w w' : World} {v : Value} {l : List Int} (h : IsInts w v l) (t : Tch No w w') : IsInts w' v l := CellsAt.keep h t
theorem IsPuts.keep {w w' : World} {v : Value} {l : List PutM} (h : IsPuts w v l) (t : Tch No w w') : IsPuts w' v l := CellsAt.keep h t
theorem IsMsgs.keep {w w' : World} {v : Value} {l : List MsgM} (h : IsMsgs w v l) (t : Tch No w w') : IsMsgs w' v l := CellsAt.keep h t
theorem IsEnds.keep {w w' : World} {v : Value} {l : List EndM} (h : IsEnds w v l) (t : Tch No w w') : IsEnds w' v l := CellsAt.keep h t
theorem IsBrs.keep {w w' : World} {v : Value} {l : List BrM} (h : IsBrs w v l) (t : Tch No w w') : IsBrs w' v l := by
  obtain ⟨vs, h1, h2, h3⟩ := h
  exact ⟨vs, h1, h2.keep t, fun i h h' => (h3 i h h').keep t⟩
theorem IsPends.keep {w w' : World} {v : Value} {l : List PendM} (h : IsPends w v l) (t : Tch No w w') : IsPends w' v l := by
  obtain ⟨vs, h1, h2, h3⟩ := h
  exact ⟨vs, h1, h2.keep t, fun i h h' => (h3 i h h').keep t⟩
theorem IsSt.keep {w w' : World} {v : Value} {s : StM} (h : IsSt w v s) (t : Tch No w w') : IsSt w' v s := by
  obtain ⟨vm, vw, ve, vo, vn, h0, h1, h2, h3, h4, h5⟩ := h
  exact ⟨vm, vw, ve, vo, vn, h0, h1.keep t, h2.keep t, h3.keep t, h4.keep t, h5.keep t⟩
theorem IsRec.keep {w w' : World} {v : Value} {r : RecM} (h : IsRec w v r) (t : Tch No w w') : IsRec w' v r := by
  obtain ⟨vp, vu, h0, h1, h2⟩ := h
  exact ⟨vp, vu, h0, h1.keep t, h2.keep t⟩
theorem flat_len {α : Type} (enc : α → List Value) (m : Nat) (he : ∀ x, (enc x).length = m) (l : List α) : (l.flatMap enc).length = l.length * m := by
  induction l with
  | nil => simp
  | cons a r ih => rw [List.flatMap_cons, List.length_append, he, ih, List.length_cons, Nat.succ_mul]; omega
end
/-! ### of St2 -/
section
open Go.RowKit Go.Maps
set_option linter.unusedVariables false
set_option linter.unusedSimpArgs false
structure MsgP (s : StM) (m : MsgM) : Prop where
  seq : 1 ≤ m.seq ∧ m.seq < s.nseq
  home : homeM m.id = s.broker
  low : m.id % 4294967296 < s.nid
  q : queueB m.q = true
  b : bodyB m.b = true
  cnt : 0 ≤ m.cnt ∧ m.cnt ≤ 1000
  who : m.who = 0 ∨ (tidB m.who = true ∧ hasP (·.tid) s.ends m.who = false)
structure WaitP (s : StM) (w : BrM) : Prop where
  tid : tidB w.tid = true
  no : hasP (·.tid) s.ends w.tid = false
  len : w.puts.length ≤ 10
  puts : w.puts.all putB = true
structure PendP (b : Int) (p : PendM) : Prop where
  home : homeM p.tid = b
  len : 1 ≤ p.parts.length ∧ p.parts.length ≤ 7
  rising : risingB p.parts = true
  other : p.parts.contains b = false
structure MayP (s : StM) : Prop where
  br : 1 ≤ s.broker ∧ s.broker ≤ 8
  nid : 1 ≤ s.nid ∧ s.nid ≤ 4294967296
  nseq : 1 ≤ s.nseq ∧ s.nseq ≤ 1099511627776
  tx : 0 ≤ s.tx ∧ s.tx ≤ 200
  lms : s.ms.length ≤ 72
  lw : s.waits.length ≤ 2000
  le : s.ends.length ≤ 2000
  lo : s.opens.length ≤ 2000
  ln : s.noes.length ≤ 2000
  ms : ∀ m ∈ s.ms, MsgP s m
  mseq : strictB (s.ms.map (·.seq)) = true
  mids : (s.ms.map (·.id)).Nodup
  ends : ∀ e ∈ s.ends, tidB e.tid = true
  ends2 : strictB (s.ends.map (·.tid)) = true
  waits : ∀ w ∈ s.waits, WaitP s w
  waits2 : strictB (s.waits.map (·.tid)) = true
  opens : ∀ p ∈ s.opens, PendP s.broker p ∧ hasP (·.tid) s.ends p.tid = false ∧ hasP (·.tid) s.waits p.tid = false
  opens2 : strictB (s.opens.map (·.tid)) = true
  noes : ∀ p ∈ s.noes, PendP s.broker p ∧ ∃ e ∈ s.ends, e.tid = p.tid ∧ e.yes = false
  noes2 : strictB (s.noes.map (·.tid)) = true
end
/-! ### of Rec1 -/
section
open Go.RowKit Go.Maps
set_option linter.unusedVariables false
set_option linter.unusedSimpArgs false
def OkT (s : Txt) : Prop := s.length ≤ lim
def OkPut (p : PutM) : Prop := OkT p.q ∧ OkT p.b
def OkMsg (m : MsgM) : Prop := I64 m.id ∧ OkT m.q ∧ OkT m.b ∧ I64 m.seq ∧ I64 m.cnt ∧ I64 m.who
structure OkRec (r : RecM) : Prop where
  kind : I64 r.kind
  tid : I64 r.tid
  id : I64 r.id
  parts : ∀ x ∈ r.parts, I64 x
  puts : ∀ p ∈ r.puts, OkPut p
structure OkSt (s : StM) : Prop where
  broker : I64 s.broker
  nid : I64 s.nid
  nseq : I64 s.nseq
  tx : I64 s.tx
  ms : ∀ m ∈ s.ms, OkMsg m
  waits : ∀ b ∈ s.waits, I64 b.tid ∧ ∀ p ∈ b.puts, OkPut p
  ends : ∀ e ∈ s.ends, I64 e.tid
  opens : ∀ p ∈ s.opens, I64 p.tid ∧ ∀ x ∈ p.parts, I64 x
  noes : ∀ p ∈ s.noes, I64 p.tid ∧ ∀ x ∈ p.parts, I64 x
theorem OkT.size {s : Txt} (h : OkT s) : (ByteArray.mk s.toArray).size ≤ 9223372036854775807 := by
  have : (ByteArray.mk s.toArray).size = s.length := by simp [ByteArray.size]
  unfold OkT lim at h; omega
end
/-! ### of Qt -/
section
open Go.RowKit Go.Maps
set_option linter.unusedVariables false
set_option linter.unusedSimpArgs false
structure TchW (w : World) where
  wo : World
  t : Tch No w wo
instance (w : World) : Inhabited (TchW w) := ⟨⟨w, Tch.refl _ _⟩⟩
theorem TchW.cell {w : World} (p : TchW w) {a : Addr} {v : Value} (h : w.cell? a = some v) : p.wo.cell? a = some v := p.t.cell h (fun h => h)
end
/-! ### of Sl1 -/
section
open Go.RowKit Go.Maps
set_option linter.unusedVariables false
set_option linter.unusedSimpArgs false
theorem CellsAt.one {w : World} {v : Value} {n size : Nat} {cs : List Value} (h : CellsAt w v n size cs) : v.oneCell' = true := by
  obtain ⟨a, cap, rfl, _⟩ := h.shape; rfl
end
/-! ### of May2 -/
section
open Go.RowKit Go.Maps
set_option linter.unusedVariables false
set_option linter.unusedSimpArgs false
def stV (br nid nseq tx : Int) (am : Option Addr) (nm cm : Nat) (aw : Option Addr) (nw cw : Nat) (ae : Option Addr) (ne ce : Nat) (ao : Option Addr) (no co : Nat) (an : Option Addr) (nn cn : Nat) : Value :=
  .agg #[.int .i64 br, .int .i64 nid, .int .i64 nseq, .int .i64 tx, .slice am nm cm, .slice aw nw cw, .slice ae ne ce, .slice ao no co, .slice an nn cn]
end
/-! ### of May3a -/
section
open Go.RowKit Go.Maps
set_option linter.unusedVariables false
set_option linter.unusedSimpArgs false
abbrev DtB := DataW Unit
def truR : Value → Option (DtB × List MemPlace)
  | .bool b => some (.lit (.bool b), [])
  | _ => none
theorem truR_b (b : Bool) : truR (.bool b) = some (.lit (.bool b), []) := rfl
theorem lawI : Keyed Tryz.prog 2 := int_keyed Tryz.underlying2
theorem isKeyI {x : Int} : WideAt.IsKeyLit (.int .i64 x) := by simp [WideAt.IsKeyLit]
theorem tch_turn {w w' : World} {mb : Nat} (hg : w.grownBy w' (some mb)) : Tch (fun k => k = mb) w w' := Tch.grown hg (fun k hk _ => by injection hk with hk; exact hk.symm)
structure IdMap (w : World) (mb : Nat) (n : Nat) (ids : List Int) : Prop where
  map : ∃ D, w.ownsMap Tryz.prog 2 truR mb n D ∧ (∀ x : Int, x ∈ ids → ∀ z, D.atKey (.int .i64 x) z = .lit (.bool true)) ∧ (∀ x : Int, x ∉ ids → Maps.has D (.int .i64 x) = false)
theorem IdMap.tch {F : Nat → Prop} {w w' : World} {mb n : Nat} {ids : List Int} (h : IdMap w mb n ids) (t : Tch F w w') (hF : ¬ F mb) : IdMap w' mb n ids := by
  obtain ⟨D, ⟨es, clock, hb, F', hs, hD⟩, h2⟩ := h.map
  exact ⟨D, ⟨es, clock, blk_tch t hb hF, F', hs, hD⟩, h2⟩
theorem i64_wf {x : Int} (h : I64 x) : (Lit.int .i64 x).wf = true := by
  unfold I64 at h
  have e1 : IntKind.i64.min = -9223372036854775808 := by decide
  have e2 : IntKind.i64.max = 9223372036854775807 := by decide
  rw [Lit.wf, e1, e2, Bool.and_eq_true, decide_eq_true_eq, decide_eq_true_eq]
  exact h
theorem IdMap.put {w : World} {mb n : Nat} {ids : List Int} (h : IdMap w mb n ids) {x : Int} (hx : I64 x) (hn : n < maxLen) :
    ∃ w', (Instr.mapUpdate 70 (.map (some mb)) (.int .i64 x) (.bool true)).run Tryz.prog w = .ok () w' ∧ IdMap w' mb (n + 1) (ids ++ [x]) ∧ Tch (fun k => k = mb) w w' := by
  obtain ⟨D, hm, h1, h2⟩ := h.map
  obtain ⟨w', hrun, hown, hg⟩ := hm.update lawI Tryz.underlying70 hn (keyOf_int_mk Tryz.underlying2 (i64_wf hx)) (val := .bool true) (truR_b true)
  have ht : Tch (fun k => k = mb) w w' := tch_turn hg
  refine ⟨w', hrun, ⟨_, hown, ?_, ?_⟩, ht⟩
  · intro y hy z
    by_cases e : y = x
    · subst e; exact atKey_put_same hm.isMap isKeyI _ _
    · rw [atKey_put_other (fun e2 => e (by injection e2))]
      exact h1 y (by simpa [e] using hy) z
  · intro y hy
    have hy2 : y ∉ ids ∧ y ≠ x := by simpa using hy
    rw [has_put_other (fun e2 => hy2.2 (by injection e2))]
    exact h2 y hy2.1
end
/-! ### of May3 -/
section
open Go.RowKit Go.Maps
set_option linter.unusedVariables false
set_option linter.unusedSimpArgs false
theorem IsBrs.shape {w : World} {v : Value} {l : List BrM} (h : IsBrs w v l) : ∃ a cap, v = .slice a l.length cap ∧ l.length ≤ cap ∧ cap ≤ maxLen := by
  obtain ⟨vs, h1, h2, _⟩ := h; exact CellsAt.shape h2
theorem IsPends.shape {w : World} {v : Value} {l : List PendM} (h : IsPends w v l) : ∃ a cap, v = .slice a l.length cap ∧ l.length ≤ cap ∧ cap ≤ maxLen := by
  obtain ⟨vs, h1, h2, _⟩ := h; exact CellsAt.shape h2
theorem IsSt.shape {w : World} {v : Value} {s : StM} (h : IsSt w v s) : ∃ am cm aw cw ae ce ao co an cn, v = stV s.broker s.nid s.nseq s.tx am s.ms.length cm aw s.waits.length cw ae s.ends.length ce ao s.opens.length co an s.noes.length cn ∧
    IsMsgs w (.slice am s.ms.length cm) s.ms ∧ IsBrs w (.slice aw s.waits.length cw) s.waits ∧ IsEnds w (.slice ae s.ends.length ce) s.ends ∧ IsPends w (.slice ao s.opens.length co) s.opens ∧ IsPends w (.slice an s.noes.length cn) s.noes := by
  obtain ⟨vm, vw, ve, vo, vn, rfl, h1, h2, h3, h4, h5⟩ := h
  obtain ⟨am, cm, rfl, _⟩ := CellsAt.shape h1
  obtain ⟨aw, cw, rfl, _⟩ := h2.shape
  obtain ⟨ae, ce, rfl, _⟩ := CellsAt.shape h3
  obtain ⟨ao, co, rfl, _⟩ := h4.shape
  obtain ⟨an, cn, rfl, _⟩ := h5.shape
  exact ⟨am, cm, aw, cw, ae, ce, ao, co, an, cn, rfl, h1, h2, h3, h4, h5⟩
end
/-! ### of May4 -/
section
open Go.RowKit Go.Maps
set_option linter.unusedVariables false
set_option linter.unusedSimpArgs false
def BoxAt (w : World) (b : Nat) (vals : List Value) : Prop := ∀ i x, vals[i]? = some x → w.cell? ⟨b, i, none⟩ = some x
theorem BoxAt.keep {w w' : World} {b : Nat} {vals : List Value} (h : BoxAt w b vals) (t : Tch No w w') : BoxAt w' b vals := fun i x hx => t.cell (h i x hx) (fun h => h)
end
/-! ### of Lex -/
section
open Go.RowKit Go.Maps
set_option linter.unusedVariables false
set_option linter.unusedSimpArgs false
abbrev LRow := Option Nat × List Nat × List Nat
end
/-! ### of RegI -/
section
open Go.RowKit Go.Maps
set_option linter.unusedVariables false
set_option linter.unusedSimpArgs false
theorem isize_put {a : Act} {d : Option Nat} {v : Value} : (a.put d v).tmps.size = a.tmps.size := by cases d <;> simp [Act.put]
def putAll (a : Act) : List Nat → List Value → Act
  | d :: ds, v :: vs => putAll (a.put (some d) v) ds vs
  | _, _ => a
theorem put_put {a : Act} {d : Nat} {x y : Value} : (a.put (some d) x).put (some d) y = a.put (some d) y := by
  simp [Act.put]
theorem put_comm {a : Act} {d e : Nat} {x y : Value} (h : d ≠ e) : (a.put (some d) x).put (some e) y = (a.put (some e) y).put (some d) x := by
  simp only [Act.put]
  rw [Array.setIfInBounds_comm _ _ h]
theorem putAll_out : ∀ (ds : List Nat) (vs : List Value) (a : Act) (d : Nat) (v : Value), d ∉ ds → (putAll a ds vs).put (some d) v = putAll (a.put (some d) v) ds vs
  | [], vs, a, d, v, h => by cases vs <;> rfl
  | e :: ds, [], a, d, v, h => rfl
  | e :: ds, x :: vs, a, d, v, h => by
    rw [List.mem_cons, not_or] at h
    rw [putAll, putAll, putAll_out ds vs _ d v h.2, put_comm (fun e2 => h.1 e2.symm)]
theorem putAll_set : ∀ (ds : List Nat) (vs : List Value) (a : Act) (i : Nat) (d : Nat) (v : Value), ds.Nodup → vs.length = ds.length → ds[i]? = some d → (putAll a ds vs).put (some d) v = putAll a ds (vs.set i v)
  | [], vs, a, i, d, v, _, _, h => by simp at h
  | e :: ds, [], a, i, d, v, _, hl, h => by simp at hl
  | e :: ds, x :: vs, a, 0, d, v, hn, hl, h => by
    simp only [List.getElem?_cons_zero, Option.some.injEq] at h
    subst h
    rw [List.nodup_cons] at hn
    rw [List.set_cons_zero, putAll, putAll, putAll_out _ _ _ _ _ hn.1, put_put]
  | e :: ds, x :: vs, a, i + 1, d, v, hn, hl, h => by
    rw [List.nodup_cons] at hn
    rw [List.getElem?_cons_succ] at h
    rw [List.set_cons_succ, putAll, putAll]
    exact putAll_set ds vs _ i d v hn.2 (by simpa using hl) h
theorem putAll_size : ∀ (ds : List Nat) (vs : List Value) (a : Act), (putAll a ds vs).tmps.size = a.tmps.size
  | [], vs, a => by cases vs <;> rfl
  | e :: ds, [], a => rfl
  | e :: ds, x :: vs, a => by rw [putAll, putAll_size ds vs, isize_put]
def Fr (a0 : Act) (ds : List Nat) (a : Act) : Prop := ∃ vs : List Value, vs.length = ds.length ∧ a = putAll a0 ds vs
theorem Fr.put {a0 a : Act} {ds : List Nat} (h : Fr a0 ds a) (hn : ds.Nodup) {d : Option Nat} (hd : ∀ e, d = some e → e ∈ ds) (v : Value) : Fr a0 ds (a.put d v) := by
  obtain ⟨vs, hl, rfl⟩ := h
  cases d with
  | none => exact ⟨vs, hl, rfl⟩
  | some e =>
    obtain ⟨i, hi, he⟩ := List.getElem_of_mem (hd e rfl)
    exact ⟨vs.set i v, by simpa using hl, putAll_set ds vs a0 i e v hn hl (by rw [List.getElem?_eq_getElem hi, he])⟩
theorem Fr.size {a0 a : Act} {ds : List Nat} (h : Fr a0 ds a) : a.tmps.size = a0.tmps.size := by
  obtain ⟨vs, hl, rfl⟩ := h
  exact putAll_size _ _ _
section
variable {P : Program} {ops : Array Oper} {Q : Exit → Act → World → Prop}
def lon (rows : List LRow) (i : Nat) : List Nat := ((rows[i]?).map (·.2.2)).getD []
def ldst (rows : List LRow) (i : Nat) : Option Nat := (rows[i]?).bind (·.1)
structure ISpec (rows : List LRow) (ds : List Nat) (anc need kill later : Nat → List Nat) : Prop where
  nodup : ds.Nodup
  less : ∀ i, i < rows.length → ∀ e ∈ lon rows i, e < i
  needs : ∀ i, i < rows.length → ∀ k ∈ need i, k ∈ lon rows i
  dst : ∀ i, i < rows.length → ∀ d, ldst rows i = some d → d ∈ ds
  other : ∀ i, i < rows.length → ∀ d, ldst rows i = some d → ∀ j, j < rows.length → j ≠ i → ldst rows j ≠ some d
  kills : ∀ i, i < rows.length → ∀ k ∈ kill i, ∀ j, j < rows.length → k ∈ need j → j = i ∨ j ∈ anc i
  laters : ∀ i, i < rows.length → ∀ j ∈ later i, i ∈ anc j ∧ j < rows.length
  ancs : ∀ i, i < rows.length → ∀ k ∈ anc i, k ∈ lon rows i ∨ ∃ m ∈ lon rows i, k ∈ anc m
def RL (l : List (Value → World → Prop)) (j : Nat) : Value → World → Prop := (l[j]?).getD (fun _ _ => True)
end
end
/-! ### of App1 -/
section
open Go.RowKit Go.Maps
set_option linter.unusedVariables false
set_option linter.unusedSimpArgs false
structure ElT (t e : TypeId) (size bytes : Nat) : Prop where
  und : Tryz.prog.underlying t = some (.slice e)
  info : ∃ i z, Tryz.prog.info? e = some i ∧ i.zero = some z ∧ i.size = size ∧ i.bytes = bytes ∧ z.cells.size = size
  pos : 0 < size
  byt : bytes ≤ 1000
theorem elt_of {t e : TypeId} {z : Value} {size bytes : Nat} (hu : Tryz.prog.underlying t = some (.slice e)) (hi : (Tryz.prog.info? e).map (fun i => (i.zero, i.size, i.bytes)) = some (some z, size, bytes)) (hz : z.cells.size = size) (hp : 0 < size) (hb : bytes ≤ 1000) : ElT t e size bytes := by
  obtain ⟨i, h1, h2, h3, h4⟩ := info_parts hi
  exact ⟨hu, ⟨i, z, h1, h2, h3, h4, hz⟩, hp, hb⟩
theorem eltEnd : ElT 56 104 2 16 := elt_of Tryz.underlying56 (z := .agg #[.int .i64 0, .bool false]) (by kernel_rfl) (by kernel_rfl) (by decide) (by decide)
def Ones (cs : List Value) : Prop := ∀ u ∈ cs, u.oneCell' = true
theorem Ones.append {a b : List Value} (h : Ones a) (k : Ones b) : Ones (a ++ b) := fun u hu => (List.mem_append.1 hu).elim (h u) (k u)
theorem Ones.take {a : List Value} (h : Ones a) (n : Nat) : Ones (a.take n) := fun u hu => h u (List.mem_of_mem_take hu)
theorem Ones.drop {a : List Value} (h : Ones a) (n : Nat) : Ones (a.drop n) := fun u hu => h u (List.mem_of_mem_drop hu)
theorem Ones.nil : Ones [] := fun u hu => by cases hu
theorem CellsAt.take {w : World} {a : Option Addr} {n c size : Nat} {cs : List Value} (h : CellsAt w (.slice a n c) n size cs) {k : Nat} (hk : k ≤ n) : CellsAt w (.slice a k c) k size (cs.take (k * size)) := by
  have hl := h.1
  have hm : k * size ≤ n * size := Nat.mul_le_mul_right _ hk
  refine ⟨by rw [List.length_take]; omega, ?_⟩
  rcases h.2 with ⟨h1, h2⟩ | ⟨b, o, cap, h1, h2, h3, h4, h5⟩
  · injection h1 with h1 _ h3
    obtain rfl : k = 0 := by omega
    exact .inl ⟨by rw [h1, h3], rfl⟩
  · injection h1 with h1 _ e
    subst e
    exact .inr ⟨b, o, c, by rw [h1], by omega, h3, h4, fun j x hx => h5 j x (by
      rw [List.getElem?_take] at hx
      split at hx
      · exact hx
      · cases hx)⟩
theorem CellsAt.drop {w : World} {b o n c size : Nat} {cs : List Value} (h : CellsAt w (.slice (some ⟨b, o, none⟩) n c) n size cs) {k : Nat} (hk : k ≤ n) : CellsAt w (.slice (some ⟨b, o + k * size, none⟩) (n - k) (c - k)) (n - k) size (cs.drop (k * size)) := by
  have hl := h.1
  refine ⟨by rw [List.length_drop, hl, Nat.sub_mul], ?_⟩
  rcases h.2 with ⟨h1, h2⟩ | ⟨b', o', cap, h1, h2, h3, h4, h5⟩
  · injection h1 with h1; cases h1
  · injection h1 with h1 _ e
    injection h1 with h1
    injection h1 with e1 e2
    subst e; subst e1; subst e2
    exact .inr ⟨b, o + k * size, c - k, rfl, by omega, by omega, h4, fun j x hx => by
      rw [List.getElem?_drop] at hx
      have := h5 _ x hx
      rwa [← Nat.add_assoc] at this⟩
theorem CellsAt.zero {w : World} {b o c size : Nat} (hb : b < w.heap.size) (hc : c ≤ maxLen) : CellsAt w (.slice (some ⟨b, o, none⟩) 0 c) 0 size [] :=
  ⟨by simp, .inr ⟨b, o, c, rfl, Nat.zero_le _, hc, hb, fun j x hx => by simp at hx⟩⟩
theorem CellsAt.lt {w : World} {b o n c size : Nat} {cs : List Value} (h : CellsAt w (.slice (some ⟨b, o, none⟩) n c) n size cs) : b < w.heap.size := by
  rcases h.2 with ⟨h1, h2⟩ | ⟨b', o', cap, h1, h2, h3, h4, h5⟩
  · injection h1 with h1; cases h1
  · injection h1 with h1
    injection h1 with h1
    injection h1 with h1
    subst h1; exact h4
structure AppE (e : TypeId) (size : Nat) (w : World) (v : Value) (n' : Nat) (ys : List Value) (v' : Value) (w' : World) : Prop where
  own : w'.ownsRow 0 e size v' n' ys
  grow : w.grownBy w' v.ownBlock
  loc : v'.ownBlock = v.ownBlock ∨ v'.ownBlock = some w.heap.size
  nil : v' = .slice none 0 0 ↔ v = .slice none 0 0 ∧ n' = 0
theorem AppE.fresh {e : TypeId} {size : Nat} {w w' : World} {n' : Nat} {ys : List Value} {v' : Value} (h : AppE e size w (.slice none 0 0) n' ys v' w') : Tch No w w' ∧ ∀ k, v'.ownBlock = some k → w.heap.size ≤ k := by
  refine ⟨Tch.grown h.grow (fun k hk _ => by simp [Value.ownBlock] at hk), fun k hk => ?_⟩
  rcases h.loc with e1 | e1
  · rw [e1] at hk; simp [Value.ownBlock] at hk
  · rw [e1] at hk; simp at hk; omega
theorem AppE.on {e : TypeId} {size : Nat} {w0 w w' : World} {v : Value} {n' : Nat} {ys : List Value} {v' : Value} (h : AppE e size w v n' ys v' w') (t : Tch No w0 w) (hv : ∀ k, v.ownBlock = some k → w0.heap.size ≤ k) : Tch No w0 w' ∧ ∀ k, v'.ownBlock = some k → w0.heap.size ≤ k := by
  refine ⟨t.fresh (F := fun k => v.ownBlock = some k) (Tch.grown h.grow (fun k hk _ => hk)) (fun k hk => hv k hk), fun k hk => ?_⟩
  have := t.size
  rcases h.loc with e1 | e1
  · rw [e1] at hk; exact hv k hk
  · rw [e1] at hk; simp at hk; omega
end
/-! ### of RegO -/
section
open Go.RowKit Go.Maps
set_option linter.unusedVariables false
set_option linter.unusedSimpArgs false
structure Runs (P : Program) (ρ : Operand → Value) (o : Oper) (W : World) (v : Value) (W' : World) : Prop where
  out : (execOp ρ o).run P W = .ok (.value v) W'
section
variable {P : Program} {ops : Array Oper} {Q : Exit → Act → World → Prop} {a0 : Act} {ds : List Nat} {C : World → Prop} {R : Nat → Value → World → Prop} {wd : List Nat} {need kill later : Nat → List Nat}
end
variable {ρ : Operand → Value} {o : Oper}
end
/-! ### of Enc1 -/
section
open Go.RowKit Go.Maps
set_option linter.unusedVariables false
set_option linter.unusedSimpArgs false
def IsL {α : Type} (enc : α → List Value) (m : Nat) (w : World) (v : Value) (l : List α) : Prop := CellsAt w v l.length m (l.flatMap enc)
theorem IsL.keep {α : Type} {enc : α → List Value} {m : Nat} {w w' : World} {v : Value} {l : List α} (h : IsL enc m w v l) (t : Tch No w w') : IsL enc m w' v l := CellsAt.keep h t
end
/-! ### of Row -/
section
open Go.RowKit Go.Maps
set_option linter.unusedVariables false
set_option linter.unusedSimpArgs false
theorem blk_sets {b : Nat} {e : TypeId} : ∀ (vs : List Value) (o : Nat) (w : World) (cur : Array Value), w.heap[b]? = some (.cells cur e (0, 0)) → o + vs.length ≤ cur.size →
    ∃ cur' : Array Value, (w.setCells b o vs).heap[b]? = some (.cells cur' e (0, 0)) ∧ cur'.size = cur.size ∧ ∀ t, cur'[t]? = if o ≤ t ∧ t < o + vs.length then vs[t - o]? else cur[t]?
  | [], o, w, cur, h, _ => ⟨cur, h, rfl, fun t => by rw [if_neg (by simp only [List.length_nil]; omega)]⟩
  | v :: r, o, w, cur, h, hl => by
    simp only [List.length_cons] at hl
    obtain ⟨cur', h1, h2, h3⟩ := blk_sets r (o + 1) (w.setCell ⟨b, o, none⟩ v) _ (blk_set h o v) (by rw [Array.size_setIfInBounds]; omega)
    refine ⟨cur', h1, by rw [h2, Array.size_setIfInBounds], fun t => ?_⟩
    rw [h3, List.length_cons]
    by_cases h4 : o + 1 ≤ t ∧ t < o + 1 + r.length
    · rw [if_pos h4, if_pos (by omega), show t - o = (t - (o + 1)) + 1 by omega, List.getElem?_cons_succ]
    · rw [if_neg h4, Array.getElem?_setIfInBounds]
      by_cases h5 : o = t
      · subst h5
        rw [if_pos rfl, if_pos (by omega), if_pos (by omega)]
        simp
      · rw [if_neg h5, if_neg (by omega)]
theorem Tch.setCells {F : Nat → Prop} {b : Nat} (hF : F b) : ∀ (vs : List Value) (o : Nat) (w : World), Tch F w (w.setCells b o vs)
  | [], _, w => Tch.refl F w
  | v :: r, o, w => (Tch.setCell (F := F) w ⟨b, o, none⟩ v (fun _ => hF)).trans (Tch.setCells hF r (o + 1) _) (fun _ _ h => h)
section
variable {α : Type}
def keptM (p : α → Bool) (l : List α) : List α := l.filter (fun x => !p x)
theorem keptM_app (p : α → Bool) (a b : List α) : keptM p (a ++ b) = keptM p a ++ keptM p b := List.filter_append ..
theorem keptM_le (p : α → Bool) (l : List α) : (keptM p l).length ≤ l.length := List.length_filter_le ..
theorem take_succ_app {l : List α} {j : Nat} (h : j < l.length) : l.take (j + 1) = l.take j ++ [l[j]] := by simp
structure DInv (enc : α → List Value) (m : Nat) (p : α → Bool) (l : List α) (C j i : Nat) (cur : Array Value) : Prop where
  sz : cur.size = C * m
  len : i = (keptM p (l.take j)).length
  low : ∀ t, t < i * m → cur[t]? = ((keptM p (l.take j)).flatMap enc)[t]?
  high : ∀ t, j * m ≤ t → t < l.length * m → cur[t]? = (l.flatMap enc)[t]?
variable {enc : α → List Value} {m : Nat} {p : α → Bool} {l : List α} {C j i : Nat} {cur : Array Value}
theorem DInv.ij (h : DInv enc m p l C j i cur) (hj : j ≤ l.length) : i ≤ j := by
  rw [h.len]
  refine Nat.le_trans (keptM_le _ _) ?_
  rw [List.length_take]; omega
theorem DInv.skip (h : DInv enc m p l C j i cur) (hj : j < l.length) (hp : p l[j] = true) : DInv enc m p l C (j + 1) i cur := by
  have e : keptM p (l.take (j + 1)) = keptM p (l.take j) := by
    rw [take_succ_app hj, keptM_app]
    simp [keptM, hp]
  refine ⟨h.sz, by rw [e]; exact h.len, fun t ht => by rw [e]; exact h.low t ht, fun t h1 h2 => h.high t ?_ h2⟩
  rw [Nat.succ_mul] at h1; omega
theorem DInv.keep (he : ∀ x, (enc x).length = m) (h : DInv enc m p l C j i cur) (hj : j < l.length) (hp : p l[j] = false) {cur' : Array Value} (hs : cur'.size = cur.size)
    (hc : ∀ t, cur'[t]? = if i * m ≤ t ∧ t < i * m + m then (enc l[j])[t - i * m]? else cur[t]?) : DInv enc m p l C (j + 1) (i + 1) cur' := by
  have e : keptM p (l.take (j + 1)) = keptM p (l.take j) ++ [l[j]] := by
    rw [take_succ_app hj, keptM_app]
    simp [keptM, hp]
  have hi := h.ij (by omega)
  have hm : i * m ≤ j * m := Nat.mul_le_mul_right _ hi
  have hfl := flat_len enc m he (keptM p (l.take j))
  rw [← h.len] at hfl
  refine ⟨by rw [hs]; exact h.sz, by rw [e, List.length_append, ← h.len]; rfl, fun t ht => ?_, fun t h1 h2 => ?_⟩
  · rw [Nat.succ_mul] at ht
    rw [e, List.flatMap_append, hc t]
    by_cases h3 : i * m ≤ t
    · rw [if_pos ⟨h3, ht⟩, List.getElem?_append_right (by omega), hfl]
      simp
    · rw [if_neg (by omega), List.getElem?_append_left (by omega)]
      exact h.low t (by omega)
  · rw [Nat.succ_mul] at h1
    rw [hc t, if_neg (by omega)]
    exact h.high t (by omega) h2
end
theorem run_copy_many (w : World) {t e : TypeId} {size bytes : Nat} (E : ElT t e size bytes) (ty : TypeId) (b o dLen dCap : Nat) (a : Addr) (sLen sCap : Nat) (cs : List Value) (hn : cs.length = Nat.min sLen dLen * size)
    (hsrc : ∀ j v, cs[j]? = some v → w.cell? (a.add j) = some v) (hc : ∀ j, j < cs.length → (w.cell? ⟨b, o + j, none⟩).isSome = true) (hf : ∀ j, j < cs.length → w.frozen? ⟨b, o + j, none⟩ = false) (h1 : Ones cs) :
    (Builtin.copy_ #[t, t] ty #[.slice (some ⟨b, o, none⟩) dLen dCap, .slice (some a) sLen sCap]).run Tryz.prog w = .ok (goInt (Nat.min sLen dLen)) (w.setCells b o cs) := by
  obtain ⟨i0, z, hi0, hz0, hz1, hz2, hzs⟩ := E.info
  have hl := run_loadCells_list (P := Tryz.prog) w a cs hsrc
  have hst := run_storeCells_cells (P := Tryz.prog) b o cs 0 w (by simpa using hc) (by simpa using hf) h1
  simp only [Nat.add_zero] at hst
  rw [hn] at hl
  simp [Builtin.copy_, run_underlying E.und, Builtin.lenOf, Builtin.firstCells, sizeOf, typeInfo, hi0, hz1, hl, hst]
end
/-! ### of Ins -/
section
open Go.RowKit Go.Maps
set_option linter.unusedVariables false
set_option linter.unusedSimpArgs false
theorem ins_cells {cs nb : List Value} {n i : Nat} (hcl : cs.length = n * 2) (hnb : nb.length = 2) (hi : i ≤ n) (base : Array Value) (hb : ∀ t, t < i * 2 → base[t]? = cs[t]?) (t : Nat) (ht : t < (n + 1) * 2) :
    (if (i + 1) * 2 ≤ t ∧ t < (i + 1) * 2 + (cs.drop (i * 2)).length then (cs.drop (i * 2))[t - (i + 1) * 2]? else if i * 2 ≤ t ∧ t < i * 2 + nb.length then nb[t - i * 2]? else base[t]?) = (cs.take (i * 2) ++ nb ++ cs.drop (i * 2))[t]? := by
  have hdl : (cs.drop (i * 2)).length = n * 2 - i * 2 := by rw [List.length_drop, hcl]
  have htl : (cs.take (i * 2)).length = i * 2 := by rw [List.length_take, hcl]; omega
  by_cases h1 : t < i * 2
  · rw [if_neg (by omega), if_neg (by omega), hb t h1, List.append_assoc, List.getElem?_append_left (by omega), List.getElem?_take, if_pos h1]
  · by_cases h2 : t < (i + 1) * 2
    · rw [if_neg (by omega), if_pos (by omega), List.getElem?_append_left (by rw [List.length_append]; omega), List.getElem?_append_right (by omega), htl]
    · rw [if_pos (by omega), List.getElem?_append_right (by rw [List.length_append]; omega), List.length_append, htl, hnb]
      congr 1
      omega
section
variable (w0 : World) (n i c : Nat) (cs : List Value) (vb : Nat) (nb : Array Value) (w : World)
end
section
variable (w0 : World) (n i c : Nat) (cs : List Value) (vb : Nat) (nb : Array Value) (w : World)
end
section
variable (w0 : World) (n i c : Nat) (cs : List Value) (vb : Nat) (nb : Array Value) (w : World)
set_option maxRecDepth 100000 in
set_option maxHeartbeats 8000000 in
theorem ins_end_shift (g : Nat) (cur : Array Value) (hi : i < n) (hc1 : n + 1 ≤ c) (hc2 : c ≤ maxLen) (hn : n ≤ 10000000) (hg : w.heap[g]? = some (.cells cur 104 (0, 0))) (hcur : cur.size = c * 2) (hcl : cs.length = n * 2) (hcs : ∀ t, t < n * 2 → cur[t]? = cs[t]?) (h1 : Ones cs)
    (hv : w.heap[vb]? = some (.cells nb 104 (0, 0))) (hnb : nb.size = 2) (h1n : Ones nb.toList) (hne : vb ≠ g) :
    Calls Tryz.prog 433 #[.slice (some ⟨g, 0, none⟩) n c, .int .i64 i, .slice (some ⟨vb, 0, none⟩) 1 1] w fun e w' => e = .returned (.slice (some ⟨g, 0, none⟩) (n + 1) c) ∧ w' = (w.drew.setCells g ((i + 1) * 2) (cs.drop (i * 2))).setCells g (i * 2) nb.toList := by
  have hml : c ≤ 9223372036854775807 := by unfold maxLen at hc2; omega
  have hov : ∀ lb cb, (callFunc 472 #[.slice (some ⟨vb, 0, none⟩) 1 1, .slice (some ⟨g, (i + 1) * 2, none⟩) lb cb]).run Tryz.prog w = .ok (.value (.bool false)) w := fun lb cb => by
    rw [run_callFunc_extern Tryz.func472 (by kernel_rfl) (by kernel_rfl) (by kernel_rfl) (e := Extern.SlicesOverlaps.overlaps #[56, 56] #[4]) (by kernel_rfl),
      Lib.run_overlaps_apart w 56 4 104 eltEnd.und 2 Tryz.sizeOf104 ⟨vb, 0, none⟩ ⟨g, (i + 1) * 2, none⟩ 1 1 lb cb hne 104 104 2 (c * 2) (by simp [World.shape?, hv, hnb]) (by simp [World.shape?, hg, hcur]) (by omega) (blk_free hv 0) (blk_free hv 2)]
    rfl
  have hdl : (cs.drop (i * 2)).length = (n - i) * 2 := by rw [List.length_drop, hcl, Nat.sub_mul]
  have hcp1 : ∀ ty dc sc, (Builtin.copy_ #[56, 56] ty #[.slice (some ⟨g, (i + 1) * 2, none⟩) (n - i) dc, .slice (some ⟨g, i * 2, none⟩) (n + 1 - i) sc]).run Tryz.prog w.drew = .ok (goInt (Nat.min (n + 1 - i) (n - i))) (w.drew.setCells g ((i + 1) * 2) (cs.drop (i * 2))) := fun ty dc sc =>
    run_copy_many w.drew eltEnd ty g ((i + 1) * 2) (n - i) dc ⟨g, i * 2, none⟩ (n + 1 - i) sc (cs.drop (i * 2)) (by rw [hdl, show Nat.min (n + 1 - i) (n - i) = n - i by simp only [Nat.min_def]; split <;> omega])
      (fun j v hj => by
        rw [addr_add]
        rw [List.getElem?_drop] at hj
        have hjl := (List.getElem?_eq_some_iff.1 hj).1
        show w.cell? _ = _
        rw [blk_cell hg, hcs _ (by omega)]; exact hj)
      (fun j hj => by show (w.cell? _).isSome = true; rw [blk_cell hg, Array.getElem?_eq_getElem (by rw [hdl] at hj; have := Nat.sub_mul n i 2; omega)]; rfl) (fun j hj => blk_free hg _) (h1.drop _)
  obtain ⟨W1, hW1⟩ : ∃ W1, W1 = w.drew.setCells g ((i + 1) * 2) (cs.drop (i * 2)) := ⟨_, rfl⟩
  obtain ⟨cur1, q1, q2, q3⟩ := blk_sets (cs.drop (i * 2)) ((i + 1) * 2) w.drew cur hg (by rw [hdl, hcur, ← Nat.add_mul]; exact Nat.mul_le_mul_right _ (by omega))
  rw [← hW1] at q1
  have hv1 : W1.heap[vb]? = some (.cells nb 104 (0, 0)) := by rw [hW1]; exact blk_tch (Tch.setCells (F := fun k => k = g) (b := g) rfl _ _ w.drew) hv hne
  have hcp2 : ∀ (W : World), (∀ x, W.cell? x = W1.cell? x) → (∀ x, W.frozen? x = W1.frozen? x) → ∀ ty dc, (Builtin.copy_ #[56, 56] ty #[.slice (some ⟨g, i * 2, none⟩) (n + 1 - i) dc, .slice (some ⟨vb, 0, none⟩) 1 1]).run Tryz.prog W = .ok (goInt (Nat.min 1 (n + 1 - i))) (W.setCells g (i * 2) nb.toList) := fun W hWc hWf ty dc =>
    run_copy_many W eltEnd ty g (i * 2) (n + 1 - i) dc ⟨vb, 0, none⟩ 1 1 nb.toList (by rw [Array.length_toList, hnb, show Nat.min 1 (n + 1 - i) = 1 by simp only [Nat.min_def]; split <;> omega])
      (fun j v hj => by rw [addr_add, hWc, blk_cell hv1, Nat.zero_add]; simpa using hj)
      (fun j hj => by rw [Array.length_toList, hnb] at hj; rw [hWc, blk_cell q1, Array.getElem?_eq_getElem (by rw [q2, hcur]; omega)]; rfl) (fun j hj => by rw [hWf]; exact blk_free q1 _) h1n
  rw [← hW1] at hcp1
  have mixed : Tryz.prog.follows .mixedOrders = true := by kernel_rfl
  have hz2 : ¬ ((i : Int) = (n : Int)) := by omega
  have hw1 : IntKind.i64.wrap ((i : Int) + 1) = (i : Int) + 1 := by rw [IntKind.wrap_i64]; omega
  have hb1 : (0 : Int) ≤ (i : Int) + 1 := by omega
  have hin : i ≤ n := by omega
  have htn : ((i : Int) + 1).toNat = i + 1 := by omega
  have hb2 : ¬ (c = i + 1) := by omega
  have hb3 : (i : Int) ≤ (n : Int) + 1 := by omega
  have hb4 : ¬ (c = i) := by omega
  clear hg hcur hcl hcs h1 hv hnb h1n q1 q2 q3 hv1 hdl
  go_enter Tryz.func433, Tryz.ntmps433
  go_wp2_with (simp only [hov])
  go_region_law_o (refine step_copy_runI rfl _ _ 56 56 rfl _ _ (by simp [Act.eval, Act.put]) (by simp [Act.eval, Act.put]) (hcp1 _ _ _) ?_)
  go_wp2_with (at_builtin; refine wpList_copy_runI _ rfl _ _ 56 56 rfl _ _ rfl rfl (hcp2 _ (fun _ => rfl) (fun _ => rfl) _ _) ?_)
  go_ret
  exact ⟨rfl, rfl⟩
set_option maxRecDepth 100000 in
set_option maxHeartbeats 8000000 in
theorem ins_end_grow (g : Nat) (hi : i < n) (hc1 : n ≤ c) (hroom : c < n + 1) (hn : n ≤ 10000000) (hcl : cs.length = n * 2) (hcs : ∀ t x, cs[t]? = some x → w.cell? ⟨g, t, none⟩ = some x) (h1 : Ones cs)
    (hv : w.heap[vb]? = some (.cells nb 104 (0, 0))) (hnb : nb.size = 2) (h1n : Ones nb.toList) :
    Calls Tryz.prog 433 #[.slice (some ⟨g, 0, none⟩) n c, .int .i64 i, .slice (some ⟨vb, 0, none⟩) 1 1] w fun e w' => ∃ G cur', e = .returned (.slice (some ⟨w.heap.size, 0, none⟩) (n + 1) G) ∧ w'.heap[w.heap.size]? = some (.cells cur' 104 (0, 0)) ∧ cur'.size = G * 2 ∧ n + 1 ≤ G ∧ G ≤ maxLen ∧
      (∀ t, t < (n + 1) * 2 → cur'[t]? = (cs.take (i * 2) ++ nb.toList ++ cs.drop (i * 2))[t]?) ∧ Tch No w w' := by
  obtain ⟨i0, hi0, hz0, hzs, hzb⟩ := info_parts (show (Tryz.prog.info? 104).map (fun i => (i.zero, i.size, i.bytes)) = some (some (Value.agg #[.int .i64 0, .bool false]), 2, 16) by kernel_rfl)
  have hgb : g < w.heap.size := block_lt_of_cell (hcs 0 _ (List.getElem?_eq_getElem (by omega)))
  have hvw : vb < w.heap.size := blk_lt hv
  have hkk : (n : Int) + 1 - (i : Int) = ((n + 1 - i : Nat) : Int) := by omega
  have hik : i + (n + 1 - i) = n + 1 := by omega
  have hold : (Builtin.firstCells i0.size i (.slice (some ⟨g, 0, none⟩) i c)).run Tryz.prog w.drew = .ok (cs.take (i * 2)).toArray w.drew := by
    rw [hzs]
    exact run_firstCells_some w.drew 2 i ⟨g, 0, none⟩ i c (cs.take (i * 2)) (by rw [List.length_take]; omega) (fun j v hj => by
      rw [addr_add, Nat.zero_add]
      rw [List.getElem?_take] at hj
      split at hj
      · exact hcs j v hj
      · cases hj)
  have hrz : ∀ ty, (Builtin.append_ #[56, 3] ty #[.slice (some ⟨g, 0, none⟩) i c, .int .i64 ((n : Int) + 1 - (i : Int))]).run Tryz.prog w =
      .ok (.slice (some ⟨w.heap.size, 0, none⟩) (n + 1) (grownCap w (n + 1) c 104)) (w.drew.alloc (.cells ((cs.take (i * 2)).toArray ++ Builtin.zeroCells (Value.agg #[.int .i64 0, .bool false]).cells (n + 1 - i) ++ Builtin.zeroCells (Value.agg #[.int .i64 0, .bool false]).cells (grownCap w (n + 1) c 104 - (n + 1))) 104)) := fun ty => by
    have h := Lib.run_append_grow_zeros w 56 3 ty 104 i0 _ .i64 .i64 eltEnd.und Tryz.underlying3 hi0 hz0 (some ⟨g, 0, none⟩) i c (cs.take (i * 2)) hold (n + 1 - i) (by omega) (by omega) (by omega) (by omega) (by rw [hzb]; omega) (by rw [hzb, hik]; exact growslice_fits (by omega) (by omega))
    rw [hik] at h
    rw [hkk]
    exact h
  obtain ⟨G, hG⟩ : ∃ G, G = grownCap w (n + 1) c 104 := ⟨_, rfl⟩
  obtain ⟨ROW, hROW⟩ : ∃ ROW : Array Value, ROW = (cs.take (i * 2)).toArray ++ Builtin.zeroCells (Value.agg #[.int .i64 0, .bool false]).cells (n + 1 - i) ++ Builtin.zeroCells (Value.agg #[.int .i64 0, .bool false]).cells (G - (n + 1)) := ⟨_, rfl⟩
  rw [← hG] at hrz
  rw [← hROW] at hrz
  have hGn : n + 1 ≤ G := by rw [hG]; exact grownCap_ge w _ _ _
  have hGm : G ≤ maxLen := by rw [hG]; exact grownCap_le_maxLen w (n + 1) c 104 (by unfold maxLen; omega)
  have hG63 : G ≤ 9223372036854775807 := by unfold maxLen at hGm; omega
  have htl : (cs.take (i * 2)).length = i * 2 := by rw [List.length_take, hcl]; omega
  have hRl : ROW.size = G * 2 := by
    rw [hROW]
    simp only [Array.size_append, List.size_toArray, htl, Builtin.zeroCells, Array.size_map, Array.size_range, Value.cells, List.size_toArray, List.length_cons, List.length_nil]
    omega
  have hRf : ∀ t, t < i * 2 → ROW[t]? = cs[t]? := fun t ht => by
    rw [hROW, Array.append_assoc, Array.getElem?_append_left (by rw [List.size_toArray, htl]; exact ht), List.getElem?_toArray, List.getElem?_take, if_pos ht]
  obtain ⟨ws, hws⟩ : ∃ ws, w.heap.size = ws := ⟨_, rfl⟩
  rw [hws] at hrz hgb hvw
  rw [hws]
  obtain ⟨W1, hW1⟩ : ∃ W1, W1 = w.drew.alloc (.cells ROW 104) := ⟨_, rfl⟩
  have hN : W1.heap[ws]? = some (.cells ROW 104 (0, 0)) := by rw [hW1, ← hws]; exact blk_new w.drew _
  have T1 : Tch No w W1 := by rw [hW1]; exact (Tch.drew w).trans0 (Tch.alloc _ _)
  have hO : ∀ t x, cs[t]? = some x → W1.cell? ⟨g, t, none⟩ = some x := fun t x hx => T1.cell (hcs t x hx) (fun h => h)
  have hv1 : W1.heap[vb]? = some (.cells nb 104 (0, 0)) := blk_tch T1 hv (fun h => h)
  rw [← hW1] at hrz
  have hdl : (cs.drop (i * 2)).length = (n - i) * 2 := by rw [List.length_drop, hcl, Nat.sub_mul]
  have hcpA : ∀ (W : World), (∀ x, W.cell? x = W1.cell? x) → (∀ x, W.frozen? x = W1.frozen? x) → ∀ ty dc, (Builtin.copy_ #[56, 56] ty #[.slice (some ⟨ws, i * 2, none⟩) (n + 1 - i) dc, .slice (some ⟨vb, 0, none⟩) 1 1]).run Tryz.prog W = .ok (goInt (Nat.min 1 (n + 1 - i))) (W.setCells ws (i * 2) nb.toList) := fun W hWc hWf ty dc =>
    run_copy_many W eltEnd ty ws (i * 2) (n + 1 - i) dc ⟨vb, 0, none⟩ 1 1 nb.toList (by rw [Array.length_toList, hnb, show Nat.min 1 (n + 1 - i) = 1 by simp only [Nat.min_def]; split <;> omega])
      (fun j v hj => by rw [addr_add, hWc, blk_cell hv1, Nat.zero_add]; simpa using hj)
      (fun j hj => by rw [Array.length_toList, hnb] at hj; rw [hWc, blk_cell hN, Array.getElem?_eq_getElem (by rw [hRl]; omega)]; rfl) (fun j hj => by rw [hWf]; exact blk_free hN _) h1n
  obtain ⟨cur1, q1, q2, q3⟩ := blk_sets nb.toList (i * 2) W1 ROW hN (by rw [Array.length_toList, hnb, hRl]; omega)
  have hcpB : ∀ (W : World), (∀ x, W.cell? x = (W1.setCells ws (i * 2) nb.toList).cell? x) → (∀ x, W.frozen? x = (W1.setCells ws (i * 2) nb.toList).frozen? x) → ∀ ty dc sc, (Builtin.copy_ #[56, 56] ty #[.slice (some ⟨ws, (i + 1) * 2, none⟩) (n - i) dc, .slice (some ⟨g, i * 2, none⟩) (n - i) sc]).run Tryz.prog W = .ok (goInt (Nat.min (n - i) (n - i))) (W.setCells ws ((i + 1) * 2) (cs.drop (i * 2))) := fun W hWc hWf ty dc sc =>
    run_copy_many W eltEnd ty ws ((i + 1) * 2) (n - i) dc ⟨g, i * 2, none⟩ (n - i) sc (cs.drop (i * 2)) (by rw [hdl, show Nat.min (n - i) (n - i) = n - i from Nat.min_self _])
      (fun j v hj => by
        rw [List.getElem?_drop] at hj
        rw [addr_add, hWc]
        exact (Tch.setCells (F := fun k => k = ws) (b := ws) rfl nb.toList (i * 2) W1).cell (hO _ _ hj) (by show ¬ g = ws; omega))
      (fun j hj => by rw [hWc, blk_cell q1, Array.getElem?_eq_getElem (by rw [q2, hRl]; rw [hdl] at hj; have := Nat.sub_mul n i 2; omega)]; rfl) (fun j hj => by rw [hWf]; exact blk_free q1 _) (h1.drop _)
  have HFIN : Hid (∃ cur' : Array Value, ((((w.alloc (.cells ROW 104)).drew.setCells ws (i * 2) nb.toList).drew).setCells ws ((i + 1) * 2) (cs.drop (i * 2))).heap[ws]? = some (.cells cur' 104 (0, 0)) ∧ cur'.size = G * 2 ∧ (∀ t, t < (n + 1) * 2 → cur'[t]? = (cs.take (i * 2) ++ nb.toList ++ cs.drop (i * 2))[t]?) ∧ Tch No w ((((w.alloc (.cells ROW 104)).drew.setCells ws (i * 2) nb.toList).drew).setCells ws ((i + 1) * 2) (cs.drop (i * 2)))) := by
    obtain ⟨cur1, q1, q2, q3⟩ := blk_sets (b := ws) (e := 104) nb.toList (i * 2) ((w.alloc (.cells ROW 104)).drew) ROW (by rw [← hws]; exact blk_new w _) (by rw [Array.length_toList, hnb, hRl]; omega)
    obtain ⟨cur2, r1, r2, r3⟩ := blk_sets (cs.drop (i * 2)) ((i + 1) * 2) (((w.alloc (.cells ROW 104)).drew.setCells ws (i * 2) nb.toList).drew) cur1 q1 (by rw [hdl, q2, hRl]; have := Nat.sub_mul n i 2; omega)
    refine ⟨cur2, r1, by rw [r2, q2, hRl], fun t ht => ?_, ?_⟩
    · rw [r3 t, q3 t]
      exact ins_cells hcl (by rw [Array.length_toList, hnb]) (by omega) ROW hRf t ht
    · exact (((((Tch.alloc w _).trans0 (Tch.drew _)).fresh (F := fun k => k = ws) (Tch.setCells (F := fun k => k = ws) (b := ws) rfl _ _ _) (fun k h => by omega))).trans0 (Tch.drew _)).fresh (F := fun k => k = ws) (Tch.setCells (F := fun k => k = ws) (b := ws) rfl _ _ _) (fun k h => by omega)
  clear q1 q2 q3
  subst hW1
  have hE1 : ∀ x, ((w.alloc (.cells ROW 104)).drew).cell? x = (w.drew.alloc (.cells ROW 104)).cell? x := fun x => rfl
  have hE2 : ∀ x, ((w.alloc (.cells ROW 104)).drew).frozen? x = (w.drew.alloc (.cells ROW 104)).frozen? x := fun x => rfl
  have hF1 : ∀ x, (((w.alloc (.cells ROW 104)).drew.setCells ws (i * 2) nb.toList).drew).cell? x = ((w.drew.alloc (.cells ROW 104)).setCells ws (i * 2) nb.toList).cell? x := fun x => rfl
  have hF2 : ∀ x, (((w.alloc (.cells ROW 104)).drew.setCells ws (i * 2) nb.toList).drew).frozen? x = ((w.drew.alloc (.cells ROW 104)).setCells ws (i * 2) nb.toList).frozen? x := fun x => rfl
  have mixed : Tryz.prog.follows .mixedOrders = true := by kernel_rfl
  have hz2 : ¬ ((i : Int) = (n : Int)) := by omega
  have hz3 : (c : Int) < (n : Int) + 1 := by omega
  have hw1 : IntKind.i64.wrap ((i : Int) + 1) = (i : Int) + 1 := by rw [IntKind.wrap_i64]; omega
  have hb1 : (0 : Int) ≤ (i : Int) + 1 := by omega
  have hin : i ≤ n := by omega
  have htn : ((i : Int) + 1).toNat = i + 1 := by omega
  have hb3 : (i : Int) ≤ (n : Int) := by omega
  have hGi : ¬ (G = i) := by omega
  have hGim : ¬ (G = i + 1) := by omega
  have hci : ¬ (c = i) := by omega
  clear hkk hik hold hROW hG hRl hRf hN T1 hO hv1 htl hdl hcs hcl h1 h1n hv hnb hws hi0 hz0 hzs hzb
  go_enter Tryz.func433, Tryz.ntmps433
  go_wp2_with (first
    | (at_builtin; refine Lib.wpList_append_run _ rfl _ _ _ _ rfl _ _ rfl rfl _ _ (hrz _) ?_)
    | (at_builtin; refine wpList_copy_runI _ rfl _ _ 56 56 rfl _ _ rfl rfl (hcpA _ hE1 hE2 _ _) ?_))
  go_region_law_o (refine step_copy_runI rfl _ _ 56 56 rfl (.slice (some ⟨ws, (i + 1) * 2, none⟩) (n - i) (G - (i + 1))) (.slice (some ⟨g, i * 2, none⟩) (n - i) (c - i)) (by simp [Act.eval, Act.put]) (by simp [Act.eval, Act.put]) (hcpB _ hF1 hF2 3 (G - (i + 1)) (c - i)) ?_)
  go_wp2
  go_ret
  obtain ⟨cur', s1, s2, s3, s4⟩ := HFIN.out
  exact ⟨G, cur', rfl, s1, s2, hGn, hGm, s3, s4⟩
end
end
end Go.Proofs.YtcmlgmiomcegeaaGreat
namespace Go.Proofs.YtcmlgmiomcegeaaGreat.Ev
open Go Go.RowKit Go.Maps
set_option linter.unusedVariables false
set_option linter.unusedSimpArgs false
set_option linter.unusedSectionVars false
variable [Env]
/-- All of one cell. -/
def OnesE (cs : List Value) : Prop := ∀ u ∈ cs, u.oneCell' = true
/-- What is known of an Insert of one element of two cells, ahead of others. -/
structure InsK (P : Program) (f : FuncId) (el : TypeId) : Prop where
  shift : ∀ (n i c : Nat) (cs : List Value) (vb : Nat) (nb : Array Value) (w : World) (g : Nat) (cur : Array Value), i < n → n + 1 ≤ c → c ≤ maxLen → n ≤ 10000000 → w.heap[g]? = some (.cells cur el (0, 0)) → cur.size = c * 2 → cs.length = n * 2 → (∀ t, t < n * 2 → cur[t]? = cs[t]?) → OnesE cs →
    w.heap[vb]? = some (.cells nb el (0, 0)) → nb.size = 2 → OnesE nb.toList → vb ≠ g →
    Calls P f #[.slice (some ⟨g, 0, none⟩) n c, .int .i64 i, .slice (some ⟨vb, 0, none⟩) 1 1] w fun e w' => e = .returned (.slice (some ⟨g, 0, none⟩) (n + 1) c) ∧ w' = (w.drew.setCells g ((i + 1) * 2) (cs.drop (i * 2))).setCells g (i * 2) nb.toList
  grow : ∀ (n i c : Nat) (cs : List Value) (vb : Nat) (nb : Array Value) (w : World) (g : Nat), i < n → n ≤ c → c < n + 1 → n ≤ 10000000 → cs.length = n * 2 → (∀ t x, cs[t]? = some x → w.cell? ⟨g, t, none⟩ = some x) → OnesE cs →
    w.heap[vb]? = some (.cells nb el (0, 0)) → nb.size = 2 → OnesE nb.toList →
    Calls P f #[.slice (some ⟨g, 0, none⟩) n c, .int .i64 i, .slice (some ⟨vb, 0, none⟩) 1 1] w fun e w' => ∃ G cur', e = .returned (.slice (some ⟨w.heap.size, 0, none⟩) (n + 1) G) ∧ w'.heap[w.heap.size]? = some (.cells cur' el (0, 0)) ∧ cur'.size = G * 2 ∧ n + 1 ≤ G ∧ G ≤ maxLen ∧
      (∀ t, t < (n + 1) * 2 → cur'[t]? = (cs.take (i * 2) ++ nb.toList ++ cs.drop (i * 2))[t]?) ∧ Tch No w w'
  body : ∃ fn, P.funcs[f]? = some fn ∧ fn.body.isSome = true
def insOut (el : TypeId) (len k : Nat) (a b : AO) : Option AO := if k < len ∧ len ≤ 1000000 ∧ a.fz = false ∧ a.ty = el ∧ len * 2 ≤ a.cs.length ∧ b.fz = false ∧ b.ty = el ∧ b.opn = false ∧ b.cs.length = 2 then some ⟨el, (a.cs.take (len * 2)).take (k * 2) ++ b.cs ++ (a.cs.take (len * 2)).drop (k * 2), true, .ok⟩ else none
noncomputable def insOrc (fid : FuncId) (el : TypeId) (orc : Orc) : Orc := fun f args H n => if f = fid then
    match args with
    | [.v (.c (.sl i 0 len (.op 2))), .v (.c (.int .i64 (.ofNat k))), .v (.c (.sl j 0 1 (.ex 1)))] => match hg H i, hg H j with
      | some a, some b => if i ≠ j ∧ i < n then (match insOut el len k a b with
        | some o => (Ef.apT n H (.mv (one i ||| one j) i o)).map fun H' => (.v (.c (.sl n 0 (len + 1) (.op 2))), H', n + 1, one i ||| one j, one i)
        | none => none) else none
      | _, _ => none
    | _ => orc f args H n
  else orc f args H n
theorem blk_setsE {b : Nat} {e : TypeId} : ∀ (vs : List Value) (o : Nat) (w : World) (cur : Array Value), w.heap[b]? = some (.cells cur e (0, 0)) → o + vs.length ≤ cur.size →
    ∃ cur' : Array Value, (w.setCells b o vs).heap[b]? = some (.cells cur' e (0, 0)) ∧ cur'.size = cur.size ∧ ∀ t, cur'[t]? = if o ≤ t ∧ t < o + vs.length then vs[t - o]? else cur[t]?
  | [], o, w, cur, h, _ => ⟨cur, h, rfl, fun t => by rw [if_neg (by simp only [List.length_nil]; omega)]⟩
  | v :: r, o, w, cur, h, hl => by
    simp only [List.length_cons] at hl
    obtain ⟨cur', h1, h2, h3⟩ := blk_setsE r (o + 1) (w.setCell ⟨b, o, none⟩ v) _ (blk_set h o v) (by rw [Array.size_setIfInBounds]; omega)
    refine ⟨cur', h1, by rw [h2, Array.size_setIfInBounds], fun t => ?_⟩
    rw [h3, List.length_cons]
    by_cases h4 : o + 1 ≤ t ∧ t < o + 1 + r.length
    · rw [if_pos h4, if_pos (by omega), show t - o = (t - (o + 1)) + 1 by omega, List.getElem?_cons_succ]
    · rw [if_neg h4, Array.getElem?_setIfInBounds]
      by_cases h5 : o = t
      · subst h5
        rw [if_pos rfl, if_pos (by omega), if_pos (by omega)]
        simp
      · rw [if_neg h5, if_neg (by omega)]
theorem tch_setsE {F : Nat → Prop} {b : Nat} (hF : F b) : ∀ (vs : List Value) (o : Nat) (w : World), Tch F w (w.setCells b o vs)
  | [], _, w => Tch.refl F w
  | v :: r, o, w => (Tch.setCell (F := F) w ⟨b, o, none⟩ v (fun _ => hF)).trans (tch_setsE hF r (o + 1) _) (fun _ _ h => h)
theorem ones_rl {σ : Nat → Blk} {D : Nat → Prop} {l : List C} {m : List Value} (h : RL σ D l m) : OnesE m := h.ones
theorem insOrc_ok {P : Program} {fid : FuncId} {el : TypeId} {orc : Orc} (hi : InsK P fid el) (ho : OrcOK P orc) : OrcOK P (insOrc fid el orc) := by
  refine ⟨fun f args H n s H' n' F W h => ?_, fun f args H n r h => ?_⟩
  · unfold insOrc at h
    split at h
    · rename_i hf
      subst hf
      split at h
      · rename_i i len k j
        split at h
        · rename_i a b ha hb
          split at h
          · rename_i hij
            split at h
            · rename_i o hout
              rw [Option.map_eq_some_iff] at h
              obtain ⟨H1, h1, h2⟩ := h
              simp only [Prod.mk.injEq] at h2
              obtain ⟨rfl, rfl, rfl, rfl, rfl⟩ := h2
              rw [apT_ok h1]
              have hFi : tb (one i ||| one j) i = true := by rw [tb_or, tb_one]; rfl
              have hFj : tb (one i ||| one j) j = true := by rw [tb_or, tb_one, Bool.or_true]
              refine ⟨inv_ef (e := .mv (one i ||| one j) i o) (by simp [Ef.chk, ha, hFi, hij.2]), fun σ D w vals hargs hs hdom hD => ?_⟩
              unfold insOut at hout
              split at hout
              · rename_i hc
                cases hout
                obtain ⟨hkl, hl1, hfa, hta, hla, hfb, htb, hob, hlb⟩ := hc
                match vals, hargs with
                | [v1, v2, v3], ⟨r1, r2, r3, _⟩ =>
                  obtain ⟨hDi, c, e1, hlc, hcm, hct⟩ := r1
                  rw [Nat.zero_add] at hct
                  have e2 : v2 = .int .i64 (k : Int) := r2
                  obtain ⟨hDj, e3⟩ := r3
                  subst e1; subst e2; subst e3
                  have hDn : ¬ D n := hD n (Nat.le_refl _) (Nat.lt_succ_self n)
                  obtain ⟨_, hOa⟩ := obj_of hs hFi ha
                  obtain ⟨_, hOb⟩ := obj_of hs hFj hb
                  obtain ⟨ca, fa, a1, a0, a2, a3, a4, a5⟩ := hOa.ok hfa
                  obtain ⟨cb, fb, b1, b0, b2, b3, b4, b5⟩ := hOb.ok hfb
                  have := a0 hfa; subst this
                  have := b0 hfb; subst this
                  subst hta
                  rw [htb] at b1
                  have hA := (cells_of (i := i) a5 (by omega)).take (len * 2)
                  have hB := cells_of (i := j) b5 (by omega)
                  rw [List.take_take, Nat.min_eq_left hla] at hA
                  have hcbs : cb.size = 2 := by rw [b2, ← b4 hob, hlb]
                  have hBt : cb.toList.take b.cs.length = cb.toList := by rw [hlb]; apply List.take_of_length_le; simp [hcbs]
                  rw [hBt] at hB
                  have hne : (σ j).b ≠ (σ i).b := fun e => hij.1 (hs.inj i j (some_of (rst_some.2 ⟨hFi, ha⟩)) (some_of (rst_some.2 ⟨hFj, hb⟩)) e.symm)
                  have hl : (ca.toList.take (len * 2)).length = len * 2 := by simp; omega
                  have hcells : ∀ t, t < len * 2 → ca[t]? = (ca.toList.take (len * 2))[t]? := fun t ht => by rw [List.getElem?_take, if_pos ht, Array.getElem?_toList]
                  have hnew := ((hA.take (k * 2)).append hB).append (hA.drop (k * 2))
                  have hnl : ((ca.toList.take (len * 2)).take (k * 2) ++ cb.toList ++ (ca.toList.take (len * 2)).drop (k * 2)).length = (len + 1) * 2 := by
                    simp only [List.length_append, List.length_take, List.length_drop, hl, Array.length_toList, hcbs]; omega
                  -- what is left to be shown, wherever the row lies
                  have fin : ∀ (g c' : Nat) (cur' : Array Value) (w' : World), w'.heap[g]? = some (.cells cur' a.ty (0, 0)) → cur'.size = c' * 2 → len + 1 ≤ c' → c' ≤ maxLen → (∀ t, t < (len + 1) * 2 → cur'[t]? = ((ca.toList.take (len * 2)).take (k * 2) ++ cb.toList ++ (ca.toList.take (len * 2)).drop (k * 2))[t]?) → Tch (fun q => q = (σ i).b) w w' → (w.heap.size ≤ g ∨ g = (σ i).b) →
                      ∃ v σ', Ending.returned (.slice (some ⟨g, 0, none⟩) (len + 1) c') = .returned v ∧ RS σ' (more D n (n + 1)) (.v (.c (.sl n 0 (len + 1) (.op 2)))) v ∧ Out σ D w (rst (tb (one i ||| one j)) (hg H)) (aft (tb (one i ||| one j)) n (n + 1) ((Ef.mv (one i ||| one j) i ⟨a.ty, (a.cs.take (len * 2)).take (k * 2) ++ b.cs ++ (a.cs.take (len * 2)).drop (k * 2), true, .ok⟩).ap n (hg H))) n (n + 1) (tb (one i)) σ' w' := by
                    intro g c' cur' w' g1 g2 g3 g4 g5 g6 g7
                    have hsm : ∀ q, D q → at_ σ n ⟨g, cur'.size⟩ q = σ q := fun q hq => at_other (fun e => by subst e; exact hDn hq)
                    refine ⟨_, at_ σ n ⟨g, cur'.size⟩, rfl, ⟨.inr ⟨Nat.le_refl _, Nat.lt_succ_self _⟩, c', by rw [at_same]; rfl, g3, g4, by rw [at_same, Nat.zero_add]; exact g2.symm⟩, ?_⟩
                    have hO := out_mv (F := one i ||| one j) (i := i) (k := ⟨g, cur'.size⟩) (ob := ⟨a.ty, (a.cs.take (len * 2)).take (k * 2) ++ b.cs ++ (a.cs.take (len * 2)).drop (k * 2), true, .ok⟩) (w' := w') hs hDn hFi (by rw [ha]; rfl) g6 g7 ?_
                    · rw [Ef.W_eq] at hO; exact hO
                    · have hnew' := RL.ext (D' := more D n (n + 1)) hnew hsm (fun _ h => .inl h)
                      have hll := hnew'.length
                      refine ⟨cur', (0, 0), by rw [at_same]; exact g1, fun _ => rfl, by rw [at_same], ?_, (fun h => by cases h), fun q cc e => ?_⟩
                      · rw [at_same]; simp only; rw [← hll, hnl, g2]; exact Nat.mul_le_mul_right _ g3
                      · obtain ⟨v, v1, v2⟩ := hnew'.get e
                        have hlt := (List.getElem?_eq_some_iff.1 v1).1
                        exact ⟨v, by rw [g5 q (by omega)]; exact v1, v2⟩
                  by_cases hroom : len + 1 ≤ c
                  · refine (hi.shift len k c (ca.toList.take (len * 2)) (σ j).b cb w (σ i).b ca hkl hroom hcm (by omega) a1 (by omega) hl hcells hA.ones b1 hcbs hB.ones hne).mono ?_
                    rintro e w' ⟨rfl, rfl⟩
                    obtain ⟨c1, d1, d2, d3⟩ := blk_setsE ((ca.toList.take (len * 2)).drop (k * 2)) ((k + 1) * 2) w.drew ca a1 (by rw [List.length_drop, hl]; omega)
                    obtain ⟨c2, f1, f2, f3⟩ := blk_setsE cb.toList (k * 2) _ c1 d1 (by rw [d2, Array.length_toList, hcbs]; omega)
                    refine fin _ c c2 _ f1 (by omega) hroom hcm (fun t ht => ?_) ?_ (.inr rfl)
                    · rw [f3 t]
                      by_cases q1 : t < k * 2
                      · rw [if_neg (by omega), d3 t, if_neg (by omega), hcells t (by omega), List.append_assoc, List.getElem?_append_left (by rw [List.length_take, hl]; omega)]
                        conv => rhs; rw [List.getElem?_take, if_pos q1]
                      · by_cases q2 : t < (k + 1) * 2
                        · rw [if_pos ⟨by omega, by rw [Array.length_toList, hcbs]; omega⟩, List.getElem?_append_left (by rw [List.length_append, List.length_take, hl, Array.length_toList, hcbs]; omega), List.getElem?_append_right (by rw [List.length_take, hl]; omega), List.length_take, hl, Nat.min_eq_left (by omega)]
                        · rw [if_neg (by rw [Array.length_toList, hcbs]; omega), d3 t, if_pos ⟨by omega, by rw [List.length_drop, hl]; omega⟩, List.getElem?_append_right (by rw [List.length_append, List.length_take, hl, Array.length_toList, hcbs]; omega), List.length_append, List.length_take, hl, Array.length_toList, hcbs, Nat.min_eq_left (by omega)]
                          congr 1; omega
                    · exact ((Tch.drew w).no.trans (tch_setsE (F := fun q => q = (σ i).b) rfl _ _ _) (fun _ _ h => h)).trans (tch_setsE (F := fun q => q = (σ i).b) rfl _ _ _) (fun _ _ h => h)
                  · refine (hi.grow len k c (ca.toList.take (len * 2)) (σ j).b cb w (σ i).b hkl hlc (by omega) (by omega) hl (fun t x e => ?_) hA.ones b1 hcbs hB.ones).mono ?_
                    · rw [List.getElem?_take] at e
                      split at e
                      · rw [cell_of_row w _ t ca a.ty (0, 0) a1]; simpa using e
                      · cases e
                    · rintro e w' ⟨G, cur', rfl, d1, d2, d3, d4, d5, d6⟩
                      exact fin _ G cur' w' d1 d2 d3 d4 d5 d6.no (.inl (Nat.le_refl _))
              · cases hout
            · cases h
          · cases h
        · cases h
      · exact ho.1 _ _ _ _ _ _ _ _ _ h
    · exact ho.1 _ _ _ _ _ _ _ _ _ h
  · unfold insOrc at h
    split at h
    · rename_i hf; subst hf; exact hi.body
    · exact ho.2 _ _ _ _ _ h
end Go.Proofs.YtcmlgmiomcegeaaGreat.Ev
namespace Go.Proofs.YtcmlgmiomcegeaaGreat.Ev
open Go Go.RowKit Go.Maps
set_option linter.unusedSectionVars false
variable [Env]
theorem insEnd : InsK Tryz.prog 433 104 :=
  ⟨fun n i c cs vb nb w g cur => ins_end_shift n i c cs vb nb w g cur, fun n i c cs vb nb w g => ins_end_grow n i c cs vb nb w g, ⟨_, Tryz.func433, rfl⟩⟩
theorem ins_ok {orc : Orc} (ho : OrcOK Tryz.prog orc) : OrcOK Tryz.prog (insOrc 433 104 orc) := insOrc_ok insEnd ho
end Go.Proofs.YtcmlgmiomcegeaaGreat.Ev
namespace Go.Proofs.YtcmlgmiomcegeaaGreat
open Go.RowKit Go.Maps
set_option linter.unusedVariables false
set_option linter.unusedSimpArgs false
theorem eltSome : ElT 194 223 2 24 := elt_of Tryz.underlying194 (z := .agg #[.string ⟨#[]⟩, .int .i64 0]) (by kernel_rfl) (by kernel_rfl) (by decide) (by decide)
section
variable (w0 : World) (n i c : Nat) (cs : List Value) (vb : Nat) (nb : Array Value) (w : World)
set_option maxRecDepth 100000 in
set_option maxHeartbeats 8000000 in
theorem ins_some_shift (g : Nat) (cur : Array Value) (hi : i < n) (hc1 : n + 1 ≤ c) (hc2 : c ≤ maxLen) (hn : n ≤ 10000000) (hg : w.heap[g]? = some (.cells cur 223 (0, 0))) (hcur : cur.size = c * 2) (hcl : cs.length = n * 2) (hcs : ∀ t, t < n * 2 → cur[t]? = cs[t]?) (h1 : Ones cs)
    (hv : w.heap[vb]? = some (.cells nb 223 (0, 0))) (hnb : nb.size = 2) (h1n : Ones nb.toList) (hne : vb ≠ g) :
    Calls Tryz.prog 134 #[.slice (some ⟨g, 0, none⟩) n c, .int .i64 i, .slice (some ⟨vb, 0, none⟩) 1 1] w fun e w' => e = .returned (.slice (some ⟨g, 0, none⟩) (n + 1) c) ∧ w' = (w.drew.setCells g ((i + 1) * 2) (cs.drop (i * 2))).setCells g (i * 2) nb.toList := by
  have hml : c ≤ 9223372036854775807 := by unfold maxLen at hc2; omega
  have hov : ∀ lb cb, (callFunc 228 #[.slice (some ⟨vb, 0, none⟩) 1 1, .slice (some ⟨g, (i + 1) * 2, none⟩) lb cb]).run Tryz.prog w = .ok (.value (.bool false)) w := fun lb cb => by
    rw [run_callFunc_extern Tryz.func228 (by kernel_rfl) (by kernel_rfl) (by kernel_rfl) (e := Extern.SlicesOverlaps.overlaps #[194, 194] #[4]) (by kernel_rfl),
      Lib.run_overlaps_apart w 194 4 223 eltSome.und 2 Tryz.sizeOf223 ⟨vb, 0, none⟩ ⟨g, (i + 1) * 2, none⟩ 1 1 lb cb hne 223 223 2 (c * 2) (by simp [World.shape?, hv, hnb]) (by simp [World.shape?, hg, hcur]) (by omega) (blk_free hv 0) (blk_free hv 2)]
    rfl
  have hdl : (cs.drop (i * 2)).length = (n - i) * 2 := by rw [List.length_drop, hcl, Nat.sub_mul]
  have hcp1 : ∀ ty dc sc, (Builtin.copy_ #[194, 194] ty #[.slice (some ⟨g, (i + 1) * 2, none⟩) (n - i) dc, .slice (some ⟨g, i * 2, none⟩) (n + 1 - i) sc]).run Tryz.prog w.drew = .ok (goInt (Nat.min (n + 1 - i) (n - i))) (w.drew.setCells g ((i + 1) * 2) (cs.drop (i * 2))) := fun ty dc sc =>
    run_copy_many w.drew eltSome ty g ((i + 1) * 2) (n - i) dc ⟨g, i * 2, none⟩ (n + 1 - i) sc (cs.drop (i * 2)) (by rw [hdl, show Nat.min (n + 1 - i) (n - i) = n - i by simp only [Nat.min_def]; split <;> omega])
      (fun j v hj => by
        rw [addr_add]
        rw [List.getElem?_drop] at hj
        have hjl := (List.getElem?_eq_some_iff.1 hj).1
        show w.cell? _ = _
        rw [blk_cell hg, hcs _ (by omega)]; exact hj)
      (fun j hj => by show (w.cell? _).isSome = true; rw [blk_cell hg, Array.getElem?_eq_getElem (by rw [hdl] at hj; have := Nat.sub_mul n i 2; omega)]; rfl) (fun j hj => blk_free hg _) (h1.drop _)
  obtain ⟨W1, hW1⟩ : ∃ W1, W1 = w.drew.setCells g ((i + 1) * 2) (cs.drop (i * 2)) := ⟨_, rfl⟩
  obtain ⟨cur1, q1, q2, q3⟩ := blk_sets (cs.drop (i * 2)) ((i + 1) * 2) w.drew cur hg (by rw [hdl, hcur, ← Nat.add_mul]; exact Nat.mul_le_mul_right _ (by omega))
  rw [← hW1] at q1
  have hv1 : W1.heap[vb]? = some (.cells nb 223 (0, 0)) := by rw [hW1]; exact blk_tch (Tch.setCells (F := fun k => k = g) (b := g) rfl _ _ w.drew) hv hne
  have hcp2 : ∀ (W : World), (∀ x, W.cell? x = W1.cell? x) → (∀ x, W.frozen? x = W1.frozen? x) → ∀ ty dc, (Builtin.copy_ #[194, 194] ty #[.slice (some ⟨g, i * 2, none⟩) (n + 1 - i) dc, .slice (some ⟨vb, 0, none⟩) 1 1]).run Tryz.prog W = .ok (goInt (Nat.min 1 (n + 1 - i))) (W.setCells g (i * 2) nb.toList) := fun W hWc hWf ty dc =>
    run_copy_many W eltSome ty g (i * 2) (n + 1 - i) dc ⟨vb, 0, none⟩ 1 1 nb.toList (by rw [Array.length_toList, hnb, show Nat.min 1 (n + 1 - i) = 1 by simp only [Nat.min_def]; split <;> omega])
      (fun j v hj => by rw [addr_add, hWc, blk_cell hv1, Nat.zero_add]; simpa using hj)
      (fun j hj => by rw [Array.length_toList, hnb] at hj; rw [hWc, blk_cell q1, Array.getElem?_eq_getElem (by rw [q2, hcur]; omega)]; rfl) (fun j hj => by rw [hWf]; exact blk_free q1 _) h1n
  rw [← hW1] at hcp1
  have mixed : Tryz.prog.follows .mixedOrders = true := by kernel_rfl
  have hz2 : ¬ ((i : Int) = (n : Int)) := by omega
  have hw1 : IntKind.i64.wrap ((i : Int) + 1) = (i : Int) + 1 := by rw [IntKind.wrap_i64]; omega
  have hb1 : (0 : Int) ≤ (i : Int) + 1 := by omega
  have hin : i ≤ n := by omega
  have htn : ((i : Int) + 1).toNat = i + 1 := by omega
  have hb2 : ¬ (c = i + 1) := by omega
  have hb3 : (i : Int) ≤ (n : Int) + 1 := by omega
  have hb4 : ¬ (c = i) := by omega
  clear hg hcur hcl hcs h1 hv hnb h1n q1 q2 q3 hv1 hdl
  go_enter Tryz.func134, Tryz.ntmps134
  go_wp2_with (simp only [hov])
  go_region_law_o (refine step_copy_runI rfl _ _ 194 194 rfl _ _ (by simp [Act.eval, Act.put]) (by simp [Act.eval, Act.put]) (hcp1 _ _ _) ?_)
  go_wp2_with (at_builtin; refine wpList_copy_runI _ rfl _ _ 194 194 rfl _ _ rfl rfl (hcp2 _ (fun _ => rfl) (fun _ => rfl) _ _) ?_)
  go_ret
  exact ⟨rfl, rfl⟩
set_option maxRecDepth 100000 in
set_option maxHeartbeats 8000000 in
theorem ins_some_grow (g : Nat) (hi : i < n) (hc1 : n ≤ c) (hroom : c < n + 1) (hn : n ≤ 10000000) (hcl : cs.length = n * 2) (hcs : ∀ t x, cs[t]? = some x → w.cell? ⟨g, t, none⟩ = some x) (h1 : Ones cs)
    (hv : w.heap[vb]? = some (.cells nb 223 (0, 0))) (hnb : nb.size = 2) (h1n : Ones nb.toList) :
    Calls Tryz.prog 134 #[.slice (some ⟨g, 0, none⟩) n c, .int .i64 i, .slice (some ⟨vb, 0, none⟩) 1 1] w fun e w' => ∃ G cur', e = .returned (.slice (some ⟨w.heap.size, 0, none⟩) (n + 1) G) ∧ w'.heap[w.heap.size]? = some (.cells cur' 223 (0, 0)) ∧ cur'.size = G * 2 ∧ n + 1 ≤ G ∧ G ≤ maxLen ∧
      (∀ t, t < (n + 1) * 2 → cur'[t]? = (cs.take (i * 2) ++ nb.toList ++ cs.drop (i * 2))[t]?) ∧ Tch No w w' := by
  obtain ⟨i0, hi0, hz0, hzs, hzb⟩ := info_parts (show (Tryz.prog.info? 223).map (fun i => (i.zero, i.size, i.bytes)) = some (some (Value.agg #[.string ⟨#[]⟩, .int .i64 0]), 2, 24) by kernel_rfl)
  have hgb : g < w.heap.size := block_lt_of_cell (hcs 0 _ (List.getElem?_eq_getElem (by omega)))
  have hvw : vb < w.heap.size := blk_lt hv
  have hkk : (n : Int) + 1 - (i : Int) = ((n + 1 - i : Nat) : Int) := by omega
  have hik : i + (n + 1 - i) = n + 1 := by omega
  have hold : (Builtin.firstCells i0.size i (.slice (some ⟨g, 0, none⟩) i c)).run Tryz.prog w.drew = .ok (cs.take (i * 2)).toArray w.drew := by
    rw [hzs]
    exact run_firstCells_some w.drew 2 i ⟨g, 0, none⟩ i c (cs.take (i * 2)) (by rw [List.length_take]; omega) (fun j v hj => by
      rw [addr_add, Nat.zero_add]
      rw [List.getElem?_take] at hj
      split at hj
      · exact hcs j v hj
      · cases hj)
  have hrz : ∀ ty, (Builtin.append_ #[194, 3] ty #[.slice (some ⟨g, 0, none⟩) i c, .int .i64 ((n : Int) + 1 - (i : Int))]).run Tryz.prog w =
      .ok (.slice (some ⟨w.heap.size, 0, none⟩) (n + 1) (grownCap w (n + 1) c 223)) (w.drew.alloc (.cells ((cs.take (i * 2)).toArray ++ Builtin.zeroCells (Value.agg #[.string ⟨#[]⟩, .int .i64 0]).cells (n + 1 - i) ++ Builtin.zeroCells (Value.agg #[.string ⟨#[]⟩, .int .i64 0]).cells (grownCap w (n + 1) c 223 - (n + 1))) 223)) := fun ty => by
    have h := Lib.run_append_grow_zeros w 194 3 ty 223 i0 _ .i64 .i64 eltSome.und Tryz.underlying3 hi0 hz0 (some ⟨g, 0, none⟩) i c (cs.take (i * 2)) hold (n + 1 - i) (by omega) (by omega) (by omega) (by omega) (by rw [hzb]; omega) (by rw [hzb, hik]; exact growslice_fits (by omega) (by omega))
    rw [hik] at h
    rw [hkk]
    exact h
  obtain ⟨G, hG⟩ : ∃ G, G = grownCap w (n + 1) c 223 := ⟨_, rfl⟩
  obtain ⟨ROW, hROW⟩ : ∃ ROW : Array Value, ROW = (cs.take (i * 2)).toArray ++ Builtin.zeroCells (Value.agg #[.string ⟨#[]⟩, .int .i64 0]).cells (n + 1 - i) ++ Builtin.zeroCells (Value.agg #[.string ⟨#[]⟩, .int .i64 0]).cells (G - (n + 1)) := ⟨_, rfl⟩
  rw [← hG] at hrz
  rw [← hROW] at hrz
  have hGn : n + 1 ≤ G := by rw [hG]; exact grownCap_ge w _ _ _
  have hGm : G ≤ maxLen := by rw [hG]; exact grownCap_le_maxLen w (n + 1) c 223 (by unfold maxLen; omega)
  have hG63 : G ≤ 9223372036854775807 := by unfold maxLen at hGm; omega
  have htl : (cs.take (i * 2)).length = i * 2 := by rw [List.length_take, hcl]; omega
  have hRl : ROW.size = G * 2 := by
    rw [hROW]
    simp only [Array.size_append, List.size_toArray, htl, Builtin.zeroCells, Array.size_map, Array.size_range, Value.cells, List.size_toArray, List.length_cons, List.length_nil]
    omega
  have hRf : ∀ t, t < i * 2 → ROW[t]? = cs[t]? := fun t ht => by
    rw [hROW, Array.append_assoc, Array.getElem?_append_left (by rw [List.size_toArray, htl]; exact ht), List.getElem?_toArray, List.getElem?_take, if_pos ht]
  obtain ⟨ws, hws⟩ : ∃ ws, w.heap.size = ws := ⟨_, rfl⟩
  rw [hws] at hrz hgb hvw
  rw [hws]
  obtain ⟨W1, hW1⟩ : ∃ W1, W1 = w.drew.alloc (.cells ROW 223) := ⟨_, rfl⟩
  have hN : W1.heap[ws]? = some (.cells ROW 223 (0, 0)) := by rw [hW1, ← hws]; exact blk_new w.drew _
  have T1 : Tch No w W1 := by rw [hW1]; exact (Tch.drew w).trans0 (Tch.alloc _ _)
  have hO : ∀ t x, cs[t]? = some x → W1.cell? ⟨g, t, none⟩ = some x := fun t x hx => T1.cell (hcs t x hx) (fun h => h)
  have hv1 : W1.heap[vb]? = some (.cells nb 223 (0, 0)) := blk_tch T1 hv (fun h => h)
  rw [← hW1] at hrz
  have hdl : (cs.drop (i * 2)).length = (n - i) * 2 := by rw [List.length_drop, hcl, Nat.sub_mul]
  have hcpA : ∀ (W : World), (∀ x, W.cell? x = W1.cell? x) → (∀ x, W.frozen? x = W1.frozen? x) → ∀ ty dc, (Builtin.copy_ #[194, 194] ty #[.slice (some ⟨ws, i * 2, none⟩) (n + 1 - i) dc, .slice (some ⟨vb, 0, none⟩) 1 1]).run Tryz.prog W = .ok (goInt (Nat.min 1 (n + 1 - i))) (W.setCells ws (i * 2) nb.toList) := fun W hWc hWf ty dc =>
    run_copy_many W eltSome ty ws (i * 2) (n + 1 - i) dc ⟨vb, 0, none⟩ 1 1 nb.toList (by rw [Array.length_toList, hnb, show Nat.min 1 (n + 1 - i) = 1 by simp only [Nat.min_def]; split <;> omega])
      (fun j v hj => by rw [addr_add, hWc, blk_cell hv1, Nat.zero_add]; simpa using hj)
      (fun j hj => by rw [Array.length_toList, hnb] at hj; rw [hWc, blk_cell hN, Array.getElem?_eq_getElem (by rw [hRl]; omega)]; rfl) (fun j hj => by rw [hWf]; exact blk_free hN _) h1n
  obtain ⟨cur1, q1, q2, q3⟩ := blk_sets nb.toList (i * 2) W1 ROW hN (by rw [Array.length_toList, hnb, hRl]; omega)
  have hcpB : ∀ (W : World), (∀ x, W.cell? x = (W1.setCells ws (i * 2) nb.toList).cell? x) → (∀ x, W.frozen? x = (W1.setCells ws (i * 2) nb.toList).frozen? x) → ∀ ty dc sc, (Builtin.copy_ #[194, 194] ty #[.slice (some ⟨ws, (i + 1) * 2, none⟩) (n - i) dc, .slice (some ⟨g, i * 2, none⟩) (n - i) sc]).run Tryz.prog W = .ok (goInt (Nat.min (n - i) (n - i))) (W.setCells ws ((i + 1) * 2) (cs.drop (i * 2))) := fun W hWc hWf ty dc sc =>
    run_copy_many W eltSome ty ws ((i + 1) * 2) (n - i) dc ⟨g, i * 2, none⟩ (n - i) sc (cs.drop (i * 2)) (by rw [hdl, show Nat.min (n - i) (n - i) = n - i from Nat.min_self _])
      (fun j v hj => by
        rw [List.getElem?_drop] at hj
        rw [addr_add, hWc]
        exact (Tch.setCells (F := fun k => k = ws) (b := ws) rfl nb.toList (i * 2) W1).cell (hO _ _ hj) (by show ¬ g = ws; omega))
      (fun j hj => by rw [hWc, blk_cell q1, Array.getElem?_eq_getElem (by rw [q2, hRl]; rw [hdl] at hj; have := Nat.sub_mul n i 2; omega)]; rfl) (fun j hj => by rw [hWf]; exact blk_free q1 _) (h1.drop _)
  have HFIN : Hid (∃ cur' : Array Value, ((((w.alloc (.cells ROW 223)).drew.setCells ws (i * 2) nb.toList).drew).setCells ws ((i + 1) * 2) (cs.drop (i * 2))).heap[ws]? = some (.cells cur' 223 (0, 0)) ∧ cur'.size = G * 2 ∧ (∀ t, t < (n + 1) * 2 → cur'[t]? = (cs.take (i * 2) ++ nb.toList ++ cs.drop (i * 2))[t]?) ∧ Tch No w ((((w.alloc (.cells ROW 223)).drew.setCells ws (i * 2) nb.toList).drew).setCells ws ((i + 1) * 2) (cs.drop (i * 2)))) := by
    obtain ⟨cur1, q1, q2, q3⟩ := blk_sets (b := ws) (e := 223) nb.toList (i * 2) ((w.alloc (.cells ROW 223)).drew) ROW (by rw [← hws]; exact blk_new w _) (by rw [Array.length_toList, hnb, hRl]; omega)
    obtain ⟨cur2, r1, r2, r3⟩ := blk_sets (cs.drop (i * 2)) ((i + 1) * 2) (((w.alloc (.cells ROW 223)).drew.setCells ws (i * 2) nb.toList).drew) cur1 q1 (by rw [hdl, q2, hRl]; have := Nat.sub_mul n i 2; omega)
    refine ⟨cur2, r1, by rw [r2, q2, hRl], fun t ht => ?_, ?_⟩
    · rw [r3 t, q3 t]
      exact ins_cells hcl (by rw [Array.length_toList, hnb]) (by omega) ROW hRf t ht
    · exact (((((Tch.alloc w _).trans0 (Tch.drew _)).fresh (F := fun k => k = ws) (Tch.setCells (F := fun k => k = ws) (b := ws) rfl _ _ _) (fun k h => by omega))).trans0 (Tch.drew _)).fresh (F := fun k => k = ws) (Tch.setCells (F := fun k => k = ws) (b := ws) rfl _ _ _) (fun k h => by omega)
  clear q1 q2 q3
  subst hW1
  have hE1 : ∀ x, ((w.alloc (.cells ROW 223)).drew).cell? x = (w.drew.alloc (.cells ROW 223)).cell? x := fun x => rfl
  have hE2 : ∀ x, ((w.alloc (.cells ROW 223)).drew).frozen? x = (w.drew.alloc (.cells ROW 223)).frozen? x := fun x => rfl
  have hF1 : ∀ x, (((w.alloc (.cells ROW 223)).drew.setCells ws (i * 2) nb.toList).drew).cell? x = ((w.drew.alloc (.cells ROW 223)).setCells ws (i * 2) nb.toList).cell? x := fun x => rfl
  have hF2 : ∀ x, (((w.alloc (.cells ROW 223)).drew.setCells ws (i * 2) nb.toList).drew).frozen? x = ((w.drew.alloc (.cells ROW 223)).setCells ws (i * 2) nb.toList).frozen? x := fun x => rfl
  have mixed : Tryz.prog.follows .mixedOrders = true := by kernel_rfl
  have hz2 : ¬ ((i : Int) = (n : Int)) := by omega
  have hz3 : (c : Int) < (n : Int) + 1 := by omega
  have hw1 : IntKind.i64.wrap ((i : Int) + 1) = (i : Int) + 1 := by rw [IntKind.wrap_i64]; omega
  have hb1 : (0 : Int) ≤ (i : Int) + 1 := by omega
  have hin : i ≤ n := by omega
  have htn : ((i : Int) + 1).toNat = i + 1 := by omega
  have hb3 : (i : Int) ≤ (n : Int) := by omega
  have hGi : ¬ (G = i) := by omega
  have hGim : ¬ (G = i + 1) := by omega
  have hci : ¬ (c = i) := by omega
  clear hkk hik hold hROW hG hRl hRf hN T1 hO hv1 htl hdl hcs hcl h1 h1n hv hnb hws hi0 hz0 hzs hzb
  go_enter Tryz.func134, Tryz.ntmps134
  go_wp2_with (first
    | (at_builtin; refine Lib.wpList_append_run _ rfl _ _ _ _ rfl _ _ rfl rfl _ _ (hrz _) ?_)
    | (at_builtin; refine wpList_copy_runI _ rfl _ _ 194 194 rfl _ _ rfl rfl (hcpA _ hE1 hE2 _ _) ?_))
  go_region_law_o (refine step_copy_runI rfl _ _ 194 194 rfl (.slice (some ⟨ws, (i + 1) * 2, none⟩) (n - i) (G - (i + 1))) (.slice (some ⟨g, i * 2, none⟩) (n - i) (c - i)) (by simp [Act.eval, Act.put]) (by simp [Act.eval, Act.put]) (hcpB _ hF1 hF2 3 (G - (i + 1)) (c - i)) ?_)
  go_wp2
  go_ret
  obtain ⟨cur', s1, s2, s3, s4⟩ := HFIN.out
  exact ⟨G, cur', rfl, s1, s2, hGn, hGm, s3, s4⟩
end
end Go.Proofs.YtcmlgmiomcegeaaGreat
namespace Go.Proofs.YtcmlgmiomcegeaaGreat.Ev
open Go Go.RowKit Go.Maps
set_option linter.unusedSectionVars false
variable [Env]
theorem insSome : InsK Tryz.prog 134 223 :=
  ⟨fun n i c cs vb nb w g cur => ins_some_shift n i c cs vb nb w g cur, fun n i c cs vb nb w g => ins_some_grow n i c cs vb nb w g, ⟨_, Tryz.func134, rfl⟩⟩
theorem insSome_ok {orc : Orc} (ho : OrcOK Tryz.prog orc) : OrcOK Tryz.prog (insOrc 134 223 orc) := insOrc_ok insSome ho
end Go.Proofs.YtcmlgmiomcegeaaGreat.Ev
