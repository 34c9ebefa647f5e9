/- Part 1 of what the proof of WhereLong rests on. No condition. -/
import Derived.BigQuiet
import Derived.Deep.CutBlock
import Derived.Deep.DeepFit
import Derived.Deep.LoopGhost
import Derived.Deep.QuietTactic
import Derived.Deep.RegionHeld3
import Derived.Lib.Hide
import Derived.Maps.AppendAt
import Derived.Maps.OwnOps
import Derived.Maps.OwnSet
import Derived.Maps.RangeWalk
import Derived.OrdersHeld
import Derived.RegionTactic
import Derived.StringKeys
import Derived.Test.YtafndmnbnmlklaaGreatRows
import Derived.WalkKit
import Derived.WalkLawsBesides
import Derived.WalkSpells
namespace Go.Proofs.YtafndmnbnmlklaaGreat
set_option maxRecDepth 100000
set_option maxHeartbeats 60000000
set_option linter.unusedVariables false
set_option linter.unusedSimpArgs false
set_option linter.unusedSectionVars false
section
open Go.RowKit Go.Maps
structure Tch (F : Nat -> Prop) (w w' : World) : Prop where
 os : w'.os = w.os
 tape : w'.tape = w.tape
 output : w'.output = w.output
 size : w.heap.size <= w'.heap.size
 block : ∀ k, k < w.heap.size -> ¬ F k -> w'.heap[k]? = w.heap[k]?
def No : Nat -> Prop := fun _ => False
def lim : Nat := 140737488355328
theorem Tch.refl (F : Nat -> Prop) (w : World) : Tch F w w := ⟨rfl, rfl, rfl, Nat.le_refl _, fun _ _ _ => rfl⟩
theorem Tch.trans {F G : Nat -> Prop} {a b c : World} (h : Tch F a b) (k : Tch G b c) (hG : ∀ i, i < a.heap.size -> G i -> F i) : Tch F a c :=
 ⟨k.os.trans h.os, k.tape.trans h.tape, k.output.trans h.output, Nat.le_trans h.size k.size, fun i hi hF =>
  (k.block i (Nat.lt_of_lt_of_le hi h.size) (fun hg => hF (hG i hi hg))).trans (h.block i hi hF)⟩
theorem Tch.trans0 {F : Nat -> Prop} {a b c : World} (h : Tch F a b) (k : Tch No b c) : Tch F a c := h.trans k (fun _ _ h => h.elim)
theorem Tch.mono {F G : Nat -> Prop} {a b : World} (h : Tch F a b) (hG : ∀ i, i < a.heap.size -> F i -> G i) : Tch G a b :=
 ⟨h.os, h.tape, h.output, h.size, fun i hi hn => h.block i hi (fun hf => hn (hG i hi hf))⟩
theorem Tch.fresh {F : Nat -> Prop} {a b c : World} (h : Tch No a b) (k : Tch F b c) (hF : ∀ i, F i -> a.heap.size <= i) : Tch No a c :=
 h.trans k (fun i hi hf => by have := hF i hf; omega)
theorem Tch.no {F : Nat -> Prop} {a b : World} (h : Tch No a b) : Tch F a b := h.mono (fun _ _ h => h.elim)
theorem Tch.alloc (w : World) (o : Obj) : Tch No w (w.alloc o) :=
 ⟨rfl, rfl, rfl, by simp, fun k hk _ => Below.heap_alloc _ _ _ hk⟩
theorem Tch.drew (w : World) : Tch No w w.drew := ⟨rfl, rfl, rfl, Nat.le_refl _, fun _ _ _ => rfl⟩
theorem Tch.setCell {F : Nat -> Prop} (w : World) (p : Addr) (u : Value) (hF : p.block < w.heap.size -> F p.block) : Tch F w (w.setCell p u) :=
 ⟨rfl, rfl, rfl, by simp [World.setCell], fun k hk hn => Below.heap_setCell _ _ _ _ (fun e => hn (by subst e; exact hF hk))⟩
theorem Tch.grown {F : Nat -> Prop} {w w' : World} {row : Option Nat} (h : w.grownBy w' row) (hr : ∀ k, row = some k -> k < w.heap.size -> F k) : Tch F w w' :=
 ⟨h.os, h.tape, h.output, h.size, fun k hk hn => h.block k hk (fun e => hn (hr k e.symm hk))⟩
theorem Tch.below {F : Nat -> Prop} {w w' : World} (h : Tch F w w') {B : Nat} (hB : B <= w.heap.size) (hF : ∀ k, k < w.heap.size -> F k -> B <= k) : Below B w w' :=
 ⟨h.os, h.tape, h.output, h.size, fun k hk => h.block k (by omega) (fun hf => by have := hF k (by omega) hf; omega)⟩
theorem Tch.below0 {w w' : World} (h : Tch No w w') : Below w.heap.size w w' := h.below (Nat.le_refl _) (fun _ _ h => h.elim)
theorem Tch.cell {F : Nat -> Prop} {w w' : World} (h : Tch F w w') {p : Addr} {v : Value} (hc : w.cell? p = some v) (hp : ¬ F p.block) : w'.cell? p = some v :=
 (World.cell?_of_block (h.block p.block (World.block_lt_of_cell? w p hc) hp)).trans hc
def SlB (w : World) (v : Value) (bs : List UInt8) : Prop :=
 bs.length <= lim /\ ((v = .slice none 0 0 /\ bs = []) ∨
  ∃ b o cap, v = .slice (some ⟨b, o, none⟩) bs.length cap /\ bs.length <= cap /\ cap <= maxLen /\ b < w.heap.size /\ ∀ i (h : i < bs.length), w.cell? ⟨b, o + i, none⟩ = some (.int .u8 (bs[i].toNat : Int)))
theorem SlB.keep {w w' : World} {v : Value} {bs : List UInt8} (h : SlB w v bs) (hk : ∀ k, v.ownBlock = some k -> w'.heap[k]? = w.heap[k]?) : SlB w' v bs := by
 refine ⟨h.1, ?_⟩
 rcases h.2 with hn | ⟨b, o, cap, rfl, h1, h2, h3, h4⟩
 ·exact .inl hn
 ·have hb := hk b rfl
  refine .inr ⟨b, o, cap, rfl, h1, h2, ?_, fun i hi => (World.cell?_of_block hb).trans (h4 i hi)⟩
  rcases Nat.lt_or_ge b w'.heap.size with hlt | hge
  ·exact hlt
  ·rw [Array.getElem?_eq_none hge, Array.getElem?_eq_getElem h3] at hb
   cases hb
theorem SlB.blt {w : World} {v : Value} {bs : List UInt8} (h : SlB w v bs) : ∀ k, v.ownBlock = some k -> k < w.heap.size := by
 intro k hk
 rcases h.2 with ⟨rfl, _⟩ | ⟨b, o, cap, rfl, h1, h2, h3, h4⟩
 ·simp [Value.ownBlock] at hk
 ·simp [Value.ownBlock] at hk; subst hk; exact h3
theorem SlB.tch {F : Nat -> Prop} {w w' : World} {v : Value} {bs : List UInt8} (h : SlB w v bs) (ht : Tch F w w') (hF : ∀ k, v.ownBlock = some k -> ¬ F k) : SlB w' v bs :=
 h.keep fun k hk => ht.block k (h.blt k hk) (hF k hk)
theorem SlB.nil (w : World) : SlB w (.slice none 0 0) [] := ⟨Nat.zero_le _, .inl ⟨rfl, rfl⟩⟩
def u8s (bs : List UInt8) : List Value := bs.map fun c => .int .u8 (c.toNat : Int)
theorem u8s_length (bs : List UInt8) : (u8s bs).length = bs.length := by simp [u8s]
theorem addr_add (b o j : Nat) : (⟨b, o, none⟩ : Addr).add j = ⟨b, o + j, none⟩ := by unfold Addr.add; split <;> simp_all
theorem SlB.ofRow {w : World} {base : Nat} {v : Value} {n : Nat} {bs : List UInt8} {e : TypeId} (h : w.ownsRow base e 1 v n (u8s bs)) (hb : bs.length <= lim) : SlB w v bs := by
 have hn : n = bs.length := by have := h.1; rw [u8s_length] at this; omega
 subst hn
 refine ⟨hb, ?_⟩
 rcases h.2 with ⟨rfl, h0⟩ | ⟨g, cap, cur, rfl, hbg, hg, hnc, hcm, hcs, htake⟩
 ·exact .inl ⟨rfl, List.eq_nil_of_length_eq_zero h0⟩
 ·refine .inr ⟨g, 0, cap, rfl, hnc, hcm, (Array.getElem?_eq_some_iff.1 hg).1, fun i hi => ?_⟩
  have := h.cells (g := g) rfl i (.int .u8 (bs[i].toNat : Int)) (by simp [u8s, List.getElem?_eq_getElem hi])
  rwa [addr_add] at this
theorem SlB.news {w : World} {b o cap : Nat} {bs : List UInt8} (h : ∀ i (h : i < bs.length), w.cell? ⟨b, o + i, none⟩ = some (.int .u8 (bs[i].toNat : Int))) :
  ∀ j u, (u8s bs)[j]? = some u -> w.cell? ((⟨b, o, none⟩ : Addr).add j) = some u := by
 intro j u hu
 rw [addr_add]
 have hj : j < bs.length := by
  rcases Nat.lt_or_ge j bs.length with h' | h'
  ·exact h'
  ·rw [List.getElem?_eq_none (by simpa [u8s] using h')] at hu; cases hu
 rw [h j hj]
 simp [u8s, List.getElem?_eq_getElem hj] at hu
 rw [hu]
theorem SlB.str {w : World} {v : Value} {bs : List UInt8} (h : SlB w v bs) {P : Program} {src dst e : TypeId} (hs : P.underlying src = some (.slice e)) (he : P.underlying e = some (.int .u8)) (hd : P.underlying dst = some .string) :
  (convert src dst v).run P w = .ok (.string ⟨bs.toArray⟩) w := by
 rcases h.2 with ⟨rfl, rfl⟩ | ⟨b, o, cap, rfl, h1, h2, h3, h4⟩
 ·exact run_convert_bytes_nil w src e hs he 0 0 dst hd
 ·exact run_convert_bytes_back w src dst e _ cap bs hs he hd (fun j hj => by rw [addr_add]; exact h4 j hj)
theorem SlB.shape {w : World} {v : Value} {bs : List UInt8} (h : SlB w v bs) : ∃ a cap, v = .slice a bs.length cap /\ bs.length <= cap /\ cap <= maxLen := by
 rcases h.2 with ⟨rfl, rfl⟩ | ⟨b, o, cap, rfl, h1, h2, h3, h4⟩
 ·exact ⟨none, 0, rfl, by simp, by simp [maxLen]⟩
 ·exact ⟨_, cap, rfl, h1, h2⟩
structure AppPost (e : TypeId) (w : World) (v : Value) (ys : List UInt8) (v' : Value) (w' : World) : Prop where
 own : w'.ownsRow 0 e 1 v' ys.length (u8s ys)
 grow : w.grownBy w' v.ownBlock
 nil : ys = [] -> v = .slice none 0 0 -> v' = .slice none 0 0
 loc : v'.ownBlock = v.ownBlock ∨ v'.ownBlock = some w.heap.size
theorem own_shape {w : World} {base : Nat} {e : TypeId} {size : Nat} {v : Value} {n : Nat} {xs : List Value} (h : w.ownsRow base e size v n xs) : ∃ a cap, v = .slice a n cap /\ n <= cap /\ cap <= maxLen := by
 rcases h.2 with ⟨rfl, rfl⟩ | ⟨g, cap, cur, rfl, _, _, hnc, hcm, _⟩
 ·exact ⟨none, 0, rfl, Nat.le_refl _, by simp [maxLen]⟩
 ·exact ⟨_, cap, rfl, hnc, hcm⟩
theorem own_tch {F : Nat -> Prop} {w w' : World} {base : Nat} {e : TypeId} {size : Nat} {v : Value} {n : Nat} {xs : List Value} (h : w.ownsRow base e size v n xs) (ht : Tch F w w') (hF : ∀ k, v.ownBlock = some k -> ¬ F k) : w'.ownsRow base e size v n xs := by
 refine ⟨h.1, ?_⟩
 rcases h.2 with hn | ⟨g, cap, cur, rfl, hb, hgg, r⟩
 ·exact .inl hn
 ·exact .inr ⟨g, cap, cur, rfl, hb, (ht.block g (Array.getElem?_eq_some_iff.1 hgg).1 (hF g rfl)).trans hgg, r⟩
theorem blk_lt {w : World} {b : Nat} {o : Obj} (h : w.heap[b]? = some o) : b < w.heap.size := (Array.getElem?_eq_some_iff.1 h).1
theorem blk_tch {F : Nat -> Prop} {w w' : World} (ht : Tch F w w') {b : Nat} {o : Obj} (h : w.heap[b]? = some o) (hF : ¬ F b) : w'.heap[b]? = some o := (ht.block b (blk_lt h) hF).trans h
theorem blk_cell {w : World} {b : Nat} {cur : Array Value} {e : TypeId} {fr : Nat × Nat} (h : w.heap[b]? = some (.cells cur e fr)) (j : Nat) : w.cell? ⟨b, j, none⟩ = cur[j]? := cell_of_row w b j cur e fr h
theorem blk_free {w : World} {b : Nat} {cur : Array Value} {e : TypeId} (h : w.heap[b]? = some (.cells cur e (0, 0))) (j : Nat) : w.frozen? ⟨b, j, none⟩ = false := frozen_of_row w b j cur e h
theorem kc9 {W : World} {b : Nat} {c0 c1 c2 c3 c4 c5 c6 c7 c8 : Value} {T : TypeId} {fr : Nat × Nat} (h : W.heap[b]? = some (.cells #[c0, c1, c2, c3, c4, c5, c6, c7, c8] T fr)) : W.cell? ⟨b, 0, none⟩ = some c0 /\ W.cell? ⟨b, 1, none⟩ = some c1 /\ W.cell? ⟨b, 2, none⟩ = some c2 /\ W.cell? ⟨b, 3, none⟩ = some c3 /\ W.cell? ⟨b, 4, none⟩ = some c4 /\ W.cell? ⟨b, 5, none⟩ = some c5 /\ W.cell? ⟨b, 6, none⟩ = some c6 /\ W.cell? ⟨b, 7, none⟩ = some c7 /\ W.cell? ⟨b, 8, none⟩ = some c8 := ⟨(blk_cell h 0).trans rfl, (blk_cell h 1).trans rfl, (blk_cell h 2).trans rfl, (blk_cell h 3).trans rfl, (blk_cell h 4).trans rfl, (blk_cell h 5).trans rfl, (blk_cell h 6).trans rfl, (blk_cell h 7).trans rfl, (blk_cell h 8).trans rfl⟩
theorem kf9 {W : World} {b : Nat} {c0 c1 c2 c3 c4 c5 c6 c7 c8 : Value} {T : TypeId} (h : W.heap[b]? = some (.cells #[c0, c1, c2, c3, c4, c5, c6, c7, c8] T (0, 0))) : W.frozen? ⟨b, 0, none⟩ = false /\ W.frozen? ⟨b, 1, none⟩ = false /\ W.frozen? ⟨b, 2, none⟩ = false /\ W.frozen? ⟨b, 3, none⟩ = false /\ W.frozen? ⟨b, 4, none⟩ = false /\ W.frozen? ⟨b, 5, none⟩ = false /\ W.frozen? ⟨b, 6, none⟩ = false /\ W.frozen? ⟨b, 7, none⟩ = false /\ W.frozen? ⟨b, 8, none⟩ = false := ⟨blk_free h 0, blk_free h 1, blk_free h 2, blk_free h 3, blk_free h 4, blk_free h 5, blk_free h 6, blk_free h 7, blk_free h 8⟩
theorem kc6 {W : World} {b : Nat} {c0 c1 c2 c3 c4 c5 : Value} {T : TypeId} {fr : Nat × Nat} (h : W.heap[b]? = some (.cells #[c0, c1, c2, c3, c4, c5] T fr)) : W.cell? ⟨b, 0, none⟩ = some c0 /\ W.cell? ⟨b, 1, none⟩ = some c1 /\ W.cell? ⟨b, 2, none⟩ = some c2 /\ W.cell? ⟨b, 3, none⟩ = some c3 /\ W.cell? ⟨b, 4, none⟩ = some c4 /\ W.cell? ⟨b, 5, none⟩ = some c5 := ⟨(blk_cell h 0).trans rfl, (blk_cell h 1).trans rfl, (blk_cell h 2).trans rfl, (blk_cell h 3).trans rfl, (blk_cell h 4).trans rfl, (blk_cell h 5).trans rfl⟩
theorem kf6 {W : World} {b : Nat} {c0 c1 c2 c3 c4 c5 : Value} {T : TypeId} (h : W.heap[b]? = some (.cells #[c0, c1, c2, c3, c4, c5] T (0, 0))) : W.frozen? ⟨b, 0, none⟩ = false /\ W.frozen? ⟨b, 1, none⟩ = false /\ W.frozen? ⟨b, 2, none⟩ = false /\ W.frozen? ⟨b, 3, none⟩ = false /\ W.frozen? ⟨b, 4, none⟩ = false /\ W.frozen? ⟨b, 5, none⟩ = false := ⟨blk_free h 0, blk_free h 1, blk_free h 2, blk_free h 3, blk_free h 4, blk_free h 5⟩
theorem kc2 {W : World} {b : Nat} {c0 c1 : Value} {T : TypeId} {fr : Nat × Nat} (h : W.heap[b]? = some (.cells #[c0, c1] T fr)) : W.cell? ⟨b, 0, none⟩ = some c0 /\ W.cell? ⟨b, 1, none⟩ = some c1 := ⟨(blk_cell h 0).trans rfl, (blk_cell h 1).trans rfl⟩
theorem kf2 {W : World} {b : Nat} {c0 c1 : Value} {T : TypeId} (h : W.heap[b]? = some (.cells #[c0, c1] T (0, 0))) : W.frozen? ⟨b, 0, none⟩ = false /\ W.frozen? ⟨b, 1, none⟩ = false := ⟨blk_free h 0, blk_free h 1⟩

theorem blk_set {w : World} {b : Nat} {cur : Array Value} {e : TypeId} (h : w.heap[b]? = some (.cells cur e (0, 0))) (j : Nat) (u : Value) : (w.setCell ⟨b, j, none⟩ u).heap[b]? = some (.cells (cur.setIfInBounds j u) e (0, 0)) := heap_setCell_same w b j cur e u h
theorem blk_new (w : World) (o : Obj) : (w.alloc o).heap[w.heap.size]? = some o := heap_alloc_new w o
theorem SlB.one (w : World) (c : UInt8) (t : TypeId) : SlB (w.alloc (.cells #[.int .u8 (c.toNat : Int)] t)) (.slice (some ⟨w.heap.size, 0, none⟩) 1 1) [c] := by
 refine ⟨by simp [lim], .inr ⟨w.heap.size, 0, 1, rfl, by simp, by simp [maxLen], by simp, fun i hi => ?_⟩⟩
 have : i = 0 := by simpa using hi
 subst this
 simp
theorem SlB.lit (w : World) (C : Array Value) (bs : List UInt8) (n : Nat) (t : TypeId) (fr : Nat × Nat) (hn : bs.length = n) (hC : C = (u8s bs).toArray) (hl : n <= lim) : SlB (w.alloc (.cells C t fr)) (.slice (some ⟨w.heap.size, 0, none⟩) n n) bs := by
 subst hn
 refine ⟨hl, .inr ⟨w.heap.size, 0, bs.length, rfl, Nat.le_refl _, by unfold lim at hl; simp only [maxLen]; omega, by simp, fun i hi => ?_⟩⟩
 rw [Nat.zero_add, World.cell?_alloc_mark, hC]
 simp [u8s, List.getElem?_eq_getElem hi]
theorem cal {w : World} {p : Addr} {v : Value} (hc : w.cell? p = some v) : ∀ o, (w.alloc o).cell? p = some v := fun o => (Tch.alloc w o).cell hc (fun h => h)
end
section
open Go.RowKit Go.Maps
abbrev Txt := List UInt8
structure PutM where
 q : Txt
 b : Txt
 deriving DecidableEq
structure MsgM where
 id : Int
 q : Txt
 b : Txt
 seq : Int
 cnt : Int
 who : Int
 deriving DecidableEq
structure BrM where
 tid : Int
 puts : List PutM
 deriving DecidableEq
structure EndM where
 tid : Int
 yes : Bool
 deriving DecidableEq
structure PendM where
 tid : Int
 parts : List Int
 deriving DecidableEq
structure RecM where
 kind : Int
 tid : Int
 id : Int
 yes : Bool
 parts : List Int
 puts : List PutM
 deriving DecidableEq
structure StM where
 broker : Int
 nid : Int
 nseq : Int
 tx : Int
 ms : List MsgM
 waits : List BrM
 ends : List EndM
 opens : List PendM
 noes : List PendM
 deriving DecidableEq
def homeM (t : Int) : Int := if 4294967296 < t /\ t < 38654705664 /\ t % 4294967296 ≠ 0 then t / 4294967296 else 0
def tidB (t : Int) : Bool := decide (0 < homeM t)
def brokerB (n : Int) : Bool := decide (1 <= n /\ n <= 8)
def makeM (b n : Int) : Int := if 1 <= b /\ b <= 8 /\ 1 <= n /\ n < 4294967296 then b * 4294967296 + n else 0
def lowB (c : UInt8) : Bool := decide (97 <= c.toNat /\ c.toNat <= 122)
def queueB (s : Txt) : Bool := s.all lowB && decide (1 <= s.length /\ s.length <= 8)
def bodyB (s : Txt) : Bool := decide (s.length <= 60)
def putB (p : PutM) : Bool := queueB p.q && bodyB p.b
def strictB : List Int -> Bool
 | [] => true
 | [_] => true
 | a :: b :: r => decide (a < b) && strictB (b :: r)
def risingB (l : List Int) : Bool := l.all brokerB && strictB l
def atP {α : Type} (f : α -> Int) (l : List α) (t : Int) : Option Nat := l.findIdx? (fun x => decide (f x = t))
def hasP {α : Type} (f : α -> Int) (l : List α) (t : Int) : Bool := l.any (fun x => decide (f x = t))
def newM (b : Int) : StM := if 1 <= b /\ b <= 8 then ⟨b, 1, 1, 0, [], [], [], [], []⟩ else ⟨0, 0, 0, 0, [], [], [], [], []⟩
def pendingM (s : StM) : Nat := (s.waits.map (·.puts.length)).sum
def putsM (broker nid nseq : Int) : List PutM -> List MsgM
 | [] => []
 | p :: r => ⟨makeM broker nid, p.q, p.b, nseq, 0, 0⟩ :: putsM broker (nid + 1) (nseq + 1) r
theorem hasP_iff {α : Type} {f : α -> Int} {l : List α} {t : Int} : hasP f l t = true ↔ ∃ x ∈ l, f x = t := by
 simp [hasP]
end
section
open Go.RowKit Go.Maps
def I64 (z : Int) : Prop := -9223372036854775808 <= z /\ z <= 9223372036854775807
theorem kbroker_any (n : Int) (w : World) : Calls Tryz.prog 53 #[.int .i64 n] w fun e w' => e = .returned (.bool (brokerB n)) /\ w = w' := by
 by_cases h1 : 0 < n
 ·by_cases h2 : n <= 8
  ·have hb : brokerB n = true := by simp [brokerB]; omega
   rw [hb]
   clear hb
   go_enter Tryz.func53, Tryz.ntmps53
   go_wp2_with fail
   go_ret
   exact ⟨rfl, rfl⟩
  ·have hb : brokerB n = false := by simp [brokerB]; omega
   rw [hb]
   clear hb
   go_enter Tryz.func53, Tryz.ntmps53
   go_wp2_with fail
   go_ret
   exact ⟨rfl, rfl⟩
 ·have hb : brokerB n = false := by simp [brokerB]; omega
  rw [hb]
  clear hb
  go_enter Tryz.func53, Tryz.ntmps53
  go_wp2_with fail
  go_ret
  exact ⟨rfl, rfl⟩
theorem kmake_any (b n : Int) (hb : I64 b) (hn : I64 n) (w : World) : Calls Tryz.prog 98 #[.int .i64 b, .int .i64 n] w fun e w' => e = .returned (.int .i64 (makeM b n)) /\ w = w' := by
 unfold I64 at hb hn
 by_cases h1 : 1 <= b /\ b <= 8
 ·have hbb : brokerB b = true := by simp [brokerB, h1]
  have hw1 : IntKind.i64.wrap (b * 4294967296) = b * 4294967296 := IntWalk.i64_in _ (by omega)
  by_cases h2 : n < 1
  ·have e : makeM b n = 0 := if_neg (by omega)
   rw [e]
   clear e hw1
   go_enter Tryz.func98, Tryz.ntmps98
   go_wp2_with (go_at_call 53; go_must (refine (kbroker_any b w).mono ?_); rintro e w' ⟨rfl, rfl⟩; rw [hbb])
   go_ret
   exact ⟨rfl, rfl⟩
  by_cases h3 : 4294967296 <= n
  ·have e : makeM b n = 0 := if_neg (by omega)
   rw [e]
   clear e hw1
   go_enter Tryz.func98, Tryz.ntmps98
   go_wp2_with (go_at_call 53; go_must (refine (kbroker_any b w).mono ?_); rintro e w' ⟨rfl, rfl⟩; rw [hbb])
   go_ret
   exact ⟨rfl, rfl⟩
  ·have e : makeM b n = b * 4294967296 + n := if_pos (by omega)
   have hw2 : IntKind.i64.wrap (b * 4294967296 + n) = b * 4294967296 + n := IntWalk.i64_in _ (by omega)
   rw [e]
   clear e
   go_enter Tryz.func98, Tryz.ntmps98
   go_wp2_with (go_at_call 53; go_must (refine (kbroker_any b w).mono ?_); rintro e w' ⟨rfl, rfl⟩; rw [hbb])
   go_ret
   exact ⟨rfl, rfl⟩
 ·have hbb : brokerB b = false := by simp [brokerB]; omega
  have e : makeM b n = 0 := if_neg (by omega)
  rw [e]
  clear e
  go_enter Tryz.func98, Tryz.ntmps98
  go_wp2_with (go_at_call 53; go_must (refine (kbroker_any b w).mono ?_); rintro e w' ⟨rfl, rfl⟩; rw [hbb])
  go_ret
  exact ⟨rfl, rfl⟩
theorem rbroker_any (n : Int) (w : World) : Calls Tryz.prog 54 #[.int .i64 n] w fun e w' => e = .returned (.bool (brokerB n)) /\ w = w' := by
 by_cases h1 : 0 < n
 ·by_cases h2 : n <= 8
  ·have hb : brokerB n = true := by simp [brokerB]; omega
   rw [hb]
   clear hb
   go_enter Tryz.func54, Tryz.ntmps54
   go_wp2_with fail
   go_ret
   exact ⟨rfl, rfl⟩
  ·have hb : brokerB n = false := by simp [brokerB]; omega
   rw [hb]
   clear hb
   go_enter Tryz.func54, Tryz.ntmps54
   go_wp2_with fail
   go_ret
   exact ⟨rfl, rfl⟩
 ·have hb : brokerB n = false := by simp [brokerB]; omega
  rw [hb]
  clear hb
  go_enter Tryz.func54, Tryz.ntmps54
  go_wp2_with fail
  go_ret
  exact ⟨rfl, rfl⟩
end
section
open Go.RowKit Go.Maps
def CellsAt (w : World) (v : Value) (n size : Nat) (cs : List Value) : Prop :=
 cs.length = n * size /\ ((v = .slice none 0 0 /\ n = 0) ∨ ∃ b o cap, v = .slice (some ⟨b, o, none⟩) n cap /\ n <= cap /\ cap <= maxLen /\ b < w.heap.size /\ ∀ j x, cs[j]? = some x -> w.cell? ⟨b, o + j, none⟩ = some x)
theorem CellsAt.keep {w w' : World} {v : Value} {n size : Nat} {cs : List Value} (h : CellsAt w v n size cs) (t : Tch No w w') : CellsAt w' v n size cs := by
 refine ⟨h.1, ?_⟩
 rcases h.2 with h2 | ⟨b, o, cap, h2, h3, h4, h5, h6⟩
 ·exact .inl h2
 ·exact .inr ⟨b, o, cap, h2, h3, h4, Nat.lt_of_lt_of_le h5 t.size, fun j x hx => t.cell (h6 j x hx) (fun h => h)⟩
theorem CellsAt.nil (w : World) (size : Nat) : CellsAt w (.slice none 0 0) 0 size [] := ⟨by simp, .inl ⟨rfl, rfl⟩⟩
theorem CellsAt.shape {w : World} {v : Value} {n size : Nat} {cs : List Value} (h : CellsAt w v n size cs) : ∃ a cap, v = .slice a n cap /\ n <= cap /\ cap <= maxLen := by
 rcases h.2 with ⟨rfl, rfl⟩ | ⟨b, o, cap, h2, h3, h4, _⟩
 ·exact ⟨none, 0, rfl, Nat.le_refl _, by simp [maxLen]⟩
 ·exact ⟨_, cap, h2, h3, h4⟩
def strV (s : Txt) : Value := .string ⟨s.toArray⟩
def encPut (p : PutM) : List Value := [strV p.q, strV p.b]
def encMsg (m : MsgM) : List Value := [.int .i64 m.id, strV m.q, strV m.b, .int .i64 m.seq, .int .i64 m.cnt, .int .i64 m.who]
def encEnd (e : EndM) : List Value := [.int .i64 e.tid, .bool e.yes]
def IsInts (w : World) (v : Value) (l : List Int) : Prop := CellsAt w v l.length 1 (l.map (fun x => .int .i64 x))
def IsPuts (w : World) (v : Value) (l : List PutM) : Prop := CellsAt w v l.length 2 (l.flatMap encPut)
def IsMsgs (w : World) (v : Value) (l : List MsgM) : Prop := CellsAt w v l.length 6 (l.flatMap encMsg)
def IsEnds (w : World) (v : Value) (l : List EndM) : Prop := CellsAt w v l.length 2 (l.flatMap encEnd)
def encTid (x : Int × Value) : List Value := [.int .i64 x.1, x.2]
def IsBrs (w : World) (v : Value) (l : List BrM) : Prop := ∃ vs : List Value, vs.length = l.length /\ CellsAt w v l.length 2 (((l.map (·.tid)).zip vs).flatMap encTid) /\ ∀ i (h : i < l.length) (h' : i < vs.length), IsPuts w vs[i] l[i].puts
def IsPends (w : World) (v : Value) (l : List PendM) : Prop := ∃ vs : List Value, vs.length = l.length /\ CellsAt w v l.length 2 (((l.map (·.tid)).zip vs).flatMap encTid) /\ ∀ i (h : i < l.length) (h' : i < vs.length), IsInts w vs[i] l[i].parts
def IsSt (w : World) (v : Value) (s : StM) : Prop :=
 ∃ vm vw ve vo vn, v = .agg #[.int .i64 s.broker, .int .i64 s.nid, .int .i64 s.nseq, .int .i64 s.tx, vm, vw, ve, vo, vn] /\ IsMsgs w vm s.ms /\ IsBrs w vw s.waits /\ IsEnds w ve s.ends /\ IsPends w vo s.opens /\ IsPends w vn s.noes
def IsRec (w : World) (v : Value) (r : RecM) : Prop :=
 ∃ vp vu, v = .agg #[.int .i64 r.kind, .int .i64 r.tid, .int .i64 r.id, .bool r.yes, vp, vu] /\ IsInts w vp r.parts /\ IsPuts w vu r.puts
theorem IsInts.keep {w w' : World} {v : Value} {l : List Int} (h : IsInts w v l) (t : Tch No w w') : IsInts w' v l := CellsAt.keep h t
theorem IsPuts.keep {w w' : World} {v : Value} {l : List PutM} (h : IsPuts w v l) (t : Tch No w w') : IsPuts w' v l := CellsAt.keep h t
theorem IsMsgs.keep {w w' : World} {v : Value} {l : List MsgM} (h : IsMsgs w v l) (t : Tch No w w') : IsMsgs w' v l := CellsAt.keep h t
theorem IsEnds.keep {w w' : World} {v : Value} {l : List EndM} (h : IsEnds w v l) (t : Tch No w w') : IsEnds w' v l := CellsAt.keep h t
theorem IsBrs.keep {w w' : World} {v : Value} {l : List BrM} (h : IsBrs w v l) (t : Tch No w w') : IsBrs w' v l := by
 obtain ⟨vs, h1, h2, h3⟩ := h
 exact ⟨vs, h1, h2.keep t, fun i h h' => (h3 i h h').keep t⟩
theorem IsPends.keep {w w' : World} {v : Value} {l : List PendM} (h : IsPends w v l) (t : Tch No w w') : IsPends w' v l := by
 obtain ⟨vs, h1, h2, h3⟩ := h
 exact ⟨vs, h1, h2.keep t, fun i h h' => (h3 i h h').keep t⟩
theorem IsSt.keep {w w' : World} {v : Value} {s : StM} (h : IsSt w v s) (t : Tch No w w') : IsSt w' v s := by
 obtain ⟨vm, vw, ve, vo, vn, h0, h1, h2, h3, h4, h5⟩ := h
 exact ⟨vm, vw, ve, vo, vn, h0, h1.keep t, h2.keep t, h3.keep t, h4.keep t, h5.keep t⟩
theorem IsRec.keep {w w' : World} {v : Value} {r : RecM} (h : IsRec w v r) (t : Tch No w w') : IsRec w' v r := by
 obtain ⟨vp, vu, h0, h1, h2⟩ := h
 exact ⟨vp, vu, h0, h1.keep t, h2.keep t⟩
theorem flat_get {α : Type} (enc : α -> List Value) (m : Nat) (he : ∀ x, (enc x).length = m) : ∀ (l : List α) (i k : Nat) (hi : i < l.length), k < m -> (l.flatMap enc)[i * m + k]? = (enc l[i])[k]?
 | a :: r, 0, k, hi, hk => by
  rw [List.flatMap_cons, List.getElem?_append_left (by rw [he]; omega)]
  simp
 | a :: r, i + 1, k, hi, hk => by
  have e : (i + 1) * m + k = (enc a).length + (i * m + k) := by rw [he, Nat.succ_mul]; omega
  rw [List.flatMap_cons, e, List.getElem?_append_right (by omega), Nat.add_sub_cancel_left]
  simpa using flat_get enc m he r i k (by simpa using hi) hk
theorem flat_len {α : Type} (enc : α -> List Value) (m : Nat) (he : ∀ x, (enc x).length = m) (l : List α) : (l.flatMap enc).length = l.length * m := by
 induction l with
 | nil => simp
 | cons a r ih => rw [List.flatMap_cons, List.length_append, he, ih, List.length_cons, Nat.succ_mul]; omega
theorem CellsAt.elem {α : Type} {w : World} {v : Value} {enc : α -> List Value} {m : Nat} (he : ∀ x, (enc x).length = m) {l : List α} (h : CellsAt w v l.length m (l.flatMap enc)) {i : Nat} (hi : i < l.length) : ∃ b o cap, v = .slice (some ⟨b, o, none⟩) l.length cap /\ ∀ k x, k < m -> (enc l[i])[k]? = some x -> w.cell? ⟨b, o + (i * m + k), none⟩ = some x := by
 rcases h.2 with ⟨_, h0⟩ | ⟨b, o, cap, h2, h3, h4, h5, h6⟩
 ·omega
 ·exact ⟨b, o, cap, h2, fun k x hk hx => h6 _ x (by rw [flat_get enc m he l i k hi hk]; exact hx)⟩
end
section
open Go.RowKit Go.Maps
structure MsgP (s : StM) (m : MsgM) : Prop where
 seq : 1 <= m.seq /\ m.seq < s.nseq
 home : homeM m.id = s.broker
 low : m.id % 4294967296 < s.nid
 q : queueB m.q = true
 b : bodyB m.b = true
 cnt : 0 <= m.cnt /\ m.cnt <= 1000
 who : m.who = 0 ∨ (tidB m.who = true /\ hasP (·.tid) s.ends m.who = false)
structure WaitP (s : StM) (w : BrM) : Prop where
 tid : tidB w.tid = true
 no : hasP (·.tid) s.ends w.tid = false
 len : w.puts.length <= 10
 puts : w.puts.all putB = true
structure PendP (b : Int) (p : PendM) : Prop where
 home : homeM p.tid = b
 len : 1 <= p.parts.length /\ p.parts.length <= 7
 rising : risingB p.parts = true
 other : p.parts.contains b = false
structure MayP (s : StM) : Prop where
 br : 1 <= s.broker /\ s.broker <= 8
 nid : 1 <= s.nid /\ s.nid <= 4294967296
 nseq : 1 <= s.nseq /\ s.nseq <= 1099511627776
 tx : 0 <= s.tx /\ s.tx <= 200
 lms : s.ms.length <= 72
 lw : s.waits.length <= 2000
 le : s.ends.length <= 2000
 lo : s.opens.length <= 2000
 ln : s.noes.length <= 2000
 ms : ∀ m ∈ s.ms, MsgP s m
 mseq : strictB (s.ms.map (·.seq)) = true
 mids : (s.ms.map (·.id)).Nodup
 ends : ∀ e ∈ s.ends, tidB e.tid = true
 ends2 : strictB (s.ends.map (·.tid)) = true
 waits : ∀ w ∈ s.waits, WaitP s w
 waits2 : strictB (s.waits.map (·.tid)) = true
 opens : ∀ p ∈ s.opens, PendP s.broker p /\ hasP (·.tid) s.ends p.tid = false /\ hasP (·.tid) s.waits p.tid = false
 opens2 : strictB (s.opens.map (·.tid)) = true
 noes : ∀ p ∈ s.noes, PendP s.broker p /\ ∃ e ∈ s.ends, e.tid = p.tid /\ e.yes = false
 noes2 : strictB (s.noes.map (·.tid)) = true
end
section
open Go.RowKit Go.Maps
def OkT (s : Txt) : Prop := s.length <= lim
def OkPut (p : PutM) : Prop := OkT p.q /\ OkT p.b
def OkMsg (m : MsgM) : Prop := I64 m.id /\ OkT m.q /\ OkT m.b /\ I64 m.seq /\ I64 m.cnt /\ I64 m.who
structure OkRec (r : RecM) : Prop where
 kind : I64 r.kind
 tid : I64 r.tid
 id : I64 r.id
 parts : ∀ x ∈ r.parts, I64 x
 puts : ∀ p ∈ r.puts, OkPut p
structure OkSt (s : StM) : Prop where
 broker : I64 s.broker
 nid : I64 s.nid
 nseq : I64 s.nseq
 tx : I64 s.tx
 ms : ∀ m ∈ s.ms, OkMsg m
 waits : ∀ b ∈ s.waits, I64 b.tid /\ ∀ p ∈ b.puts, OkPut p
 ends : ∀ e ∈ s.ends, I64 e.tid
 opens : ∀ p ∈ s.opens, I64 p.tid /\ ∀ x ∈ p.parts, I64 x
 noes : ∀ p ∈ s.noes, I64 p.tid /\ ∀ x ∈ p.parts, I64 x
theorem OkT.size {s : Txt} (h : OkT s) : (ByteArray.mk s.toArray).size <= 9223372036854775807 := by
 have : (ByteArray.mk s.toArray).size = s.length := by simp [ByteArray.size]
 unfold OkT lim at h; omega
end
section
open Go.RowKit Go.Maps
structure TchW (w : World) where
 wo : World
 t : Tch No w wo
instance (w : World) : Inhabited (TchW w) := ⟨⟨w, Tch.refl _ _⟩⟩
theorem wp_region_qt {P : Program} {id : Nat} {Q : Exit -> Act -> World -> Prop} {a : Act} {w : World} {l : List Oper} (hm : P.follows .mixedOrders = true) (hB : Region.lexB .any l.toArray = true)
  (h : wpQuiet P l.toArray (fun w' => ∃ p : TchW w, w' = p.wo) (fun a' => ∀ w', (∃ p : TchW w, w' = p.wo) -> Q .normal a' w') l a) : (Code.region id l.toArray true).wp P Q a w :=
 wp_region_quiet (C := fun w' => ∃ p : TchW w, w' = p.wo) hm hB ⟨⟨w.drew, Tch.drew w⟩, rfl⟩ (by simpa using h)
theorem TchW.cell {w : World} (p : TchW w) {a : Addr} {v : Value} (h : w.cell? a = some v) : p.wo.cell? a = some v := p.t.cell h (fun h => h)
end
section
open Go.RowKit Go.Maps
abbrev LRow := Option Nat × List Nat × List Nat
end
section
open Go.RowKit Go.Maps
theorem isize_put {a : Act} {d : Option Nat} {v : Value} : (a.put d v).tmps.size = a.tmps.size := by cases d <;> simp [Act.put]
def putAll (a : Act) : List Nat -> List Value -> Act
 | d :: ds, v :: vs => putAll (a.put (some d) v) ds vs
 | _, _ => a
theorem put_put {a : Act} {d : Nat} {x y : Value} : (a.put (some d) x).put (some d) y = a.put (some d) y := by
 simp [Act.put]
theorem put_comm {a : Act} {d e : Nat} {x y : Value} (h : d ≠ e) : (a.put (some d) x).put (some e) y = (a.put (some e) y).put (some d) x := by
 simp only [Act.put]
 rw [Array.setIfInBounds_comm _ _ h]
theorem put_self {a : Act} {d : Nat} : a.put (some d) (a.eval (.tmp d)) = a := by
 simp only [Act.put, Act.eval]
 congr 1
 apply Array.ext
 ·simp
 ·intro i h1 h2
  rw [Array.getElem_setIfInBounds]
  split
  ·rename_i h; subst h; simp [Array.getD, h2]
  ·rfl
theorem putAll_out : ∀ (ds : List Nat) (vs : List Value) (a : Act) (d : Nat) (v : Value), d ∉ ds -> (putAll a ds vs).put (some d) v = putAll (a.put (some d) v) ds vs
 | [], vs, a, d, v, h => by cases vs <;> rfl
 | e :: ds, [], a, d, v, h => rfl
 | e :: ds, x :: vs, a, d, v, h => by
  rw [List.mem_cons, not_or] at h
  rw [putAll, putAll, putAll_out ds vs _ d v h.2, put_comm (fun e2 => h.1 e2.symm)]
theorem putAll_set : ∀ (ds : List Nat) (vs : List Value) (a : Act) (i : Nat) (d : Nat) (v : Value), ds.Nodup -> vs.length = ds.length -> ds[i]? = some d -> (putAll a ds vs).put (some d) v = putAll a ds (vs.set i v)
 | [], vs, a, i, d, v, _, _, h => by simp at h
 | e :: ds, [], a, i, d, v, _, hl, h => by simp at hl
 | e :: ds, x :: vs, a, 0, d, v, hn, hl, h => by
  simp only [List.getElem?_cons_zero, Option.some.injEq] at h
  subst h
  rw [List.nodup_cons] at hn
  rw [List.set_cons_zero, putAll, putAll, putAll_out _ _ _ _ _ hn.1, put_put]
 | e :: ds, x :: vs, a, i + 1, d, v, hn, hl, h => by
  rw [List.nodup_cons] at hn
  rw [List.getElem?_cons_succ] at h
  rw [List.set_cons_succ, putAll, putAll]
  exact putAll_set ds vs _ i d v hn.2 (by simpa using hl) h
theorem putAll_start : ∀ (ds : List Nat) (a : Act), putAll a ds (ds.map fun d => a.eval (.tmp d)) = a
 | [], a => rfl
 | d :: ds, a => by rw [List.map_cons, putAll, put_self]; exact putAll_start ds a
theorem putAll_size : ∀ (ds : List Nat) (vs : List Value) (a : Act), (putAll a ds vs).tmps.size = a.tmps.size
 | [], vs, a => by cases vs <;> rfl
 | e :: ds, [], a => rfl
 | e :: ds, x :: vs, a => by rw [putAll, putAll_size ds vs, isize_put]
def Fr (a0 : Act) (ds : List Nat) (a : Act) : Prop := ∃ vs : List Value, vs.length = ds.length /\ a = putAll a0 ds vs
theorem Fr.start (a0 : Act) (ds : List Nat) : Fr a0 ds a0 := ⟨_, by simp, (putAll_start ds a0).symm⟩
theorem Fr.put {a0 a : Act} {ds : List Nat} (h : Fr a0 ds a) (hn : ds.Nodup) {d : Option Nat} (hd : ∀ e, d = some e -> e ∈ ds) (v : Value) : Fr a0 ds (a.put d v) := by
 obtain ⟨vs, hl, rfl⟩ := h
 cases d with
 | none => exact ⟨vs, hl, rfl⟩
 | some e =>
  obtain ⟨i, hi, he⟩ := List.getElem_of_mem (hd e rfl)
  exact ⟨vs.set i v, by simpa using hl, putAll_set ds vs a0 i e v hn hl (by rw [List.getElem?_eq_getElem hi, he])⟩
theorem Fr.size {a0 a : Act} {ds : List Nat} (h : Fr a0 ds a) : a.tmps.size = a0.tmps.size := by
 obtain ⟨vs, hl, rfl⟩ := h
 exact putAll_size _ _ _
section
variable {P : Program} {ops : Array Oper} {Q : Exit -> Act -> World -> Prop}
def lon (rows : List LRow) (i : Nat) : List Nat := ((rows[i]?).map (·.2.2)).getD []
def ldst (rows : List LRow) (i : Nat) : Option Nat := (rows[i]?).bind (·.1)
structure ISpec (rows : List LRow) (ds : List Nat) (anc need kill later : Nat -> List Nat) : Prop where
 nodup : ds.Nodup
 less : ∀ i, i < rows.length -> ∀ e ∈ lon rows i, e < i
 needs : ∀ i, i < rows.length -> ∀ k ∈ need i, k ∈ lon rows i
 dst : ∀ i, i < rows.length -> ∀ d, ldst rows i = some d -> d ∈ ds
 other : ∀ i, i < rows.length -> ∀ d, ldst rows i = some d -> ∀ j, j < rows.length -> j ≠ i -> ldst rows j ≠ some d
 kills : ∀ i, i < rows.length -> ∀ k ∈ kill i, ∀ j, j < rows.length -> k ∈ need j -> j = i ∨ j ∈ anc i
 laters : ∀ i, i < rows.length -> ∀ j ∈ later i, i ∈ anc j /\ j < rows.length
 ancs : ∀ i, i < rows.length -> ∀ k ∈ anc i, k ∈ lon rows i ∨ ∃ m ∈ lon rows i, k ∈ anc m
def Stb (f : Value -> World -> Prop) : Prop := ∀ x w w', Tch No w w' -> f x w -> f x w'
def RL (l : List (Value -> World -> Prop)) (j : Nat) : Value -> World -> Prop := (l[j]?).getD (fun _ _ => True)
end
end
section
open Go.RowKit Go.Maps
theorem one_cells {v : Value} (h : v.oneCell' = true) : v.cells = #[v] := by cases v <;> first | rfl | cases h
theorem CellsAt.one {w : World} {v : Value} {n size : Nat} {cs : List Value} (h : CellsAt w v n size cs) : v.oneCell' = true := by
 obtain ⟨a, cap, rfl, _⟩ := h.shape; rfl
end
section
open Go.RowKit Go.Maps
def stV (br nid nseq tx : Int) (am : Option Addr) (nm cm : Nat) (aw : Option Addr) (nw cw : Nat) (ae : Option Addr) (ne ce : Nat) (ao : Option Addr) (no co : Nat) (an : Option Addr) (nn cn : Nat) : Value :=
 .agg #[.int .i64 br, .int .i64 nid, .int .i64 nseq, .int .i64 tx, .slice am nm cm, .slice aw nw cw, .slice ae ne ce, .slice ao no co, .slice an nn cn]
end
section
open Go.RowKit Go.Maps
abbrev DtB := DataW Unit
def truR : Value -> Option (DtB × List MemPlace)
 | .bool b => some (.lit (.bool b), [])
 | _ => none
theorem truR_b (b : Bool) : truR (.bool b) = some (.lit (.bool b), []) := rfl
theorem lawI : Keyed Tryz.prog 2 := int_keyed Tryz.underlying2
theorem isKeyI {x : Int} : WideAt.IsKeyLit (.int .i64 x) := by simp [WideAt.IsKeyLit]
theorem tch_turn {w w' : World} {mb : Nat} (hg : w.grownBy w' (some mb)) : Tch (fun k => k = mb) w w' := Tch.grown hg (fun k hk _ => by injection hk with hk; exact hk.symm)
structure IdMap (w : World) (mb : Nat) (n : Nat) (ids : List Int) : Prop where
 map : ∃ D, w.ownsMap Tryz.prog 2 truR mb n D /\ (∀ x : Int, x ∈ ids -> ∀ z, D.atKey (.int .i64 x) z = .lit (.bool true)) /\ (∀ x : Int, x ∉ ids -> Maps.has D (.int .i64 x) = false)
theorem IdMap.tch {F : Nat -> Prop} {w w' : World} {mb n : Nat} {ids : List Int} (h : IdMap w mb n ids) (t : Tch F w w') (hF : ¬ F mb) : IdMap w' mb n ids := by
 obtain ⟨D, ⟨es, clock, hb, F', hs, hD⟩, h2⟩ := h.map
 exact ⟨D, ⟨es, clock, blk_tch t hb hF, F', hs, hD⟩, h2⟩
theorem i64_wf {x : Int} (h : I64 x) : (Lit.int .i64 x).wf = true := by
 unfold I64 at h
 have e1 : IntKind.i64.min = -9223372036854775808 := by decide
 have e2 : IntKind.i64.max = 9223372036854775807 := by decide
 rw [Lit.wf, e1, e2, Bool.and_eq_true, decide_eq_true_eq, decide_eq_true_eq]
 exact h
theorem IdMap.put {w : World} {mb n : Nat} {ids : List Int} (h : IdMap w mb n ids) {x : Int} (hx : I64 x) (hn : n < maxLen) :
  ∃ w', (Instr.mapUpdate 123 (.map (some mb)) (.int .i64 x) (.bool true)).run Tryz.prog w = .ok () w' /\ IdMap w' mb (n + 1) (ids ++ [x]) /\ Tch (fun k => k = mb) w w' := by
 obtain ⟨D, hm, h1, h2⟩ := h.map
 obtain ⟨w', hrun, hown, hg⟩ := hm.update lawI Tryz.underlying123 hn (keyOf_int_mk Tryz.underlying2 (i64_wf hx)) (val := .bool true) (truR_b true)
 have ht : Tch (fun k => k = mb) w w' := tch_turn hg
 refine ⟨w', hrun, ⟨_, hown, ?_, ?_⟩, ht⟩
 ·intro y hy z
  by_cases e : y = x
  ·subst e; exact atKey_put_same hm.isMap isKeyI _ _
  ·rw [atKey_put_other (fun e2 => e (by injection e2))]
   exact h1 y (by simpa [e] using hy) z
 ·intro y hy
  have hy2 : y ∉ ids /\ y ≠ x := by simpa using hy
  rw [has_put_other (fun e2 => hy2.2 (by injection e2))]
  exact h2 y hy2.1
end
section
open Go.RowKit Go.Maps
theorem IsBrs.shape {w : World} {v : Value} {l : List BrM} (h : IsBrs w v l) : ∃ a cap, v = .slice a l.length cap /\ l.length <= cap /\ cap <= maxLen := by
 obtain ⟨vs, h1, h2, _⟩ := h; exact CellsAt.shape h2
theorem IsPends.shape {w : World} {v : Value} {l : List PendM} (h : IsPends w v l) : ∃ a cap, v = .slice a l.length cap /\ l.length <= cap /\ cap <= maxLen := by
 obtain ⟨vs, h1, h2, _⟩ := h; exact CellsAt.shape h2
theorem IsSt.shape {w : World} {v : Value} {s : StM} (h : IsSt w v s) : ∃ am cm aw cw ae ce ao co an cn, v = stV s.broker s.nid s.nseq s.tx am s.ms.length cm aw s.waits.length cw ae s.ends.length ce ao s.opens.length co an s.noes.length cn /\
  IsMsgs w (.slice am s.ms.length cm) s.ms /\ IsBrs w (.slice aw s.waits.length cw) s.waits /\ IsEnds w (.slice ae s.ends.length ce) s.ends /\ IsPends w (.slice ao s.opens.length co) s.opens /\ IsPends w (.slice an s.noes.length cn) s.noes := by
 obtain ⟨vm, vw, ve, vo, vn, rfl, h1, h2, h3, h4, h5⟩ := h
 obtain ⟨am, cm, rfl, _⟩ := CellsAt.shape h1
 obtain ⟨aw, cw, rfl, _⟩ := h2.shape
 obtain ⟨ae, ce, rfl, _⟩ := CellsAt.shape h3
 obtain ⟨ao, co, rfl, _⟩ := h4.shape
 obtain ⟨an, cn, rfl, _⟩ := h5.shape
 exact ⟨am, cm, aw, cw, ae, ce, ao, co, an, cn, rfl, h1, h2, h3, h4, h5⟩
theorem st_pre {w : World} {v : Value} {s : StM} (h : IsSt w v s) : ∃ am cm aw cw ae ce ao co an cn nm nw ne no nn, v = .agg #[.int .i64 s.broker, .int .i64 s.nid, .int .i64 s.nseq, .int .i64 s.tx, .slice am nm cm, .slice aw nw cw, .slice ae ne ce, .slice ao no co, .slice an nn cn] /\ Hid (IsMsgs w (.slice am nm cm) s.ms) /\ Hid (s.ms.length = nm) /\ nm <= 9223372036854775807 /\ Hid (IsBrs w (.slice aw nw cw) s.waits) /\ Hid (s.waits.length = nw) /\ nw <= 9223372036854775807 /\ Hid (IsEnds w (.slice ae ne ce) s.ends) /\ Hid (s.ends.length = ne) /\ ne <= 9223372036854775807 /\ Hid (IsPends w (.slice ao no co) s.opens) /\ Hid (s.opens.length = no) /\ no <= 9223372036854775807 /\ Hid (IsPends w (.slice an nn cn) s.noes) /\ Hid (s.noes.length = nn) /\ nn <= 9223372036854775807 := by
  obtain ⟨am, cm, aw, cw, ae, ce, ao, co, an, cn, hv, h1, h2, h3, h4, h5⟩ := h.shape
  have f : ∀ n : Nat, (∃ c, n <= c /\ c <= maxLen) -> n <= 9223372036854775807 := fun n ⟨c, h1, h2⟩ => by unfold maxLen at h2; omega
  refine ⟨am, cm, aw, cw, ae, ce, ao, co, an, cn, _, _, _, _, _, hv, h1, rfl, f _ ?_, h2, rfl, f _ ?_, h3, rfl, f _ ?_, h4, rfl, f _ ?_, h5, rfl, f _ ?_⟩
  · obtain ⟨_, c, _, a, b⟩ := CellsAt.shape h1; exact ⟨c, a, b⟩
  · obtain ⟨_, c, _, a, b⟩ := IsBrs.shape h2; exact ⟨c, a, b⟩
  · obtain ⟨_, c, _, a, b⟩ := CellsAt.shape h3; exact ⟨c, a, b⟩
  · obtain ⟨_, c, _, a, b⟩ := IsPends.shape h4; exact ⟨c, a, b⟩
  · obtain ⟨_, c, _, a, b⟩ := IsPends.shape h5; exact ⟨c, a, b⟩
end
section
open Go.RowKit Go.Maps
def BoxAt (w : World) (b : Nat) (vals : List Value) : Prop := ∀ i x, vals[i]? = some x -> w.cell? ⟨b, i, none⟩ = some x
theorem BoxAt.keep {w w' : World} {b : Nat} {vals : List Value} (h : BoxAt w b vals) (t : Tch No w w') : BoxAt w' b vals := fun i x hx => t.cell (h i x hx) (fun h => h)
end
end Go.Proofs.YtafndmnbnmlklaaGreat
