/- Part 1 of what the proof of StoreIds rests on. No condition. -/
import Derived.BigQuiet
import Derived.Deep.DeepFit
import Derived.Deep.QuietTactic
import Derived.Deep.RegionHeld3
import Derived.Lib.Hide
import Derived.Maps.AppendAt
import Derived.Maps.OwnOps
import Derived.Maps.OwnSet
import Derived.Maps.RangeWalk
import Derived.Test.YtafndmnbnmlklaaGreatRows
import Derived.WalkKit
import Derived.WalkLawsBesides
import Derived.WalkSpells
namespace Go.Proofs.YtafndmnbnmlklaaGreat
set_option maxRecDepth 100000
set_option maxHeartbeats 60000000
set_option linter.unusedVariables false
set_option linter.unusedSimpArgs false
set_option linter.unusedSectionVars false
section
open Go.RowKit Go.Maps
structure Tch (F : Nat -> Prop) (w w' : World) : Prop where
 os : w'.os = w.os
 tape : w'.tape = w.tape
 output : w'.output = w.output
 size : w.heap.size <= w'.heap.size
 block : ∀ k, k < w.heap.size -> ¬ F k -> w'.heap[k]? = w.heap[k]?
def No : Nat -> Prop := fun _ => False
def lim : Nat := 140737488355328
theorem Tch.refl (F : Nat -> Prop) (w : World) : Tch F w w := ⟨rfl, rfl, rfl, Nat.le_refl _, fun _ _ _ => rfl⟩
theorem Tch.trans {F G : Nat -> Prop} {a b c : World} (h : Tch F a b) (k : Tch G b c) (hG : ∀ i, i < a.heap.size -> G i -> F i) : Tch F a c :=
 ⟨k.os.trans h.os, k.tape.trans h.tape, k.output.trans h.output, Nat.le_trans h.size k.size, fun i hi hF =>
  (k.block i (Nat.lt_of_lt_of_le hi h.size) (fun hg => hF (hG i hi hg))).trans (h.block i hi hF)⟩
theorem Tch.trans0 {F : Nat -> Prop} {a b c : World} (h : Tch F a b) (k : Tch No b c) : Tch F a c := h.trans k (fun _ _ h => h.elim)
theorem Tch.mono {F G : Nat -> Prop} {a b : World} (h : Tch F a b) (hG : ∀ i, i < a.heap.size -> F i -> G i) : Tch G a b :=
 ⟨h.os, h.tape, h.output, h.size, fun i hi hn => h.block i hi (fun hf => hn (hG i hi hf))⟩
theorem Tch.fresh {F : Nat -> Prop} {a b c : World} (h : Tch No a b) (k : Tch F b c) (hF : ∀ i, F i -> a.heap.size <= i) : Tch No a c :=
 h.trans k (fun i hi hf => by have := hF i hf; omega)
theorem Tch.no {F : Nat -> Prop} {a b : World} (h : Tch No a b) : Tch F a b := h.mono (fun _ _ h => h.elim)
theorem Tch.alloc (w : World) (o : Obj) : Tch No w (w.alloc o) :=
 ⟨rfl, rfl, rfl, by simp, fun k hk _ => Below.heap_alloc _ _ _ hk⟩
theorem Tch.drew (w : World) : Tch No w w.drew := ⟨rfl, rfl, rfl, Nat.le_refl _, fun _ _ _ => rfl⟩
theorem Tch.setCell {F : Nat -> Prop} (w : World) (p : Addr) (u : Value) (hF : p.block < w.heap.size -> F p.block) : Tch F w (w.setCell p u) :=
 ⟨rfl, rfl, rfl, by simp [World.setCell], fun k hk hn => Below.heap_setCell _ _ _ _ (fun e => hn (by subst e; exact hF hk))⟩
theorem Tch.grown {F : Nat -> Prop} {w w' : World} {row : Option Nat} (h : w.grownBy w' row) (hr : ∀ k, row = some k -> k < w.heap.size -> F k) : Tch F w w' :=
 ⟨h.os, h.tape, h.output, h.size, fun k hk hn => h.block k hk (fun e => hn (hr k e.symm hk))⟩
theorem Tch.below {F : Nat -> Prop} {w w' : World} (h : Tch F w w') {B : Nat} (hB : B <= w.heap.size) (hF : ∀ k, k < w.heap.size -> F k -> B <= k) : Below B w w' :=
 ⟨h.os, h.tape, h.output, h.size, fun k hk => h.block k (by omega) (fun hf => by have := hF k (by omega) hf; omega)⟩
theorem Tch.below0 {w w' : World} (h : Tch No w w') : Below w.heap.size w w' := h.below (Nat.le_refl _) (fun _ _ h => h.elim)
theorem Tch.ofBelow {w w' : World} (h : Below w.heap.size w w') : Tch No w w' := ⟨h.os, h.tape, h.output, h.size, fun k hk _ => h.block k hk⟩
theorem Tch.cell {F : Nat -> Prop} {w w' : World} (h : Tch F w w') {p : Addr} {v : Value} (hc : w.cell? p = some v) (hp : ¬ F p.block) : w'.cell? p = some v :=
 (World.cell?_of_block (h.block p.block (World.block_lt_of_cell? w p hc) hp)).trans hc
theorem ret_b {a b : Bool} (h : a = b) : Ending.returned (.bool a) = .returned (.bool b) := by rw [h]
theorem ret_i {k : IntKind} {a b : Int} (h : a = b) : Ending.returned (.int k a) = .returned (.int k b) := by rw [h]
def SlB (w : World) (v : Value) (bs : List UInt8) : Prop :=
 bs.length <= lim /\ ((v = .slice none 0 0 /\ bs = []) ∨
  ∃ b o cap, v = .slice (some ⟨b, o, none⟩) bs.length cap /\ bs.length <= cap /\ cap <= maxLen /\ b < w.heap.size /\ ∀ i (h : i < bs.length), w.cell? ⟨b, o + i, none⟩ = some (.int .u8 (bs[i].toNat : Int)))
theorem SlB.keep {w w' : World} {v : Value} {bs : List UInt8} (h : SlB w v bs) (hk : ∀ k, v.ownBlock = some k -> w'.heap[k]? = w.heap[k]?) : SlB w' v bs := by
 refine ⟨h.1, ?_⟩
 rcases h.2 with hn | ⟨b, o, cap, rfl, h1, h2, h3, h4⟩
 ·exact .inl hn
 ·have hb := hk b rfl
  refine .inr ⟨b, o, cap, rfl, h1, h2, ?_, fun i hi => (World.cell?_of_block hb).trans (h4 i hi)⟩
  rcases Nat.lt_or_ge b w'.heap.size with hlt | hge
  ·exact hlt
  ·rw [Array.getElem?_eq_none hge, Array.getElem?_eq_getElem h3] at hb
   cases hb
theorem SlB.blt {w : World} {v : Value} {bs : List UInt8} (h : SlB w v bs) : ∀ k, v.ownBlock = some k -> k < w.heap.size := by
 intro k hk
 rcases h.2 with ⟨rfl, _⟩ | ⟨b, o, cap, rfl, h1, h2, h3, h4⟩
 ·simp [Value.ownBlock] at hk
 ·simp [Value.ownBlock] at hk; subst hk; exact h3
theorem SlB.tch {F : Nat -> Prop} {w w' : World} {v : Value} {bs : List UInt8} (h : SlB w v bs) (ht : Tch F w w') (hF : ∀ k, v.ownBlock = some k -> ¬ F k) : SlB w' v bs :=
 h.keep fun k hk => ht.block k (h.blt k hk) (hF k hk)
theorem SlB.nil (w : World) : SlB w (.slice none 0 0) [] := ⟨Nat.zero_le _, .inl ⟨rfl, rfl⟩⟩
def u8s (bs : List UInt8) : List Value := bs.map fun c => .int .u8 (c.toNat : Int)
theorem u8s_length (bs : List UInt8) : (u8s bs).length = bs.length := by simp [u8s]
theorem addr_add (b o j : Nat) : (⟨b, o, none⟩ : Addr).add j = ⟨b, o + j, none⟩ := by unfold Addr.add; split <;> simp_all
theorem SlB.ofRow {w : World} {base : Nat} {v : Value} {n : Nat} {bs : List UInt8} {e : TypeId} (h : w.ownsRow base e 1 v n (u8s bs)) (hb : bs.length <= lim) : SlB w v bs := by
 have hn : n = bs.length := by have := h.1; rw [u8s_length] at this; omega
 subst hn
 refine ⟨hb, ?_⟩
 rcases h.2 with ⟨rfl, h0⟩ | ⟨g, cap, cur, rfl, hbg, hg, hnc, hcm, hcs, htake⟩
 ·exact .inl ⟨rfl, List.eq_nil_of_length_eq_zero h0⟩
 ·refine .inr ⟨g, 0, cap, rfl, hnc, hcm, (Array.getElem?_eq_some_iff.1 hg).1, fun i hi => ?_⟩
  have := h.cells (g := g) rfl i (.int .u8 (bs[i].toNat : Int)) (by simp [u8s, List.getElem?_eq_getElem hi])
  rwa [addr_add] at this
theorem SlB.news {w : World} {b o cap : Nat} {bs : List UInt8} (h : ∀ i (h : i < bs.length), w.cell? ⟨b, o + i, none⟩ = some (.int .u8 (bs[i].toNat : Int))) :
  ∀ j u, (u8s bs)[j]? = some u -> w.cell? ((⟨b, o, none⟩ : Addr).add j) = some u := by
 intro j u hu
 rw [addr_add]
 have hj : j < bs.length := by
  rcases Nat.lt_or_ge j bs.length with h' | h'
  ·exact h'
  ·rw [List.getElem?_eq_none (by simpa [u8s] using h')] at hu; cases hu
 rw [h j hj]
 simp [u8s, List.getElem?_eq_getElem hj] at hu
 rw [hu]
theorem SlB.str {w : World} {v : Value} {bs : List UInt8} (h : SlB w v bs) {P : Program} {src dst e : TypeId} (hs : P.underlying src = some (.slice e)) (he : P.underlying e = some (.int .u8)) (hd : P.underlying dst = some .string) :
  (convert src dst v).run P w = .ok (.string ⟨bs.toArray⟩) w := by
 rcases h.2 with ⟨rfl, rfl⟩ | ⟨b, o, cap, rfl, h1, h2, h3, h4⟩
 ·exact run_convert_bytes_nil w src e hs he 0 0 dst hd
 ·exact run_convert_bytes_back w src dst e _ cap bs hs he hd (fun j hj => by rw [addr_add]; exact h4 j hj)
theorem SlB.shape {w : World} {v : Value} {bs : List UInt8} (h : SlB w v bs) : ∃ a cap, v = .slice a bs.length cap /\ bs.length <= cap /\ cap <= maxLen := by
 rcases h.2 with ⟨rfl, rfl⟩ | ⟨b, o, cap, rfl, h1, h2, h3, h4⟩
 ·exact ⟨none, 0, rfl, by simp, by simp [maxLen]⟩
 ·exact ⟨_, cap, rfl, h1, h2⟩
structure AppPost (e : TypeId) (w : World) (v : Value) (ys : List UInt8) (v' : Value) (w' : World) : Prop where
 own : w'.ownsRow 0 e 1 v' ys.length (u8s ys)
 grow : w.grownBy w' v.ownBlock
 nil : ys = [] -> v = .slice none 0 0 -> v' = .slice none 0 0
 loc : v'.ownBlock = v.ownBlock ∨ v'.ownBlock = some w.heap.size
theorem own_shape {w : World} {base : Nat} {e : TypeId} {size : Nat} {v : Value} {n : Nat} {xs : List Value} (h : w.ownsRow base e size v n xs) : ∃ a cap, v = .slice a n cap /\ n <= cap /\ cap <= maxLen := by
 rcases h.2 with ⟨rfl, rfl⟩ | ⟨g, cap, cur, rfl, _, _, hnc, hcm, _⟩
 ·exact ⟨none, 0, rfl, Nat.le_refl _, by simp [maxLen]⟩
 ·exact ⟨_, cap, rfl, hnc, hcm⟩
theorem own_shape' {w : World} {base : Nat} {e : TypeId} {size : Nat} {v : Value} {n : Nat} {xs : List Value} (h : w.ownsRow base e size v n xs) : ∃ a m cap, v = .slice a m cap /\ Hid (m = n) := by
 obtain ⟨a, cap, h, _⟩ := own_shape h
 exact ⟨a, n, cap, h, rfl⟩
theorem own_tch {F : Nat -> Prop} {w w' : World} {base : Nat} {e : TypeId} {size : Nat} {v : Value} {n : Nat} {xs : List Value} (h : w.ownsRow base e size v n xs) (ht : Tch F w w') (hF : ∀ k, v.ownBlock = some k -> ¬ F k) : w'.ownsRow base e size v n xs := by
 refine ⟨h.1, ?_⟩
 rcases h.2 with hn | ⟨g, cap, cur, rfl, hb, hgg, r⟩
 ·exact .inl hn
 ·exact .inr ⟨g, cap, cur, rfl, hb, (ht.block g (Array.getElem?_eq_some_iff.1 hgg).1 (hF g rfl)).trans hgg, r⟩
theorem blk_lt {w : World} {b : Nat} {o : Obj} (h : w.heap[b]? = some o) : b < w.heap.size := (Array.getElem?_eq_some_iff.1 h).1
theorem blk_tch {F : Nat -> Prop} {w w' : World} (ht : Tch F w w') {b : Nat} {o : Obj} (h : w.heap[b]? = some o) (hF : ¬ F b) : w'.heap[b]? = some o := (ht.block b (blk_lt h) hF).trans h
theorem blk_cell {w : World} {b : Nat} {cur : Array Value} {e : TypeId} {fr : Nat × Nat} (h : w.heap[b]? = some (.cells cur e fr)) (j : Nat) : w.cell? ⟨b, j, none⟩ = cur[j]? := cell_of_row w b j cur e fr h
theorem blk_free {w : World} {b : Nat} {cur : Array Value} {e : TypeId} (h : w.heap[b]? = some (.cells cur e (0, 0))) (j : Nat) : w.frozen? ⟨b, j, none⟩ = false := frozen_of_row w b j cur e h
theorem kc9 {W : World} {b : Nat} {c0 c1 c2 c3 c4 c5 c6 c7 c8 : Value} {T : TypeId} {fr : Nat × Nat} (h : W.heap[b]? = some (.cells #[c0, c1, c2, c3, c4, c5, c6, c7, c8] T fr)) : W.cell? ⟨b, 0, none⟩ = some c0 /\ W.cell? ⟨b, 1, none⟩ = some c1 /\ W.cell? ⟨b, 2, none⟩ = some c2 /\ W.cell? ⟨b, 3, none⟩ = some c3 /\ W.cell? ⟨b, 4, none⟩ = some c4 /\ W.cell? ⟨b, 5, none⟩ = some c5 /\ W.cell? ⟨b, 6, none⟩ = some c6 /\ W.cell? ⟨b, 7, none⟩ = some c7 /\ W.cell? ⟨b, 8, none⟩ = some c8 := ⟨(blk_cell h 0).trans rfl, (blk_cell h 1).trans rfl, (blk_cell h 2).trans rfl, (blk_cell h 3).trans rfl, (blk_cell h 4).trans rfl, (blk_cell h 5).trans rfl, (blk_cell h 6).trans rfl, (blk_cell h 7).trans rfl, (blk_cell h 8).trans rfl⟩
theorem kf9 {W : World} {b : Nat} {c0 c1 c2 c3 c4 c5 c6 c7 c8 : Value} {T : TypeId} (h : W.heap[b]? = some (.cells #[c0, c1, c2, c3, c4, c5, c6, c7, c8] T (0, 0))) : W.frozen? ⟨b, 0, none⟩ = false /\ W.frozen? ⟨b, 1, none⟩ = false /\ W.frozen? ⟨b, 2, none⟩ = false /\ W.frozen? ⟨b, 3, none⟩ = false /\ W.frozen? ⟨b, 4, none⟩ = false /\ W.frozen? ⟨b, 5, none⟩ = false /\ W.frozen? ⟨b, 6, none⟩ = false /\ W.frozen? ⟨b, 7, none⟩ = false /\ W.frozen? ⟨b, 8, none⟩ = false := ⟨blk_free h 0, blk_free h 1, blk_free h 2, blk_free h 3, blk_free h 4, blk_free h 5, blk_free h 6, blk_free h 7, blk_free h 8⟩
theorem kc6 {W : World} {b : Nat} {c0 c1 c2 c3 c4 c5 : Value} {T : TypeId} {fr : Nat × Nat} (h : W.heap[b]? = some (.cells #[c0, c1, c2, c3, c4, c5] T fr)) : W.cell? ⟨b, 0, none⟩ = some c0 /\ W.cell? ⟨b, 1, none⟩ = some c1 /\ W.cell? ⟨b, 2, none⟩ = some c2 /\ W.cell? ⟨b, 3, none⟩ = some c3 /\ W.cell? ⟨b, 4, none⟩ = some c4 /\ W.cell? ⟨b, 5, none⟩ = some c5 := ⟨(blk_cell h 0).trans rfl, (blk_cell h 1).trans rfl, (blk_cell h 2).trans rfl, (blk_cell h 3).trans rfl, (blk_cell h 4).trans rfl, (blk_cell h 5).trans rfl⟩
theorem kf6 {W : World} {b : Nat} {c0 c1 c2 c3 c4 c5 : Value} {T : TypeId} (h : W.heap[b]? = some (.cells #[c0, c1, c2, c3, c4, c5] T (0, 0))) : W.frozen? ⟨b, 0, none⟩ = false /\ W.frozen? ⟨b, 1, none⟩ = false /\ W.frozen? ⟨b, 2, none⟩ = false /\ W.frozen? ⟨b, 3, none⟩ = false /\ W.frozen? ⟨b, 4, none⟩ = false /\ W.frozen? ⟨b, 5, none⟩ = false := ⟨blk_free h 0, blk_free h 1, blk_free h 2, blk_free h 3, blk_free h 4, blk_free h 5⟩
theorem kc2 {W : World} {b : Nat} {c0 c1 : Value} {T : TypeId} {fr : Nat × Nat} (h : W.heap[b]? = some (.cells #[c0, c1] T fr)) : W.cell? ⟨b, 0, none⟩ = some c0 /\ W.cell? ⟨b, 1, none⟩ = some c1 := ⟨(blk_cell h 0).trans rfl, (blk_cell h 1).trans rfl⟩
theorem kf2 {W : World} {b : Nat} {c0 c1 : Value} {T : TypeId} (h : W.heap[b]? = some (.cells #[c0, c1] T (0, 0))) : W.frozen? ⟨b, 0, none⟩ = false /\ W.frozen? ⟨b, 1, none⟩ = false := ⟨blk_free h 0, blk_free h 1⟩

theorem blk_set {w : World} {b : Nat} {cur : Array Value} {e : TypeId} (h : w.heap[b]? = some (.cells cur e (0, 0))) (j : Nat) (u : Value) : (w.setCell ⟨b, j, none⟩ u).heap[b]? = some (.cells (cur.setIfInBounds j u) e (0, 0)) := heap_setCell_same w b j cur e u h
theorem blk_new (w : World) (o : Obj) : (w.alloc o).heap[w.heap.size]? = some o := heap_alloc_new w o
def bytesOf (zs : List Int) : List UInt8 := zs.map fun z => UInt8.ofNat z.toNat
theorem SlB.one (w : World) (c : UInt8) (t : TypeId) : SlB (w.alloc (.cells #[.int .u8 (c.toNat : Int)] t)) (.slice (some ⟨w.heap.size, 0, none⟩) 1 1) [c] := by
 refine ⟨by simp [lim], .inr ⟨w.heap.size, 0, 1, rfl, by simp, by simp [maxLen], by simp, fun i hi => ?_⟩⟩
 have : i = 0 := by simpa using hi
 subst this
 simp
theorem SlB.lit (w : World) (C : Array Value) (bs : List UInt8) (n : Nat) (t : TypeId) (fr : Nat × Nat) (hn : bs.length = n) (hC : C = (u8s bs).toArray) (hl : n <= lim) : SlB (w.alloc (.cells C t fr)) (.slice (some ⟨w.heap.size, 0, none⟩) n n) bs := by
 subst hn
 refine ⟨hl, .inr ⟨w.heap.size, 0, bs.length, rfl, Nat.le_refl _, by unfold lim at hl; simp only [maxLen]; omega, by simp, fun i hi => ?_⟩⟩
 rw [Nat.zero_add, World.cell?_alloc_mark, hC]
 simp [u8s, List.getElem?_eq_getElem hi]
theorem cal {w : World} {p : Addr} {v : Value} (hc : w.cell? p = some v) : ∀ o, (w.alloc o).cell? p = some v := fun o => (Tch.alloc w o).cell hc (fun h => h)
end
section
open Go.RowKit Go.Maps
abbrev Txt := List UInt8
structure PutM where
 q : Txt
 b : Txt
 deriving DecidableEq
structure MsgM where
 id : Int
 q : Txt
 b : Txt
 seq : Int
 cnt : Int
 who : Int
 deriving DecidableEq
structure BrM where
 tid : Int
 puts : List PutM
 deriving DecidableEq
structure EndM where
 tid : Int
 yes : Bool
 deriving DecidableEq
structure PendM where
 tid : Int
 parts : List Int
 deriving DecidableEq
structure RecM where
 kind : Int
 tid : Int
 id : Int
 yes : Bool
 parts : List Int
 puts : List PutM
 deriving DecidableEq
structure StM where
 broker : Int
 nid : Int
 nseq : Int
 tx : Int
 ms : List MsgM
 waits : List BrM
 ends : List EndM
 opens : List PendM
 noes : List PendM
 deriving DecidableEq
def homeM (t : Int) : Int := if 4294967296 < t /\ t < 38654705664 /\ t % 4294967296 ≠ 0 then t / 4294967296 else 0
def tidB (t : Int) : Bool := decide (0 < homeM t)
def brokerB (n : Int) : Bool := decide (1 <= n /\ n <= 8)
def makeM (b n : Int) : Int := if 1 <= b /\ b <= 8 /\ 1 <= n /\ n < 4294967296 then b * 4294967296 + n else 0
def lowB (c : UInt8) : Bool := decide (97 <= c.toNat /\ c.toNat <= 122)
def queueB (s : Txt) : Bool := s.all lowB && decide (1 <= s.length /\ s.length <= 8)
def bodyB (s : Txt) : Bool := decide (s.length <= 60)
def putB (p : PutM) : Bool := queueB p.q && bodyB p.b
def strictB : List Int -> Bool
 | [] => true
 | [_] => true
 | a :: b :: r => decide (a < b) && strictB (b :: r)
def risingB (l : List Int) : Bool := l.all brokerB && strictB l
def recB (r : RecM) : Bool :=
  decide (1 <= r.kind /\ r.kind <= 9) && tidB r.tid &&
  (if r.kind = 2 then tidB r.id else decide (r.id = 0)) &&
  (decide (r.kind = 5) || !r.yes) &&
  (if r.kind = 4 ∨ r.kind = 7 then decide (r.puts.length <= 10) && r.puts.all putB else decide (r.puts = [])) &&
  (if r.kind = 6 then decide (1 <= r.parts.length /\ r.parts.length <= 7) && risingB r.parts
   else if r.kind = 8 then decide (r.parts.length <= 7) && risingB r.parts
   else if r.kind = 9 then decide (r.parts.length = 1) && risingB r.parts
   else decide (r.parts = []))
def atP {α : Type} (f : α -> Int) (l : List α) (t : Int) : Option Nat := l.findIdx? (fun x => decide (f x = t))
def hasP {α : Type} (f : α -> Int) (l : List α) (t : Int) : Bool := l.any (fun x => decide (f x = t))
def msgB (s : StM) (m : MsgM) : Bool :=
 decide (1 <= m.seq /\ m.seq < s.nseq) && decide (homeM m.id = s.broker) && decide (m.id % 4294967296 < s.nid) && queueB m.q && bodyB m.b &&
 decide (0 <= m.cnt /\ m.cnt <= 1000) && (decide (m.who = 0) || (tidB m.who && !hasP (·.tid) s.ends m.who))
def msB (s : StM) : Bool := s.ms.all (msgB s) && strictB (s.ms.map (·.seq)) && decide ((s.ms.map (·.id)).Nodup)
def endsB (s : StM) : Bool := s.ends.all (fun e => tidB e.tid) && strictB (s.ends.map (·.tid))
def waitsB (s : StM) : Bool := s.waits.all (fun w => tidB w.tid && !hasP (·.tid) s.ends w.tid && decide (w.puts.length <= 10) && w.puts.all putB) && strictB (s.waits.map (·.tid))
def pendB (s : StM) (p : PendM) : Bool := decide (homeM p.tid = s.broker) && decide (1 <= p.parts.length /\ p.parts.length <= 7) && risingB p.parts && !p.parts.contains s.broker
def pendsB (s : StM) (l : List PendM) : Bool := l.all (pendB s) && strictB (l.map (·.tid))
def sidesB (s : StM) : Bool :=
 s.opens.all (fun p => !hasP (·.tid) s.ends p.tid && !hasP (·.tid) s.waits p.tid) &&
 s.noes.all (fun p => s.ends.any (fun e => decide (e.tid = p.tid) && !e.yes))
def mayM (s : StM) : Bool :=
 brokerB s.broker && decide (1 <= s.nid /\ s.nid <= 4294967296) && decide (1 <= s.nseq /\ s.nseq <= 1099511627776) && decide (0 <= s.tx /\ s.tx <= 200) &&
 decide (s.ms.length <= 72) && decide (s.waits.length <= 2000) && decide (s.ends.length <= 2000) && decide (s.opens.length <= 2000) && decide (s.noes.length <= 2000) &&
 msB s && endsB s && waitsB s && pendsB s s.opens && pendsB s s.noes && sidesB s
def newM (b : Int) : StM := if 1 <= b /\ b <= 8 then ⟨b, 1, 1, 0, [], [], [], [], []⟩ else ⟨0, 0, 0, 0, [], [], [], [], []⟩
def pendingM (s : StM) : Nat := (s.waits.map (·.puts.length)).sum
def fitsB (s : StM) (n : Nat) : Bool := decide (((pendingM s + n : Nat) : Int) <= 4294967296 - s.nid) && decide (pendingM s + n + s.ms.length <= 72) && decide (((pendingM s + n : Nat) : Int) <= 1099511627776 - s.nseq)
def fullM (s : StM) (r : RecM) : Nat :=
 if (r.kind = 3 ∨ r.kind = 5 ∨ r.kind = 7 ∨ r.kind = 8) /\ 2000 <= s.ends.length then 5
 else if r.kind = 4 /\ 2000 <= s.waits.length then 5
 else if r.kind = 6 /\ 2000 <= s.opens.length then 5
 else if r.kind = 8 /\ r.parts ≠ [] /\ 2000 <= s.noes.length then 5
 else if (r.kind = 4 ∨ r.kind = 7) /\ fitsB s r.puts.length = false then 5
 else 0
def canM (s : StM) (r : RecM) : Nat :=
 if recB r = false then 1
 else if r.kind ≠ 9 /\ hasP (·.tid) s.ends r.tid = true then 9
 else
  let ready := hasP (·.tid) s.waits r.tid
  let open_ := hasP (·.tid) s.opens r.tid
  let own := decide (homeM r.tid = s.broker)
  if r.kind = 2 then
   match s.ms.find? (fun m => decide (m.id = r.id)) with
   | none => 6
   | some m => if (m.who ≠ 0 /\ m.who ≠ r.tid) ∨ ready = true ∨ open_ = true then 8 else fullM s r
  else if r.kind = 5 then (if ready = false then 6 else fullM s r)
  else if r.kind = 9 then
   match s.noes.find? (fun p => decide (p.tid = r.tid)) with
   | none => 6
   | some p => if p.parts.contains (r.parts.headD 0) = false then 6 else fullM s r
  else if r.kind = 1 then (if r.tid ≠ makeM s.broker (s.tx + 1) then 12 else if 200 <= s.tx then 5 else fullM s r)
  else if r.kind = 6 ∨ r.kind = 7 ∨ r.kind = 8 then (if own = false ∨ ready = true ∨ r.parts.contains s.broker = true ∨ (r.kind = 6 /\ open_ = true) then 12 else fullM s r)
  else if r.kind = 4 then (if ready = true ∨ own = true then 12 else fullM s r)
  else if r.kind = 3 then (if ready = true ∨ open_ = true then 12 else fullM s r)
  else fullM s r
def insP {α : Type} (f : α -> Int) (l : List α) (x : α) : List α := l.takeWhile (fun y => decide (f y < f x)) ++ x :: l.dropWhile (fun y => decide (f y < f x))
def delP {α : Type} (f : α -> Int) (l : List α) (t : Int) : List α := l.filter (fun y => !decide (f y = t))
def putsM (broker nid nseq : Int) : List PutM -> List MsgM
 | [] => []
 | p :: r => ⟨makeM broker nid, p.q, p.b, nseq, 0, 0⟩ :: putsM broker (nid + 1) (nseq + 1) r
def leftM (ms : List MsgM) (tid : Int) (yes : Bool) : List MsgM :=
 ms.filterMap fun m => if m.who = tid then (if yes then none else some { m with who := 0, cnt := min (m.cnt + 1) 1000 }) else some m
def endM (s : StM) (tid : Int) (yes : Bool) (puts : List PutM) : StM :=
  let l := if yes then puts else []
  { s with ms := leftM s.ms tid yes ++ putsM s.broker s.nid s.nseq l, nid := s.nid + l.length, nseq := s.nseq + l.length,
           ends := insP (·.tid) s.ends ⟨tid, yes⟩, waits := delP (·.tid) s.waits tid, opens := delP (·.tid) s.opens tid }
def doM (s : StM) (r : RecM) : StM :=
 if r.kind = 1 then { s with tx := s.tx + 1 }
 else if r.kind = 2 then { s with ms := s.ms.map fun m => if m.id = r.id then { m with who := r.tid } else m }
 else if r.kind = 3 then endM s r.tid false []
 else if r.kind = 4 then { s with waits := insP (·.tid) s.waits ⟨r.tid, r.puts⟩ }
 else if r.kind = 5 then endM s r.tid r.yes (((s.waits.find? (fun w => decide (w.tid = r.tid))).map (·.puts)).getD [])
 else if r.kind = 6 then { s with opens := insP (·.tid) s.opens ⟨r.tid, r.parts⟩ }
 else if r.kind = 7 then endM s r.tid true r.puts
 else if r.kind = 8 then
  let t := endM s r.tid false []
  if r.parts = [] then t else { t with noes := insP (·.tid) t.noes ⟨r.tid, r.parts⟩ }
 else if r.kind = 9 then
  let l := (((s.noes.find? (fun p => decide (p.tid = r.tid))).map (·.parts)).getD []).filter (fun n => !decide (n = r.parts.headD 0))
  let d := delP (·.tid) s.noes r.tid
  { s with noes := if l = [] then d else insP (·.tid) d ⟨r.tid, l⟩ }
 else s
def applyM (s : StM) (r : RecM) : StM := if mayM s = true /\ canM s r = 0 then doM s r else s
theorem strictB_cons {a : Int} {l : List Int} : strictB (a :: l) = true ↔ (∀ b ∈ l, a < b) /\ strictB l = true := by
 induction l generalizing a with
 | nil => simp [strictB]
 | cons b r ih =>
  simp only [strictB, Bool.and_eq_true, decide_eq_true_eq]
  constructor
  ·rintro ⟨h1, h2⟩
   refine ⟨fun c hc => ?_, h2⟩
   rcases List.mem_cons.1 hc with rfl | hc
   ·exact h1
   ·have := (ih.1 h2).1 c hc; omega
  ·rintro ⟨h1, h2⟩
   exact ⟨h1 b List.mem_cons_self, h2⟩
theorem hasP_iff {α : Type} {f : α -> Int} {l : List α} {t : Int} : hasP f l t = true ↔ ∃ x ∈ l, f x = t := by
 simp [hasP]
theorem strictB_get {l : List Int} (h : strictB l = true) {i j : Nat} (hij : i < j) (hj : j < l.length) : l[i]'(by omega) < l[j] := by
 induction l generalizing i j with
 | nil => simp at hj
 | cons a r ih =>
  obtain ⟨h1, h2⟩ := strictB_cons.1 h
  match j, hij with
  | j + 1, hij =>
   match i with
   | 0 => simpa using h1 _ (List.getElem_mem (by simpa using hj))
   | i + 1 => simpa using ih h2 (i := i) (j := j) (by omega) (by simpa using hj)
def posP {α : Type} (f : α -> Int) (l : List α) (t : Int) : Nat := (l.takeWhile (fun y => decide (f y < t))).length
theorem posP_le {α : Type} (f : α -> Int) (l : List α) (t : Int) : posP f l t <= l.length := by
 unfold posP
 have := congrArg List.length (List.takeWhile_append_dropWhile (p := fun y => decide (f y < t)) (l := l))
 rw [List.length_append] at this
 omega
theorem posP_of {α : Type} {f : α -> Int} : ∀ {l : List α} {t : Int} {i : Nat}, i <= l.length -> (∀ k (h : k < l.length), k < i -> f l[k] < t) -> (∀ (h : i < l.length), ¬ f l[i] < t) -> posP f l t = i
 | [], t, i, hi, _, _ => by simp at hi; simp [posP, hi]
 | a :: r, t, 0, _, _, h2 => by
  have := h2 (by simp)
  simp only [List.getElem_cons_zero] at this
  simp [posP, List.takeWhile_cons, this]
 | a :: r, t, i + 1, hi, h1, h2 => by
  have h0 := h1 0 (by simp) (by omega)
  simp only [List.getElem_cons_zero] at h0
  have := posP_of (f := f) (l := r) (t := t) (i := i) (by simpa using hi) (fun k hk hki => by have := h1 (k + 1) (by simpa using hk) (by omega); rwa [List.getElem_cons_succ] at this) (fun h => by have := h2 (by simpa using h); rwa [List.getElem_cons_succ] at this)
  unfold posP at this ⊢
  rw [List.takeWhile_cons, if_pos (by simpa using h0), List.length_cons, this]
theorem split_at {α : Type} {l A B : List α} (e : A ++ B = l) : l.take A.length = A /\ l.drop A.length = B := by subst e; simp
theorem insP_eq {α : Type} (f : α -> Int) (l : List α) (x : α) : insP f l x = l.take (posP f l (f x)) ++ x :: l.drop (posP f l (f x)) := by
 obtain ⟨h1, h2⟩ := split_at (List.takeWhile_append_dropWhile (p := fun y => decide (f y < f x)) (l := l))
 unfold insP posP
 rw [h1, h2]
theorem hasP_pos {α : Type} {f : α -> Int} {l : List α} (hs : strictB (l.map f) = true) (t : Int) : hasP f l t = true ↔ ∃ h : posP f l t < l.length, f (l[posP f l t]'h) = t := by
 constructor
 ·intro h
  obtain ⟨x, hx, rfl⟩ := hasP_iff.1 h
  obtain ⟨i, hi, rfl⟩ := List.getElem_of_mem hx
  have e : posP f l (f l[i]) = i := posP_of (by omega) (fun k hk hki => by
   have := strictB_get hs (i := k) (j := i) hki (by simpa using hi)
   simpa using this) (fun _ => by omega)
  refine ⟨by rw [e]; exact hi, ?_⟩
  simp only [e]
 ·rintro ⟨h, e⟩
  exact hasP_iff.2 ⟨_, List.getElem_mem h, e⟩
end
section
open Go.RowKit Go.Maps
def I64 (z : Int) : Prop := -9223372036854775808 <= z /\ z <= 9223372036854775807
theorem kbroker_any (n : Int) (w : World) : Calls Tryz.prog 53 #[.int .i64 n] w fun e w' => e = .returned (.bool (brokerB n)) /\ w = w' := by
 by_cases h1 : 0 < n
 ·by_cases h2 : n <= 8
  ·have hb : brokerB n = true := by simp [brokerB]; omega
   rw [hb]
   clear hb
   go_enter Tryz.func53, Tryz.ntmps53
   go_wp2_with fail
   go_ret
   exact ⟨rfl, rfl⟩
  ·have hb : brokerB n = false := by simp [brokerB]; omega
   rw [hb]
   clear hb
   go_enter Tryz.func53, Tryz.ntmps53
   go_wp2_with fail
   go_ret
   exact ⟨rfl, rfl⟩
 ·have hb : brokerB n = false := by simp [brokerB]; omega
  rw [hb]
  clear hb
  go_enter Tryz.func53, Tryz.ntmps53
  go_wp2_with fail
  go_ret
  exact ⟨rfl, rfl⟩
theorem khome_any (t : Int) (ht : I64 t) (w : World) : Calls Tryz.prog 170 #[.int .i64 t] w fun e w' => e = .returned (.int .i64 (homeM t)) /\ w = w' := by
 unfold I64 at ht
 have hd : Hid (homeM t = if 1 <= t.tdiv 4294967296 /\ t.tdiv 4294967296 <= 8 /\ t.tmod 4294967296 ≠ 0 then t.tdiv 4294967296 else 0) := by
  rw [Hid, homeM]
  rcases Int.le_total 0 t with q | q
  ·rw [Int.tdiv_eq_ediv_of_nonneg q, Int.tmod_eq_emod_of_nonneg q]
   by_cases h : 4294967296 < t /\ t < 38654705664 /\ t % 4294967296 ≠ 0
   ·rw [if_pos h, if_pos (by omega)]
   ·rw [if_neg h, if_neg (by omega)]
  ·have h1 : t.tdiv 4294967296 <= 0 := by
    have e : t = -(-t) := by omega
    rw [e, Int.neg_tdiv, Int.tdiv_eq_ediv_of_nonneg (by omega)]
    omega
   rw [if_neg (by omega), if_neg (by omega)]
 obtain ⟨b, hb⟩ : ∃ b, t.tdiv 4294967296 = b := ⟨_, rfl⟩
 obtain ⟨m, hm⟩ : ∃ m, t.tmod 4294967296 = m := ⟨_, rfl⟩
 have hbb : IntKind.i64.wrap b = b := IntWalk.i64_in _ (by
  rw [<- hb]
  rcases Int.le_total 0 t with q | q
  ·rw [Int.tdiv_eq_ediv_of_nonneg q]; omega
  ·have e : t = -(-t) := by omega
   rw [e, Int.neg_tdiv, Int.tdiv_eq_ediv_of_nonneg (by omega)]
   omega)
 rw [hb, hm] at hd
 rw [hd.out]
 clear hd ht
 by_cases h1 : b < 1
 ·rw [if_neg (by omega)]
  go_enter Tryz.func170, Tryz.ntmps170
  go_wp2_with fail
  go_ret
  exact ⟨rfl, rfl⟩
 by_cases h2 : 8 < b
 ·rw [if_neg (by omega)]
  go_enter Tryz.func170, Tryz.ntmps170
  go_wp2_with fail
  go_ret
  exact ⟨rfl, rfl⟩
 by_cases h3 : m = 0
 ·rw [if_neg (by omega)]
  go_enter Tryz.func170, Tryz.ntmps170
  go_wp2_with fail
  go_ret
  exact ⟨rfl, rfl⟩
 ·rw [if_pos (by omega)]
  go_enter Tryz.func170, Tryz.ntmps170
  go_wp2_with fail
  go_ret
  exact ⟨rfl, rfl⟩
theorem ktid_any (t : Int) (ht : I64 t) (w : World) : Calls Tryz.prog 159 #[.int .i64 t] w fun e w' => e = .returned (.bool (tidB t)) /\ w = w' := by
 have hh := Lib.hid (khome_any t ht w)
 obtain ⟨h, hd⟩ : ∃ h, homeM t = h := ⟨_, rfl⟩
 have hb : tidB t = decide (0 < h) := by unfold tidB; rw [hd]
 rw [hb]
 rw [hd] at hh
 clear hb hd ht
 go_enter Tryz.func159, Tryz.ntmps159
 go_wp2_with (go_at_call 170; go_must (refine hh.out.mono ?_); rintro e w' ⟨rfl, rfl⟩)
 go_ret
 exact ⟨ret_b rfl, rfl⟩
theorem kmake_any (b n : Int) (hb : I64 b) (hn : I64 n) (w : World) : Calls Tryz.prog 98 #[.int .i64 b, .int .i64 n] w fun e w' => e = .returned (.int .i64 (makeM b n)) /\ w = w' := by
 unfold I64 at hb hn
 by_cases h1 : 1 <= b /\ b <= 8
 ·have hbb : brokerB b = true := by simp [brokerB, h1]
  have hw1 : IntKind.i64.wrap (b * 4294967296) = b * 4294967296 := IntWalk.i64_in _ (by omega)
  by_cases h2 : n < 1
  ·have e : makeM b n = 0 := if_neg (by omega)
   rw [e]
   clear e hw1
   go_enter Tryz.func98, Tryz.ntmps98
   go_wp2_with (go_at_call 53; go_must (refine (kbroker_any b w).mono ?_); rintro e w' ⟨rfl, rfl⟩; rw [hbb])
   go_ret
   exact ⟨rfl, rfl⟩
  by_cases h3 : 4294967296 <= n
  ·have e : makeM b n = 0 := if_neg (by omega)
   rw [e]
   clear e hw1
   go_enter Tryz.func98, Tryz.ntmps98
   go_wp2_with (go_at_call 53; go_must (refine (kbroker_any b w).mono ?_); rintro e w' ⟨rfl, rfl⟩; rw [hbb])
   go_ret
   exact ⟨rfl, rfl⟩
  ·have e : makeM b n = b * 4294967296 + n := if_pos (by omega)
   have hw2 : IntKind.i64.wrap (b * 4294967296 + n) = b * 4294967296 + n := IntWalk.i64_in _ (by omega)
   rw [e]
   clear e
   go_enter Tryz.func98, Tryz.ntmps98
   go_wp2_with (go_at_call 53; go_must (refine (kbroker_any b w).mono ?_); rintro e w' ⟨rfl, rfl⟩; rw [hbb])
   go_ret
   exact ⟨rfl, rfl⟩
 ·have hbb : brokerB b = false := by simp [brokerB]; omega
  have e : makeM b n = 0 := if_neg (by omega)
  rw [e]
  clear e
  go_enter Tryz.func98, Tryz.ntmps98
  go_wp2_with (go_at_call 53; go_must (refine (kbroker_any b w).mono ?_); rintro e w' ⟨rfl, rfl⟩; rw [hbb])
  go_ret
  exact ⟨rfl, rfl⟩
theorem rbroker_any (n : Int) (w : World) : Calls Tryz.prog 54 #[.int .i64 n] w fun e w' => e = .returned (.bool (brokerB n)) /\ w = w' := by
 by_cases h1 : 0 < n
 ·by_cases h2 : n <= 8
  ·have hb : brokerB n = true := by simp [brokerB]; omega
   rw [hb]
   clear hb
   go_enter Tryz.func54, Tryz.ntmps54
   go_wp2_with fail
   go_ret
   exact ⟨rfl, rfl⟩
  ·have hb : brokerB n = false := by simp [brokerB]; omega
   rw [hb]
   clear hb
   go_enter Tryz.func54, Tryz.ntmps54
   go_wp2_with fail
   go_ret
   exact ⟨rfl, rfl⟩
 ·have hb : brokerB n = false := by simp [brokerB]; omega
  rw [hb]
  clear hb
  go_enter Tryz.func54, Tryz.ntmps54
  go_wp2_with fail
  go_ret
  exact ⟨rfl, rfl⟩
theorem rmake_any (b n : Int) (hb : I64 b) (hn : I64 n) (w : World) : Calls Tryz.prog 31 #[.int .i64 b, .int .i64 n] w fun e w' => e = .returned (.int .i64 (makeM b n)) /\ w = w' := by
 unfold I64 at hb hn
 by_cases h1 : 1 <= b /\ b <= 8
 ·have hbb : brokerB b = true := by simp [brokerB, h1]
  have hw1 : IntKind.i64.wrap (b * 4294967296) = b * 4294967296 := IntWalk.i64_in _ (by omega)
  by_cases h2 : n < 1
  ·have e : makeM b n = 0 := if_neg (by omega)
   rw [e]
   clear e hw1
   go_enter Tryz.func31, Tryz.ntmps31
   go_wp2_with (go_at_call 54; go_must (refine (rbroker_any b w).mono ?_); rintro e w' ⟨rfl, rfl⟩; rw [hbb])
   go_ret
   exact ⟨rfl, rfl⟩
  by_cases h3 : 4294967296 <= n
  ·have e : makeM b n = 0 := if_neg (by omega)
   rw [e]
   clear e hw1
   go_enter Tryz.func31, Tryz.ntmps31
   go_wp2_with (go_at_call 54; go_must (refine (rbroker_any b w).mono ?_); rintro e w' ⟨rfl, rfl⟩; rw [hbb])
   go_ret
   exact ⟨rfl, rfl⟩
  ·have e : makeM b n = b * 4294967296 + n := if_pos (by omega)
   have hw2 : IntKind.i64.wrap (b * 4294967296 + n) = b * 4294967296 + n := IntWalk.i64_in _ (by omega)
   rw [e]
   clear e
   go_enter Tryz.func31, Tryz.ntmps31
   go_wp2_with (go_at_call 54; go_must (refine (rbroker_any b w).mono ?_); rintro e w' ⟨rfl, rfl⟩; rw [hbb])
   go_ret
   exact ⟨rfl, rfl⟩
 ·have hbb : brokerB b = false := by simp [brokerB]; omega
  have e : makeM b n = 0 := if_neg (by omega)
  rw [e]
  clear e
  go_enter Tryz.func31, Tryz.ntmps31
  go_wp2_with (go_at_call 54; go_must (refine (rbroker_any b w).mono ?_); rintro e w' ⟨rfl, rfl⟩; rw [hbb])
  go_ret
  exact ⟨rfl, rfl⟩
end
section
open Go.RowKit Go.Maps
theorem queueB_bad {l : List UInt8} {k : Nat} {c : UInt8} (hk : k < l.length) (hc : l[k] = c) (h : lowB c = false) : queueB l = false := by
 have : l.all lowB = false := by
  rw [List.all_eq_false]
  exact ⟨l[k], List.getElem_mem hk, by rw [hc, h]; simp⟩
 simp [queueB, this]
theorem low_snoc {l : List UInt8} {k : Nat} {c : UInt8} (hk : k < l.length) (hc : l[k] = c) (h : lowB c = true) (ha : (l.take k).all lowB = true) : (l.take (k + 1)).all lowB = true := by
 rw [List.take_succ_eq_append_getElem hk, List.all_append, ha, hc]; simp [h]
theorem kqueue_any (s : ByteArray) (w : World) (hlen : s.size <= 9223372036854775807) :
  Calls Tryz.prog 208 #[.string s] w fun e w' => e = .returned (.bool (queueB s.data.toList)) /\ w = w' := by
 have hsl : s.data.toList.length = s.size := rfl
 have HL := Lib.hid hsl; clear hsl
 go_enter Tryz.func208, Tryz.ntmps208
 go_wp2_with fail
 go_loop [6] (fun i => ∃ k : Nat, k <= s.size /\ i = .int .i64 k /\ Hid ((s.data.toList.take k).all lowB = true)) (fun i => s.size - (intOf i).toNat)
 case atStart => exact ⟨0, Nat.zero_le _, rfl, by simp [Hid]⟩
 case round =>
  obtain ⟨k, hk, rfl, HA⟩ := hrel
  by_cases hlt : k < s.size
  ·have hkl : k < s.data.toList.length := by rw [HL.out]; exact hlt
   have hch : Hid (s.data.toList[k] = s[k]) := rfl
   have h5 : (s[k].toNat : Int) < 97 ∨ (97 <= (s[k].toNat : Int) /\ (s[k].toNat : Int) <= 122) ∨ 122 < (s[k].toNat : Int) := by omega
   rcases h5 with h | ⟨h, h'⟩ | h
   ·have H : Hid (lowB s[k] = false) := by simp [Hid, lowB]; omega
    have d1 : decide ((s[k].toNat : Int) < 97) = true := by simp; omega
    go_wp2_with fail
    go_ret
    exact ⟨ret_b (queueB_bad hkl hch.out H.out).symm, rfl⟩
   ·have H : Hid (lowB s[k] = true) := by simp [Hid, lowB]; omega
    have d1 : decide ((s[k].toNat : Int) < 97) = false := by simp; omega
    have d2 : decide (122 < (s[k].toNat : Int)) = false := by simp; omega
    go_wp2_with fail
    exact ⟨⟨k + 1, by omega, by go_num, low_snoc hkl hch.out H.out HA.out⟩, by simp [intOf]; omega⟩
   ·have H : Hid (lowB s[k] = false) := by simp [Hid, lowB]; omega
    have d1 : decide ((s[k].toNat : Int) < 97) = false := by simp; omega
    have d2 : decide (122 < (s[k].toNat : Int)) = true := by simp; omega
    go_wp2_with fail
    go_ret
    exact ⟨ret_b (queueB_bad hkl hch.out H.out).symm, rfl⟩
  ·have hk2 : k = s.size := by omega
   have HE : Hid (queueB s.data.toList = decide (1 <= s.size /\ s.size <= 8)) := by
    have h := HA.out
    rw [hk2, <- HL.out, List.take_length] at h
    rw [Hid, queueB, h, HL.out, Bool.true_and]
   by_cases h1 : s.size = 0
   ·have HF : Hid (decide (1 <= s.size /\ s.size <= 8) = false) := by simp [Hid]; omega
    clear hk2
    have h1' : ¬ 1 <= s.size := by omega
    go_wp2_with fail
    go_ret
    exact ⟨ret_b (by rw [HE.out, HF.out]), rfl⟩
   by_cases h2 : s.size <= 8
   ·have HF : Hid (decide (1 <= s.size /\ s.size <= 8) = true) := by simp [Hid]; omega
    clear hk2
    have h1' : 1 <= (s.size : Int) := by omega
    have h2' : (s.size : Int) <= 8 := by omega
    have h3' : 0 < s.size := by omega
    go_wp2_with fail
    go_ret
    exact ⟨ret_b (by rw [HE.out, HF.out]), rfl⟩
   ·have HF : Hid (decide (1 <= s.size /\ s.size <= 8) = false) := by simp [Hid]; omega
    clear hk2
    have h1' : 1 <= (s.size : Int) := by omega
    have h2' : ¬ (s.size : Int) <= 8 := by omega
    have h3' : 0 < s.size := by omega
    go_wp2_with fail
    go_ret
    exact ⟨ret_b (by rw [HE.out, HF.out]), rfl⟩
end
end Go.Proofs.YtafndmnbnmlklaaGreat
