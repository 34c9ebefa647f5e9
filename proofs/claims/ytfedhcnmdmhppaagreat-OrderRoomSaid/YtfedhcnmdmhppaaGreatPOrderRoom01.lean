/- Part 1 of what the proof of OrderRoom rests on. No condition. -/
import Derived.BigQuiet
import Derived.Deep.DeepFit
import Derived.Deep.DrawnRows
import Derived.Deep.QuietTactic
import Derived.Deep.RegionHeld3
import Derived.Deep.RegionLaw
import Derived.Lib.AppendStr
import Derived.Lib.Hide
import Derived.Lib.Strings
import Derived.Maps.AppendAt
import Derived.Maps.OwnOps
import Derived.Maps.OwnSet
import Derived.Maps.RangeWalk
import Derived.Test.YtfedhcnmdmhppaaGreatRows
import Derived.WalkKit
import Derived.WalkLawsBesides
import Derived.WalkSpells
namespace Go.Proofs.YtfedhcnmdmhppaaGreat
set_option maxRecDepth 100000
set_option maxHeartbeats 60000000
set_option linter.unusedVariables false
set_option linter.unusedSimpArgs false
section
open Go.RowKit Go.Maps
structure Tch (F : Nat -> Prop) (w w' : World) : Prop where
 os : w'.os = w.os
 tape : w'.tape = w.tape
 output : w'.output = w.output
 size : w.heap.size <= w'.heap.size
 block : ∀ k, k < w.heap.size -> ¬ F k -> w'.heap[k]? = w.heap[k]?
def No : Nat -> Prop := fun _ => False
def lim : Nat := 140737488355328
theorem Tch.refl (F : Nat -> Prop) (w : World) : Tch F w w := ⟨rfl, rfl, rfl, Nat.le_refl _, fun _ _ _ => rfl⟩
theorem Tch.trans {F G : Nat -> Prop} {a b c : World} (h : Tch F a b) (k : Tch G b c) (hG : ∀ i, i < a.heap.size -> G i -> F i) : Tch F a c :=
 ⟨k.os.trans h.os, k.tape.trans h.tape, k.output.trans h.output, Nat.le_trans h.size k.size, fun i hi hF =>
  (k.block i (Nat.lt_of_lt_of_le hi h.size) (fun hg => hF (hG i hi hg))).trans (h.block i hi hF)⟩
theorem Tch.trans0 {F : Nat -> Prop} {a b c : World} (h : Tch F a b) (k : Tch No b c) : Tch F a c := h.trans k (fun _ _ h => h.elim)
theorem Tch.mono {F G : Nat -> Prop} {a b : World} (h : Tch F a b) (hG : ∀ i, i < a.heap.size -> F i -> G i) : Tch G a b :=
 ⟨h.os, h.tape, h.output, h.size, fun i hi hn => h.block i hi (fun hf => hn (hG i hi hf))⟩
theorem Tch.fresh {F : Nat -> Prop} {a b c : World} (h : Tch No a b) (k : Tch F b c) (hF : ∀ i, F i -> a.heap.size <= i) : Tch No a c :=
 h.trans k (fun i hi hf => by have := hF i hf; omega)
theorem Tch.no {F : Nat -> Prop} {a b : World} (h : Tch No a b) : Tch F a b := h.mono (fun _ _ h => h.elim)
theorem Tch.alloc (w : World) (o : Obj) : Tch No w (w.alloc o) :=
 ⟨rfl, rfl, rfl, by simp, fun k hk _ => Below.heap_alloc _ _ _ hk⟩
theorem Tch.drew (w : World) : Tch No w w.drew := ⟨rfl, rfl, rfl, Nat.le_refl _, fun _ _ _ => rfl⟩
theorem Tch.setCell {F : Nat -> Prop} (w : World) (p : Addr) (u : Value) (hF : p.block < w.heap.size -> F p.block) : Tch F w (w.setCell p u) :=
 ⟨rfl, rfl, rfl, by simp [World.setCell], fun k hk hn => Below.heap_setCell _ _ _ _ (fun e => hn (by subst e; exact hF hk))⟩
theorem Tch.grown {F : Nat -> Prop} {w w' : World} {row : Option Nat} (h : w.grownBy w' row) (hr : ∀ k, row = some k -> k < w.heap.size -> F k) : Tch F w w' :=
 ⟨h.os, h.tape, h.output, h.size, fun k hk hn => h.block k hk (fun e => hn (hr k e.symm hk))⟩
theorem Tch.below {F : Nat -> Prop} {w w' : World} (h : Tch F w w') {B : Nat} (hB : B <= w.heap.size) (hF : ∀ k, k < w.heap.size -> F k -> B <= k) : Below B w w' :=
 ⟨h.os, h.tape, h.output, h.size, fun k hk => h.block k (by omega) (fun hf => by have := hF k (by omega) hf; omega)⟩
theorem Tch.below0 {w w' : World} (h : Tch No w w') : Below w.heap.size w w' := h.below (Nat.le_refl _) (fun _ _ h => h.elim)
theorem Tch.ofBelow {w w' : World} (h : Below w.heap.size w w') : Tch No w w' := ⟨h.os, h.tape, h.output, h.size, fun k hk _ => h.block k hk⟩
theorem Tch.cell {F : Nat -> Prop} {w w' : World} (h : Tch F w w') {p : Addr} {v : Value} (hc : w.cell? p = some v) (hp : ¬ F p.block) : w'.cell? p = some v :=
 (World.cell?_of_block (h.block p.block (World.block_lt_of_cell? w p hc) hp)).trans hc
theorem ret_b {a b : Bool} (h : a = b) : Ending.returned (.bool a) = .returned (.bool b) := by rw [h]
theorem ret_i {k : IntKind} {a b : Int} (h : a = b) : Ending.returned (.int k a) = .returned (.int k b) := by rw [h]
def SlB (w : World) (v : Value) (bs : List UInt8) : Prop :=
 bs.length <= lim /\ ((v = .slice none 0 0 /\ bs = []) ∨
  ∃ b o cap, v = .slice (some ⟨b, o, none⟩) bs.length cap /\ bs.length <= cap /\ cap <= maxLen /\ b < w.heap.size /\ ∀ i (h : i < bs.length), w.cell? ⟨b, o + i, none⟩ = some (.int .u8 (bs[i].toNat : Int)))
theorem SlB.keep {w w' : World} {v : Value} {bs : List UInt8} (h : SlB w v bs) (hk : ∀ k, v.ownBlock = some k -> w'.heap[k]? = w.heap[k]?) : SlB w' v bs := by
 refine ⟨h.1, ?_⟩
 rcases h.2 with hn | ⟨b, o, cap, rfl, h1, h2, h3, h4⟩
 ·exact .inl hn
 ·have hb := hk b rfl
  refine .inr ⟨b, o, cap, rfl, h1, h2, ?_, fun i hi => (World.cell?_of_block hb).trans (h4 i hi)⟩
  rcases Nat.lt_or_ge b w'.heap.size with hlt | hge
  ·exact hlt
  ·rw [Array.getElem?_eq_none hge, Array.getElem?_eq_getElem h3] at hb
   cases hb
theorem SlB.blt {w : World} {v : Value} {bs : List UInt8} (h : SlB w v bs) : ∀ k, v.ownBlock = some k -> k < w.heap.size := by
 intro k hk
 rcases h.2 with ⟨rfl, _⟩ | ⟨b, o, cap, rfl, h1, h2, h3, h4⟩
 ·simp [Value.ownBlock] at hk
 ·simp [Value.ownBlock] at hk; subst hk; exact h3
theorem SlB.tch {F : Nat -> Prop} {w w' : World} {v : Value} {bs : List UInt8} (h : SlB w v bs) (ht : Tch F w w') (hF : ∀ k, v.ownBlock = some k -> ¬ F k) : SlB w' v bs :=
 h.keep fun k hk => ht.block k (h.blt k hk) (hF k hk)
theorem SlB.tch0 {w w' : World} {v : Value} {bs : List UInt8} (h : SlB w v bs) (ht : Tch No w w') : SlB w' v bs := h.tch ht (fun _ _ h => h)
theorem SlB.nil (w : World) : SlB w (.slice none 0 0) [] := ⟨Nat.zero_le _, .inl ⟨rfl, rfl⟩⟩
def u8s (bs : List UInt8) : List Value := bs.map fun c => .int .u8 (c.toNat : Int)
theorem u8s_length (bs : List UInt8) : (u8s bs).length = bs.length := by simp [u8s]
theorem u8s_one (bs : List UInt8) : ∀ u ∈ u8s bs, u.oneCell' = true := by
 intro u hu; simp [u8s] at hu; obtain ⟨c, _, rfl⟩ := hu; rfl
theorem u8s_append (a b : List UInt8) : u8s (a ++ b) = u8s a ++ u8s b := by simp [u8s]
theorem addr_add (b o j : Nat) : (⟨b, o, none⟩ : Addr).add j = ⟨b, o + j, none⟩ := by unfold Addr.add; split <;> simp_all
theorem SlB.ofRow {w : World} {base : Nat} {v : Value} {n : Nat} {bs : List UInt8} {e : TypeId} (h : w.ownsRow base e 1 v n (u8s bs)) (hb : bs.length <= lim) : SlB w v bs := by
 have hn : n = bs.length := by have := h.1; rw [u8s_length] at this; omega
 subst hn
 refine ⟨hb, ?_⟩
 rcases h.2 with ⟨rfl, h0⟩ | ⟨g, cap, cur, rfl, hbg, hg, hnc, hcm, hcs, htake⟩
 ·exact .inl ⟨rfl, List.eq_nil_of_length_eq_zero h0⟩
 ·refine .inr ⟨g, 0, cap, rfl, hnc, hcm, (Array.getElem?_eq_some_iff.1 hg).1, fun i hi => ?_⟩
  have := h.cells (g := g) rfl i (.int .u8 (bs[i].toNat : Int)) (by simp [u8s, List.getElem?_eq_getElem hi])
  rwa [addr_add] at this
theorem SlB.news {w : World} {b o cap : Nat} {bs : List UInt8} (h : ∀ i (h : i < bs.length), w.cell? ⟨b, o + i, none⟩ = some (.int .u8 (bs[i].toNat : Int))) :
  ∀ j u, (u8s bs)[j]? = some u -> w.cell? ((⟨b, o, none⟩ : Addr).add j) = some u := by
 intro j u hu
 rw [addr_add]
 have hj : j < bs.length := by
  rcases Nat.lt_or_ge j bs.length with h' | h'
  ·exact h'
  ·rw [List.getElem?_eq_none (by simpa [u8s] using h')] at hu; cases hu
 rw [h j hj]
 simp [u8s, List.getElem?_eq_getElem hj] at hu
 rw [hu]
theorem SlB.str {w : World} {v : Value} {bs : List UInt8} (h : SlB w v bs) {P : Program} {src dst e : TypeId} (hs : P.underlying src = some (.slice e)) (he : P.underlying e = some (.int .u8)) (hd : P.underlying dst = some .string) :
  (convert src dst v).run P w = .ok (.string ⟨bs.toArray⟩) w := by
 rcases h.2 with ⟨rfl, rfl⟩ | ⟨b, o, cap, rfl, h1, h2, h3, h4⟩
 ·exact run_convert_bytes_nil w src e hs he 0 0 dst hd
 ·exact run_convert_bytes_back w src dst e _ cap bs hs he hd (fun j hj => by rw [addr_add]; exact h4 j hj)
theorem SlB.shape {w : World} {v : Value} {bs : List UInt8} (h : SlB w v bs) : ∃ a cap, v = .slice a bs.length cap /\ bs.length <= cap /\ cap <= maxLen := by
 rcases h.2 with ⟨rfl, rfl⟩ | ⟨b, o, cap, rfl, h1, h2, h3, h4⟩
 ·exact ⟨none, 0, rfl, by simp, by simp [maxLen]⟩
 ·exact ⟨_, cap, rfl, h1, h2⟩
structure AppPost (e : TypeId) (w : World) (v : Value) (ys : List UInt8) (v' : Value) (w' : World) : Prop where
 own : w'.ownsRow 0 e 1 v' ys.length (u8s ys)
 grow : w.grownBy w' v.ownBlock
 nil : ys = [] -> v = .slice none 0 0 -> v' = .slice none 0 0
 loc : v'.ownBlock = v.ownBlock ∨ v'.ownBlock = some w.heap.size
theorem own_shape {w : World} {base : Nat} {e : TypeId} {size : Nat} {v : Value} {n : Nat} {xs : List Value} (h : w.ownsRow base e size v n xs) : ∃ a cap, v = .slice a n cap /\ n <= cap /\ cap <= maxLen := by
 rcases h.2 with ⟨rfl, rfl⟩ | ⟨g, cap, cur, rfl, _, _, hnc, hcm, _⟩
 ·exact ⟨none, 0, rfl, Nat.le_refl _, by simp [maxLen]⟩
 ·exact ⟨_, cap, rfl, hnc, hcm⟩
def SlS (w : World) (v : Value) (bs : List UInt8) : Prop :=
 bs.length <= lim /\ ((v = .slice none 0 0 /\ bs = []) ∨ ∃ ad cap, v = .slice (some ad) bs.length cap /\ ∀ j u, (u8s bs)[j]? = some u -> w.cell? (ad.add j) = some u)
theorem SlB.toS {w : World} {v : Value} {bs : List UInt8} (h : SlB w v bs) : SlS w v bs := by
 refine ⟨h.1, ?_⟩
 rcases h.2 with hn | ⟨b, o, cap, rfl, h1, h2, h3, h4⟩
 ·exact .inl hn
 ·exact .inr ⟨_, cap, rfl, SlB.news (cap := cap) h4⟩
theorem wpList_appS {P : Program} (w : World) {ops : Array Oper} {rest : List Oper} {o : Oper} {a : Act} {Q : Exit -> Act -> World -> Prop} (hgd : o.guard = none) (s x : Operand) (t : TypeId)
  (ho : o.op = .call { callee := .builtin .append, args := #[s, x], argTypes := #[t, t] })
  (e : TypeId) (i : TypeInfo) (ht : P.underlying t = some (.slice e)) (hi : P.info? e = some i) (hz : i.zero = some (.int .u8 0))
  (hsize : i.size = 1) (hby : i.bytes = 1)
  (v : Value) (xs : List UInt8) (hs : a.eval s = v) (hown : w.ownsRow 0 e 1 v xs.length (u8s xs))
  (u : Value) (bs : List UInt8) (hx : a.eval x = u) (hu : SlS w u bs)
  (hlen : xs.length + bs.length <= lim) (ys : List UInt8) (hys : Hid (ys = xs ++ bs))
  (h : ∀ a' n' cap' w', AppPost e w v ys (.slice a' n' cap') w' -> Hid (n' = ys.length) -> wpList P ops Q rest (a.put o.dst (.slice a' n' cap')) w') : wpList P ops Q (o :: rest) a w := by
 have hys' := hys.out
 subst hys'
 rcases hu.2 with ⟨rfl, rfl⟩ | ⟨ad, cap, rfl, h4⟩
 ·refine wpList_plain hgd fun K hK' => ?_
  have hr := run_append_owned_none (P := P) w 0 t o.type e i 1 ht hi v xs.length (u8s xs) hown
  unfold Oper.wp
  simp [execOp, ho, resolve, invoke, builtin, hs, hx, hr, Result.andThen]
  obtain ⟨a', cap', rfl, _, _⟩ := own_shape hown
  have := h a' xs.length cap' w ⟨by simpa using hown, World.grownBy.refl _ _, fun hn _ => by
    have : xs = [] := by simpa using hn
    subst this
    rcases hown.2 with ⟨h, _⟩ | ⟨g, c, cur, h, _⟩
    ·simpa using h
    ·simp_all, .inl rfl⟩ (by simp [Hid])
  exact hK' _ _ this
 ·refine wpList_append_own_at w hgd s x t ho 0 e i (.int .u8 0) 1 1 ht hi hz hsize hby rfl (by decide) v xs.length (u8s xs) hs hown ad bs.length cap (u8s bs) hx (by simp [u8s]) h4 (u8s_one bs) (by unfold lim at hlen; simp only [maxLen]; omega) (by unfold lim at hlen; omega) (Nat.zero_le _) ?_
  intro v' w' hown' hg hn hloc
  have e1 : xs.length + bs.length = (xs ++ bs).length := by simp
  rw [e1, <- u8s_append] at hown'
  obtain ⟨a', cap', rfl, _, _⟩ := own_shape hown'
  refine h a' _ cap' w' ⟨hown', hg, fun q1 q2 => hn.2 ⟨q2, ?_⟩, hloc⟩ rfl
  have := congrArg List.length q1
  simp at this
  simp [this.2]
theorem wpList_app {P : Program} (w : World) {ops : Array Oper} {rest : List Oper} {o : Oper} {a : Act} {Q : Exit -> Act -> World -> Prop} (hgd : o.guard = none) (s x : Operand) (t : TypeId)
  (ho : o.op = .call { callee := .builtin .append, args := #[s, x], argTypes := #[t, t] })
  (e : TypeId) (i : TypeInfo) (ht : P.underlying t = some (.slice e)) (hi : P.info? e = some i) (hz : i.zero = some (.int .u8 0))
  (hsize : i.size = 1) (hby : i.bytes = 1)
  (v : Value) (xs : List UInt8) (hs : a.eval s = v) (hown : w.ownsRow 0 e 1 v xs.length (u8s xs))
  (u : Value) (bs : List UInt8) (hx : a.eval x = u) (hu : SlB w u bs)
  (hlen : xs.length + bs.length <= lim) (ys : List UInt8) (hys : Hid (ys = xs ++ bs))
  (h : ∀ a' n' cap' w', AppPost e w v ys (.slice a' n' cap') w' -> Hid (n' = ys.length) -> wpList P ops Q rest (a.put o.dst (.slice a' n' cap')) w') : wpList P ops Q (o :: rest) a w := by
 exact wpList_appS w hgd s x t ho e i ht hi hz hsize hby v xs hs hown u bs hx hu.toS hlen ys hys h
theorem own_shape' {w : World} {base : Nat} {e : TypeId} {size : Nat} {v : Value} {n : Nat} {xs : List Value} (h : w.ownsRow base e size v n xs) : ∃ a m cap, v = .slice a m cap /\ Hid (m = n) := by
 obtain ⟨a, cap, h, _⟩ := own_shape h
 exact ⟨a, n, cap, h, rfl⟩
theorem SlB.shape' {w : World} {v : Value} {bs : List UInt8} (h : SlB w v bs) : ∃ a m cap, v = .slice a m cap /\ Hid (m = bs.length) := by
 obtain ⟨a, cap, h, _⟩ := h.shape
 exact ⟨a, _, cap, h, rfl⟩
theorem own_tch {F : Nat -> Prop} {w w' : World} {base : Nat} {e : TypeId} {size : Nat} {v : Value} {n : Nat} {xs : List Value} (h : w.ownsRow base e size v n xs) (ht : Tch F w w') (hF : ∀ k, v.ownBlock = some k -> ¬ F k) : w'.ownsRow base e size v n xs := by
 refine ⟨h.1, ?_⟩
 rcases h.2 with hn | ⟨g, cap, cur, rfl, hb, hgg, r⟩
 ·exact .inl hn
 ·exact .inr ⟨g, cap, cur, rfl, hb, (ht.block g (Array.getElem?_eq_some_iff.1 hgg).1 (hF g rfl)).trans hgg, r⟩
theorem blk_lt {w : World} {b : Nat} {o : Obj} (h : w.heap[b]? = some o) : b < w.heap.size := (Array.getElem?_eq_some_iff.1 h).1
theorem blk_tch {F : Nat -> Prop} {w w' : World} (ht : Tch F w w') {b : Nat} {o : Obj} (h : w.heap[b]? = some o) (hF : ¬ F b) : w'.heap[b]? = some o := (ht.block b (blk_lt h) hF).trans h
theorem blk_cell {w : World} {b : Nat} {cur : Array Value} {e : TypeId} {fr : Nat × Nat} (h : w.heap[b]? = some (.cells cur e fr)) (j : Nat) : w.cell? ⟨b, j, none⟩ = cur[j]? := cell_of_row w b j cur e fr h
theorem blk_free {w : World} {b : Nat} {cur : Array Value} {e : TypeId} (h : w.heap[b]? = some (.cells cur e (0, 0))) (j : Nat) : w.frozen? ⟨b, j, none⟩ = false := frozen_of_row w b j cur e h
theorem kc9 {W : World} {b : Nat} {c0 c1 c2 c3 c4 c5 c6 c7 c8 : Value} {T : TypeId} {fr : Nat × Nat} (h : W.heap[b]? = some (.cells #[c0, c1, c2, c3, c4, c5, c6, c7, c8] T fr)) : W.cell? ⟨b, 0, none⟩ = some c0 /\ W.cell? ⟨b, 1, none⟩ = some c1 /\ W.cell? ⟨b, 2, none⟩ = some c2 /\ W.cell? ⟨b, 3, none⟩ = some c3 /\ W.cell? ⟨b, 4, none⟩ = some c4 /\ W.cell? ⟨b, 5, none⟩ = some c5 /\ W.cell? ⟨b, 6, none⟩ = some c6 /\ W.cell? ⟨b, 7, none⟩ = some c7 /\ W.cell? ⟨b, 8, none⟩ = some c8 := ⟨(blk_cell h 0).trans rfl, (blk_cell h 1).trans rfl, (blk_cell h 2).trans rfl, (blk_cell h 3).trans rfl, (blk_cell h 4).trans rfl, (blk_cell h 5).trans rfl, (blk_cell h 6).trans rfl, (blk_cell h 7).trans rfl, (blk_cell h 8).trans rfl⟩
theorem kf9 {W : World} {b : Nat} {c0 c1 c2 c3 c4 c5 c6 c7 c8 : Value} {T : TypeId} (h : W.heap[b]? = some (.cells #[c0, c1, c2, c3, c4, c5, c6, c7, c8] T (0, 0))) : W.frozen? ⟨b, 0, none⟩ = false /\ W.frozen? ⟨b, 1, none⟩ = false /\ W.frozen? ⟨b, 2, none⟩ = false /\ W.frozen? ⟨b, 3, none⟩ = false /\ W.frozen? ⟨b, 4, none⟩ = false /\ W.frozen? ⟨b, 5, none⟩ = false /\ W.frozen? ⟨b, 6, none⟩ = false /\ W.frozen? ⟨b, 7, none⟩ = false /\ W.frozen? ⟨b, 8, none⟩ = false := ⟨blk_free h 0, blk_free h 1, blk_free h 2, blk_free h 3, blk_free h 4, blk_free h 5, blk_free h 6, blk_free h 7, blk_free h 8⟩
theorem kc6 {W : World} {b : Nat} {c0 c1 c2 c3 c4 c5 : Value} {T : TypeId} {fr : Nat × Nat} (h : W.heap[b]? = some (.cells #[c0, c1, c2, c3, c4, c5] T fr)) : W.cell? ⟨b, 0, none⟩ = some c0 /\ W.cell? ⟨b, 1, none⟩ = some c1 /\ W.cell? ⟨b, 2, none⟩ = some c2 /\ W.cell? ⟨b, 3, none⟩ = some c3 /\ W.cell? ⟨b, 4, none⟩ = some c4 /\ W.cell? ⟨b, 5, none⟩ = some c5 := ⟨(blk_cell h 0).trans rfl, (blk_cell h 1).trans rfl, (blk_cell h 2).trans rfl, (blk_cell h 3).trans rfl, (blk_cell h 4).trans rfl, (blk_cell h 5).trans rfl⟩
theorem kf6 {W : World} {b : Nat} {c0 c1 c2 c3 c4 c5 : Value} {T : TypeId} (h : W.heap[b]? = some (.cells #[c0, c1, c2, c3, c4, c5] T (0, 0))) : W.frozen? ⟨b, 0, none⟩ = false /\ W.frozen? ⟨b, 1, none⟩ = false /\ W.frozen? ⟨b, 2, none⟩ = false /\ W.frozen? ⟨b, 3, none⟩ = false /\ W.frozen? ⟨b, 4, none⟩ = false /\ W.frozen? ⟨b, 5, none⟩ = false := ⟨blk_free h 0, blk_free h 1, blk_free h 2, blk_free h 3, blk_free h 4, blk_free h 5⟩
theorem kc2 {W : World} {b : Nat} {c0 c1 : Value} {T : TypeId} {fr : Nat × Nat} (h : W.heap[b]? = some (.cells #[c0, c1] T fr)) : W.cell? ⟨b, 0, none⟩ = some c0 /\ W.cell? ⟨b, 1, none⟩ = some c1 := ⟨(blk_cell h 0).trans rfl, (blk_cell h 1).trans rfl⟩
theorem kf2 {W : World} {b : Nat} {c0 c1 : Value} {T : TypeId} (h : W.heap[b]? = some (.cells #[c0, c1] T (0, 0))) : W.frozen? ⟨b, 0, none⟩ = false /\ W.frozen? ⟨b, 1, none⟩ = false := ⟨blk_free h 0, blk_free h 1⟩

theorem blk_set {w : World} {b : Nat} {cur : Array Value} {e : TypeId} (h : w.heap[b]? = some (.cells cur e (0, 0))) (j : Nat) (u : Value) : (w.setCell ⟨b, j, none⟩ u).heap[b]? = some (.cells (cur.setIfInBounds j u) e (0, 0)) := heap_setCell_same w b j cur e u h
theorem blk_new (w : World) (o : Obj) : (w.alloc o).heap[w.heap.size]? = some o := heap_alloc_new w o
theorem SlB.one (w : World) (c : UInt8) (t : TypeId) : SlB (w.alloc (.cells #[.int .u8 (c.toNat : Int)] t)) (.slice (some ⟨w.heap.size, 0, none⟩) 1 1) [c] := by
 refine ⟨by simp [lim], .inr ⟨w.heap.size, 0, 1, rfl, by simp, by simp [maxLen], by simp, fun i hi => ?_⟩⟩
 have : i = 0 := by simpa using hi
 subst this
 simp
theorem SlB.lit (w : World) (C : Array Value) (bs : List UInt8) (n : Nat) (t : TypeId) (fr : Nat × Nat) (hn : bs.length = n) (hC : C = (u8s bs).toArray) (hl : n <= lim) : SlB (w.alloc (.cells C t fr)) (.slice (some ⟨w.heap.size, 0, none⟩) n n) bs := by
 subst hn
 refine ⟨hl, .inr ⟨w.heap.size, 0, bs.length, rfl, Nat.le_refl _, by unfold lim at hl; simp only [maxLen]; omega, by simp, fun i hi => ?_⟩⟩
 rw [Nat.zero_add, World.cell?_alloc_mark, hC]
 simp [u8s, List.getElem?_eq_getElem hi]
theorem cal {w : World} {p : Addr} {v : Value} (hc : w.cell? p = some v) : ∀ o, (w.alloc o).cell? p = some v := fun o => (Tch.alloc w o).cell hc (fun h => h)
end
section
open Go.RowKit Go.Maps
theorem strCells_eq (s : ByteArray) : Lib.strCells s = u8s s.data.toList := rfl
theorem run_app_str {P : Program} (w : World) (t u ty e : TypeId) (i : TypeInfo) (ht : P.underlying t = some (.slice e)) (hu : P.underlying u = some .string) (hi : P.info? e = some i) (hz : i.zero = some (.int .u8 0))
  (hsize : i.size = 1) (hby : i.bytes = 1) (v : Value) (xs : List UInt8) (hown : w.ownsRow 0 e 1 v xs.length (u8s xs)) (s : ByteArray) (hlen : xs.length + s.size <= lim) :
  ∃ v' w', (Builtin.append_ #[t, u] ty #[v, .string s]).run P w = .ok v' w' /\ AppPost e w v (xs ++ s.data.toList) v' w' := by
 unfold lim at hlen
 have hb0 : 0 <= w.heap.size := Nat.zero_le _
 obtain ⟨v', w', hr, h1, h2, h3⟩ := Lib.run_append_own_string w 0 t u ty e i ht hu hi hz hsize hby v xs.length (u8s xs) hown s (by simp only [maxLen]; omega) (by omega) hb0
 have hsz : s.size = s.data.toList.length := (Array.length_toList (xs := s.data)).symm
 refine ⟨v', w', hr, ⟨?_, h2, fun q1 q2 => h3.2 ⟨q2, ?_⟩, ?_⟩⟩
 ·rw [strCells_eq, <- u8s_append, hsz, <- List.length_append] at h1; exact h1
 ·rw [hsz]; have := congrArg List.length q1; simp at this; simp [this.2]
 ·rcases hown.2 with ⟨rfl, h0⟩ | ⟨g, cap, cur, rfl, hbg, hg, hnc, hcm, hcs, htake⟩
  ·have hx : xs = [] := List.eq_nil_of_length_eq_zero h0
   subst hx
   by_cases hm : s.size = 0
   ·rw [h3.2 ⟨rfl, hm⟩]; exact .inl rfl
   ·right
    have hr' := run_append_nil_string (P := P) w t u ty e i (.int .u8 0) ht hu hi hz s (by omega) (by simp at hlen; omega) (by rw [hby]; simp at hlen; omega)
    rw [hr'] at hr
    cases hr
    rfl
  ·by_cases hroom : xs.length + s.size <= cap
   ·left
    have hr' := Lib.run_append_room_string (P := P) w t u ty e i ht hu hi hsize g xs.length cap cur hg s hroom (by rw [hcs]; omega)
    rw [hr'] at hr
    cases hr
    rfl
   ·right
    have holds : ∀ j u, (u8s xs)[j]? = some u -> w.cell? ((⟨g, 0, none⟩ : Addr).add j) = some u := hown.cells (g := g) rfl
    have hr' := Lib.run_append_grow_string (P := P) w t u ty e i (.int .u8 0) ht hu hi hz ⟨g, 0, none⟩ xs.length cap (u8s xs) (by rw [hsize]; simp [u8s]) holds s (by omega) (by omega) (by rw [hby]; exact growslice_fits (by omega) (by omega))
    rw [hr'] at hr
    cases hr
    rfl
theorem step_app_str {P : Program} {ops : Array Oper} {o : Oper} {a : Act} {w : World} {K : Act -> World -> Prop} {Q : Exit -> Act -> World -> Prop} {E : Prop} (hgd : o.guard = none) (sl x : Operand) (t u : TypeId)
  (ho : o.op = .call { callee := .builtin .append, args := #[sl, x], argTypes := #[t, u] })
  (e : TypeId) (i : TypeInfo) (ht : P.underlying t = some (.slice e)) (hu : P.underlying u = some .string) (hi : P.info? e = some i) (hz : i.zero = some (.int .u8 0))
  (hsize : i.size = 1) (hby : i.bytes = 1) (v : Value) (xs : List UInt8) (hs : a.eval sl = v) (hown : w.ownsRow 0 e 1 v xs.length (u8s xs)) (s : ByteArray) (hx : a.eval x = .string s) (hlen : xs.length + s.size <= lim)
  (ys : List UInt8) (hys : Hid (ys = xs ++ s.data.toList))
  (h : ∀ a' n' cap' w', AppPost e w v ys (.slice a' n' cap') w' -> Hid (n' = ys.length) -> K (a.put o.dst (.slice a' n' cap')) w') :
  if Region.wanted o (yielded ops a.tmps) = true then Oper.wp P o a w K Q else E := by
 have hys' := hys.out
 subst hys'
 have hw : Region.wanted o (yielded ops a.tmps) = true := by simp [Region.wanted, hgd]
 rw [if_pos hw]
 obtain ⟨v', w', hr, hA⟩ := run_app_str (P := P) w t u o.type e i ht hu hi hz hsize hby v xs hown s hlen
 obtain ⟨a', cap', rfl, _, _⟩ := own_shape hA.own
 unfold Oper.wp execOp
 simp only [ho, resolve, invoke, builtin, Sem.run_bind, Sem.run_pure, Result.andThen_ok, List.map_toArray, List.map_cons, List.map_nil, hs, hx, hr]
 exact h _ _ _ _ hA rfl
theorem App_cell {e : TypeId} {w : World} {v : Value} {ys : List UInt8} {v' : Value} {w' : World} (h : AppPost e w v ys v' w') {p : Addr} {x : Value} (hc : w.cell? p = some x) (hv : v.ownBlock ≠ some p.block) : w'.cell? p = some x := h.grow.cell hc (fun e => hv e.symm)
theorem App_free {e : TypeId} {w : World} {v : Value} {ys : List UInt8} {v' : Value} {w' : World} (h : AppPost e w v ys v' w') {p : Addr} {x : Value} {b : Bool} (hc : w.cell? p = some x) (hf : w.frozen? p = b) (hv : v.ownBlock ≠ some p.block) : w'.frozen? p = b :=
 (World.frozen?_of_block (h.grow.block p.block (World.block_lt_of_cell? w p hc) (fun e => hv e.symm))).trans hf
theorem bytes_ext {a b : ByteArray} (h : a.data.toList = b.data.toList) : a = b := by
 cases a; cases b; simp at h; subst h; rfl
theorem extract_all (s : ByteArray) : s.extract 0 s.size = s := bytes_ext (by
 rw [Lib.extract_data, List.drop_zero, Nat.sub_zero, Lib.size_eq, List.take_length])
end
section
open Go.RowKit Go.Maps
def leBytes : Nat -> Nat -> List UInt8
 | 0, _ => []
 | k + 1, n => UInt8.ofNat (n % 256) :: leBytes k (n / 256)
theorem leBytes_length : ∀ k n, (leBytes k n).length = k
 | 0, _ => rfl
 | k + 1, n => by simp [leBytes, leBytes_length k]
structure IsOut (w : World) (ob : Nat) (v : Value) (bs : List UInt8) : Prop where
 cell : w.heap[ob]? = some (.cells #[v] 146 (0, 0))
 own : w.ownsRow 0 5 1 v bs.length (u8s bs)
 ne : v.ownBlock ≠ some ob
def OutF (ob : Nat) (v : Value) : Nat -> Prop := fun k => k = ob ∨ v.ownBlock = some k
theorem IsOut.tch {F : Nat -> Prop} {w w' : World} {ob : Nat} {v : Value} {bs : List UInt8} (h : IsOut w ob v bs) (ht : Tch F w w') (hF : ∀ k, OutF ob v k -> ¬ F k) : IsOut w' ob v bs :=
 ⟨blk_tch ht h.cell (hF ob (.inl rfl)), own_tch h.own ht (fun k hk => hF k (.inr hk)), h.ne⟩
def OutPost (w : World) (ob : Nat) (v : Value) (bs : List UInt8) (w' : World) : Prop :=
 ∃ v', IsOut w' ob v' bs /\ Tch (OutF ob v) w w' /\ ∀ k, v'.ownBlock = some k -> v.ownBlock = some k ∨ w.heap.size <= k
theorem OutPost.trans {w w1 w2 : World} {ob : Nat} {v v1 : Value} {bs1 bs2 : List UInt8} (_h1 : IsOut w1 ob v1 bs1) (t1 : Tch (OutF ob v) w w1) (n1 : ∀ k, v1.ownBlock = some k -> v.ownBlock = some k ∨ w.heap.size <= k) (h2 : OutPost w1 ob v1 bs2 w2) : OutPost w ob v bs2 w2 := by
 obtain ⟨v2, i2, t2, n2⟩ := h2
 refine ⟨v2, i2, t1.trans t2 ?_, fun k hk => ?_⟩
 ·rintro k hk (rfl | h)
  ·exact .inl rfl
  ·rcases n1 k h with h | h
   ·exact .inr h
   ·omega
 ·rcases n2 k hk with h | h
  ·exact n1 k h
  ·exact .inr (Nat.le_trans t1.size h)
theorem info8 : (Tryz.prog.info? 5).map (fun i => (i.zero, i.size, i.bytes)) = some (some (.int .u8 0), 1, 1) := by kernel_rfl
theorem out_step {wr wm w1 : World} {ob : Nat} {v' v'' : Value} {bs ys : List UInt8} (hi : IsOut wr ob v' bs) (h0 : Tch No wr wm)
  (ha : AppPost 5 wm v' ys v'' w1) : OutPost wr ob v' ys (w1.setCell ⟨ob, 0, none⟩ v'') := by
 have hlt := blk_lt hi.cell
 have hsz := h0.size
 have hob : w1.heap[ob]? = some (.cells #[v'] 146 (0, 0)) := by
  rw [ha.grow.block ob (by omega) (fun e => hi.ne e.symm), h0.block ob hlt (fun h => h)]; exact hi.cell
 have hv : ∀ k, v''.ownBlock = some k -> v'.ownBlock = some k ∨ wr.heap.size <= k := fun k hk => by
  rcases ha.loc with h | h
  ·exact .inl (h ▸ hk)
  ·rw [h] at hk; simp at hk; exact .inr (by omega)
 have hne : v''.ownBlock ≠ some ob := fun e => by
  rcases hv ob e with h | h
  ·exact hi.ne h
  ·omega
 have ht : Tch (OutF ob v') wr w1 := h0.no.trans (Tch.grown ha.grow (F := OutF ob v') (fun k hk _ => .inr hk)) (fun _ _ h => h)
 refine ⟨v'', ⟨?_, ?_, hne⟩, ht.trans (Tch.setCell (F := OutF ob v') _ _ _ (fun _ => .inl rfl)) (fun _ _ h => h), hv⟩
 ·simpa using blk_set hob 0 v''
 ·exact own_tch (F := fun k => k = ob) ha.own (Tch.setCell _ _ _ (fun _ => rfl)) (fun k hk e => hne (by rw [hk, e]))
theorem IsOut.cell0 {w : World} {ob : Nat} {v : Value} {bs : List UInt8} (h : IsOut w ob v bs) : w.cell? ⟨ob, 0, none⟩ = some v := by
 simpa using blk_cell h.cell 0
theorem App_keep {e : TypeId} {w : World} {v : Value} {ys : List UInt8} {v' : Value} {w' : World} {o : Obj} (h : AppPost e (w.alloc o) v ys v' w') {b : Nat} {x : Obj} (hb : w.heap[b]? = some x) (hv : v.ownBlock ≠ some b) : w'.heap[b]? = some x := by
 have hlt := blk_lt hb
 rw [h.grow.block b (by simp; omega) (fun e => hv e.symm), Below.heap_alloc _ _ _ hlt]; exact hb
theorem own_loc {w : World} {base : Nat} {e : TypeId} {size : Nat} {v : Value} {n : Nat} {xs : List Value} (h : w.ownsRow base e size v n xs) : ∀ k, v.ownBlock = some k -> k < w.heap.size := fun k hk => (h.lt k hk).2
theorem wide_any (ob : Nat) (v : Value) (bs : List UInt8) (n width : Nat) (w : World) (hn : n < 18446744073709551616) (hw : width <= 8) (hi : IsOut w ob v bs) (hl : bs.length <= 1000000) :
  Calls Tryz.prog 178 #[.pointer (some ⟨ob, 0, none⟩), .int .u64 n, .int .i64 width] w fun e w' => e = .returned (.tuple #[]) /\ OutPost w ob v (bs ++ leBytes width n) w' := by
 have HI := Lib.hid hi
 have hlt := blk_lt hi.cell
 clear hi
 obtain ⟨i0, hi0, hz0, hz1, hz2⟩ := info_parts info8
 go_enter Tryz.func178, Tryz.ntmps178
 go_wp2
 go_loopw [1, 2] (fun s1 s2 wr => ∃ (k m : Nat) (ys : List UInt8) (v' : Value), k <= width /\ m < 18446744073709551616 /\ s1 = .int .u64 m /\ s2 = .int .i64 k /\ Hid (bs ++ leBytes width n = ys ++ leBytes k m) /\
   Hid (IsOut wr ob v' ys) /\ Tch (OutF ob v) w wr /\ Hid (∀ k, v'.ownBlock = some k -> v.ownBlock = some k ∨ w.heap.size <= k)) (fun _ s2 _ => (intOf s2).toNat)
 case atStart => exact ⟨width, n, bs, v, Nat.le_refl _, hn, rfl, rfl, rfl, HI, Tch.refl _ _, fun k hk => .inl hk⟩
 case round =>
  obtain ⟨k, m, ys, v', hk, hm, rfl, rfl, hsplit, hI, ht, hnw⟩ := hrel
  by_cases hpos : 0 < k
  ·have hdl : ys.length <= 1000008 := by
    have := congrArg List.length hsplit.out
    simp only [List.length_append, leBytes_length] at this
    omega
   have hcell := hI.out.cell0
   have hc8 : Hid ((m : Int) % 256 = ((UInt8.ofNat (m % 256)).toNat : Int)) := by
    rw [Hid]; simp
   have hnext : Hid (∀ zs, zs = ys ++ [UInt8.ofNat (m % 256)] -> bs ++ leBytes width n = zs ++ leBytes (k - 1) (m / 256)) := by
    rintro zs rfl
    obtain ⟨j, rfl⟩ : ∃ j, k = j + 1 := ⟨k - 1, by omega⟩
    rw [hsplit.out, leBytes]; simp
   obtain ⟨c, hcc⟩ : ∃ c, UInt8.ofNat (m % 256) = c := ⟨_, rfl⟩
   rw [hcc] at hc8 hnext
   clear hcc
   have hle : ys.length + [c].length <= lim := by simp [lim]; omega
   obtain ⟨zs, hzs⟩ : ∃ zs, Hid (zs = ys ++ [c]) := ⟨_, rfl⟩
   obtain ⟨a, ml, cap, hv', hml⟩ := own_shape' hI.out.own
   subst hv'
   go_wp2_with (at_builtin; go_must (refine wpList_app _ rfl _ _ 48 rfl 5 i0 Tryz.underlying48 hi0 hz0 hz1 hz2 _ ys rfl (hI.out.own.alloc _) (.slice (some ⟨wr.heap.size, 0, none⟩) 1 1) [c] rfl (by rw [hc8.out]; exact SlB.one _ _ _) hle zs hzs ?_); intro a1 n1 cap1 w1 hA hn1; have hk1 := App_keep hA hI.out.cell hI.out.ne; have hk2 := blk_cell hk1 0; have hk3 := blk_free hk1 0; clear hk1)
   obtain ⟨v3, i3, t3, n3⟩ := OutPost.trans hI.out ht hnw.out (out_step hI.out (Tch.alloc _ _) hA)
   exact ⟨⟨k - 1, m / 256, zs, v3, by omega, by omega, by go_num, by go_num, hnext.out zs hzs.out, i3, t3, n3⟩, by simp [intOf]; omega⟩
  ·go_wp2
   go_end0
   have e : k = 0 := by omega
   subst e
   refine ⟨rfl, v', ?_, ht, hnw.out⟩
   have := hsplit.out
   rw [leBytes, List.append_nil] at this
   rw [this]
   exact hI.out
theorem osmall_any (ob : Nat) (v : Value) (bs : List UInt8) (n : Nat) (w : World) (hn : n < 9223372036854775808) (hi : IsOut w ob v bs) (hl : bs.length <= 1000000) :
  Calls Tryz.prog 124 #[.pointer (some ⟨ob, 0, none⟩), .int .i64 n] w fun e w' => e = .returned (.tuple #[]) /\ OutPost w ob v (bs ++ leBytes 2 n) w' := by
 have hc := Lib.hid (wide_any ob v bs n 2 w (by omega) (by omega) hi hl)
 clear hi
 go_enter Tryz.func124, Tryz.ntmps124
 go_wp2_with (go_at_call 178; go_must (refine hc.out.mono ?_); rintro e w' ⟨rfl, h⟩)
 go_end0
 exact ⟨rfl, h⟩
def u64of (n : Int) : Nat := (n % 18446744073709551616).toNat
theorem olong_any (ob : Nat) (v : Value) (bs : List UInt8) (n : Int) (w : World) (h1 : -9223372036854775808 <= n) (h2 : n <= 9223372036854775807) (hi : IsOut w ob v bs) (hl : bs.length <= 1000000) :
  Calls Tryz.prog 125 #[.pointer (some ⟨ob, 0, none⟩), .int .i64 n] w fun e w' => e = .returned (.tuple #[]) /\ OutPost w ob v (bs ++ leBytes 8 (u64of n)) w' := by
 have hc := Lib.hid (wide_any ob v bs (u64of n) 8 w (by unfold u64of; omega) (by omega) hi hl)
 have hq : Hid (IntKind.u64.wrap n = ((u64of n : Nat) : Int)) := by rw [Hid, u64of, IntKind.wrap_u64]; omega
 clear hi
 go_enter Tryz.func125, Tryz.ntmps125
 go_wp2_with fail
 rw [hq.out]
 refine hc.out.mono ?_
 rintro e w' ⟨rfl, hP⟩
 go_wp2
 go_end0
 exact ⟨rfl, hP⟩
theorem otruth_any (ob : Nat) (v : Value) (bs : List UInt8) (x : Bool) (w : World) (hi : IsOut w ob v bs) (hl : bs.length <= 1000000) :
  Calls Tryz.prog 226 #[.pointer (some ⟨ob, 0, none⟩), .bool x] w fun e w' => e = .returned (.tuple #[]) /\ OutPost w ob v (bs ++ [if x then 1 else 0]) w' := by
 cases x
 ·have hc := Lib.hid (wide_any ob v bs 0 1 w (by omega) (by omega) hi hl)
  clear hi
  go_enter Tryz.func226, Tryz.ntmps226
  go_wp2_with (go_at_call 178; go_must (refine hc.out.mono ?_); rintro e w' ⟨rfl, hP⟩)
  go_end0
  exact ⟨rfl, hP⟩
 ·have hc := Lib.hid (wide_any ob v bs 1 1 w (by omega) (by omega) hi hl)
  clear hi
  go_enter Tryz.func226, Tryz.ntmps226
  go_wp2_with (go_at_call 178; go_must (refine hc.out.mono ?_); rintro e w' ⟨rfl, hP⟩)
  go_end0
  exact ⟨rfl, hP⟩
theorem otext_any (ob : Nat) (v : Value) (bs : List UInt8) (s : ByteArray) (w : World) (hi : IsOut w ob v bs) (hl : bs.length <= 900000) (hs : s.size <= 65535) :
  Calls Tryz.prog 128 #[.pointer (some ⟨ob, 0, none⟩), .string s] w fun e w' => e = .returned (.tuple #[]) /\ OutPost w ob v (bs ++ leBytes 2 s.size ++ s.data.toList) w' := by
 have hc := Lib.hid (osmall_any ob v bs s.size w (by omega) hi (by omega))
 have HI := Lib.hid hi
 have hlt := blk_lt hi.cell
 clear hi
 have hb : bits .and .i64 (s.size : Int) 65535 = (s.size : Int) := by
  have := bits_mask .i64 63 (by decide) (fun n h1 h2 => IntWalk.i64_in n ⟨by omega, by omega⟩) 16 (by decide) (s.size : Int) (by omega) (by omega)
  rw [show ((2 : Int) ^ 16 - 1) = 65535 by decide, show ((2 : Int) ^ 16) = 65536 by decide] at this
  rw [this]; omega
 obtain ⟨i0, hi0, hz0, hz1, hz2⟩ := info_parts info8
 obtain ⟨ys, hys⟩ : ∃ ys, Hid (ys = bs ++ leBytes 2 s.size) := ⟨_, rfl⟩
 rw [<- hys.out] at hc ⊢
 obtain ⟨zs, hzs⟩ : ∃ zs, Hid (zs = ys ++ s.data.toList) := ⟨_, rfl⟩
 rw [<- hzs.out]
 have hyl : ys.length <= 900002 := by rw [hys.out, List.length_append, leBytes_length]; omega
 have hext : s.extract 0 s.size = s := extract_all s
 go_enter Tryz.func128, Tryz.ntmps128
 go_wp2_with (go_at_call 124; go_must (refine hc.out.mono ?_); rintro e w1 ⟨rfl, hP⟩)
 obtain ⟨v1, i1, t1, nw1⟩ := hP
 obtain ⟨a, ml, cap, hv', hml⟩ := own_shape' i1.own
 subst hv'
 have hcell := i1.cell0
 have I1 := Lib.hid i1; clear i1
 have hfr := blk_free I1.out.cell 0
 have s0 : (0 : Int) <= (s.size : Int) := by omega
 have s1 : (s.size : Int) <= 65535 := by omega
 go_region_law ((refine step_app_str (by rfl) _ _ 48 9 (by rfl) 5 i0 Tryz.underlying48 Tryz.underlying9 hi0 hz0 hz1 hz2 _ ys (by rfl) I1.out.own s (by rfl) (by unfold lim; omega) zs hzs ?_; intro a1 n1 cap1 w2 hA hn1; have hk2 := App_cell hA hcell I1.out.ne; have hk3 := App_free hA hcell hfr I1.out.ne))
 go_wp2
 go_end0
 exact ⟨rfl, OutPost.trans I1.out t1 nw1 (out_step I1.out (Tch.drew _) hA)⟩
end
end Go.Proofs.YtfedhcnmdmhppaaGreat
