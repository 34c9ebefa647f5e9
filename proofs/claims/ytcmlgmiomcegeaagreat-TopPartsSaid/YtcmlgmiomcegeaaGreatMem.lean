/- Memory words of this seat's proofs: what a call may touch, a byte slice that reads as a list of bytes. No condition. -/
import Derived.Test.YtcmlgmiomcegeaaGreatProg
import Derived.WalkKit
import Derived.WalkSpells
import Derived.WalkLawsBesides
import Derived.Maps.OwnSet
import Derived.Maps.OwnOps
import Derived.Maps.RangeWalk
import Derived.Maps.AppendAt
import Derived.Deep.QuietTactic
import Derived.BigQuiet
import Derived.Deep.DeepFit
import Derived.Lib.Hide
import Derived.Deep.RegionHeld3
namespace Go.Proofs.YtcmlgmiomcegeaaGreat
open Go.RowKit Go.Maps
set_option linter.unusedVariables false
set_option linter.unusedSimpArgs false

/-- w' is w with new blocks, and with writes to blocks of F alone. -/
structure Tch (F : Nat → Prop) (w w' : World) : Prop where
  os : w'.os = w.os
  tape : w'.tape = w.tape
  output : w'.output = w.output
  size : w.heap.size ≤ w'.heap.size
  block : ∀ k, k < w.heap.size → ¬ F k → w'.heap[k]? = w.heap[k]?

def No : Nat → Prop := fun _ => False

/-- The model's bound on what is appended, behind a name. -/
def lim : Nat := 140737488355328

theorem Tch.refl (F : Nat → Prop) (w : World) : Tch F w w := ⟨rfl, rfl, rfl, Nat.le_refl _, fun _ _ _ => rfl⟩
theorem Tch.trans {F G : Nat → Prop} {a b c : World} (h : Tch F a b) (k : Tch G b c) (hG : ∀ i, i < a.heap.size → G i → F i) : Tch F a c :=
  ⟨k.os.trans h.os, k.tape.trans h.tape, k.output.trans h.output, Nat.le_trans h.size k.size, fun i hi hF =>
    (k.block i (Nat.lt_of_lt_of_le hi h.size) (fun hg => hF (hG i hi hg))).trans (h.block i hi hF)⟩
theorem Tch.trans0 {F : Nat → Prop} {a b c : World} (h : Tch F a b) (k : Tch No b c) : Tch F a c := h.trans k (fun _ _ h => h.elim)
theorem Tch.mono {F G : Nat → Prop} {a b : World} (h : Tch F a b) (hG : ∀ i, i < a.heap.size → F i → G i) : Tch G a b :=
  ⟨h.os, h.tape, h.output, h.size, fun i hi hn => h.block i hi (fun hf => hn (hG i hi hf))⟩
theorem Tch.fresh {F : Nat → Prop} {a b c : World} (h : Tch No a b) (k : Tch F b c) (hF : ∀ i, F i → a.heap.size ≤ i) : Tch No a c :=
  h.trans k (fun i hi hf => by have := hF i hf; omega)
theorem Tch.no {F : Nat → Prop} {a b : World} (h : Tch No a b) : Tch F a b := h.mono (fun _ _ h => h.elim)
theorem Tch.alloc (w : World) (o : Obj) : Tch No w (w.alloc o) :=
  ⟨rfl, rfl, rfl, by simp, fun k hk _ => Below.heap_alloc _ _ _ hk⟩
theorem Tch.drew (w : World) : Tch No w w.drew := ⟨rfl, rfl, rfl, Nat.le_refl _, fun _ _ _ => rfl⟩
theorem Tch.setCell {F : Nat → Prop} (w : World) (p : Addr) (u : Value) (hF : p.block < w.heap.size → F p.block) : Tch F w (w.setCell p u) :=
  ⟨rfl, rfl, rfl, by simp [World.setCell], fun k hk hn => Below.heap_setCell _ _ _ _ (fun e => hn (by subst e; exact hF hk))⟩
theorem Tch.grown {F : Nat → Prop} {w w' : World} {row : Option Nat} (h : w.grownBy w' row) (hr : ∀ k, row = some k → k < w.heap.size → F k) : Tch F w w' :=
  ⟨h.os, h.tape, h.output, h.size, fun k hk hn => h.block k hk (fun e => hn (hr k e.symm hk))⟩
theorem Tch.below {F : Nat → Prop} {w w' : World} (h : Tch F w w') {B : Nat} (hB : B ≤ w.heap.size) (hF : ∀ k, k < w.heap.size → F k → B ≤ k) : Below B w w' :=
  ⟨h.os, h.tape, h.output, h.size, fun k hk => h.block k (by omega) (fun hf => by have := hF k (by omega) hf; omega)⟩
theorem Tch.below0 {w w' : World} (h : Tch No w w') : Below w.heap.size w w' := h.below (Nat.le_refl _) (fun _ _ h => h.elim)
theorem Tch.ofBelow {w w' : World} (h : Below w.heap.size w w') : Tch No w w' := ⟨h.os, h.tape, h.output, h.size, fun k hk _ => h.block k hk⟩
theorem Tch.cell {F : Nat → Prop} {w w' : World} (h : Tch F w w') {p : Addr} {v : Value} (hc : w.cell? p = some v) (hp : ¬ F p.block) : w'.cell? p = some v :=
  (World.cell?_of_block (h.block p.block (World.block_lt_of_cell? w p hc) hp)).trans hc

theorem ret_b {a b : Bool} (h : a = b) : Ending.returned (.bool a) = .returned (.bool b) := by rw [h]
theorem ret_i {k : IntKind} {a b : Int} (h : a = b) : Ending.returned (.int k a) = .returned (.int k b) := by rw [h]
theorem ret_v {a b : Value} (h : a = b) : Ending.returned a = .returned b := by rw [h]

/-- A slice value of bytes that reads as the list bs. -/
def SlB (w : World) (v : Value) (bs : List UInt8) : Prop :=
  bs.length ≤ lim ∧ ((v = .slice none 0 0 ∧ bs = []) ∨
    ∃ b o cap, v = .slice (some ⟨b, o, none⟩) bs.length cap ∧ bs.length ≤ cap ∧ cap ≤ maxLen ∧ b < w.heap.size ∧ ∀ i (h : i < bs.length), w.cell? ⟨b, o + i, none⟩ = some (.int .u8 (bs[i].toNat : Int)))

theorem SlB.keep {w w' : World} {v : Value} {bs : List UInt8} (h : SlB w v bs) (hk : ∀ k, v.ownBlock = some k → w'.heap[k]? = w.heap[k]?) : SlB w' v bs := by
  refine ⟨h.1, ?_⟩
  rcases h.2 with hn | ⟨b, o, cap, rfl, h1, h2, h3, h4⟩
  · exact .inl hn
  · have hb := hk b rfl
    refine .inr ⟨b, o, cap, rfl, h1, h2, ?_, fun i hi => (World.cell?_of_block hb).trans (h4 i hi)⟩
    rcases Nat.lt_or_ge b w'.heap.size with hlt | hge
    · exact hlt
    · rw [Array.getElem?_eq_none hge, Array.getElem?_eq_getElem h3] at hb
      cases hb

theorem SlB.blt {w : World} {v : Value} {bs : List UInt8} (h : SlB w v bs) : ∀ k, v.ownBlock = some k → k < w.heap.size := by
  intro k hk
  rcases h.2 with ⟨rfl, _⟩ | ⟨b, o, cap, rfl, h1, h2, h3, h4⟩
  · simp [Value.ownBlock] at hk
  · simp [Value.ownBlock] at hk; subst hk; exact h3

theorem SlB.tch {F : Nat → Prop} {w w' : World} {v : Value} {bs : List UInt8} (h : SlB w v bs) (ht : Tch F w w') (hF : ∀ k, v.ownBlock = some k → ¬ F k) : SlB w' v bs :=
  h.keep fun k hk => ht.block k (h.blt k hk) (hF k hk)
theorem SlB.tch0 {w w' : World} {v : Value} {bs : List UInt8} (h : SlB w v bs) (ht : Tch No w w') : SlB w' v bs := h.tch ht (fun _ _ h => h)

theorem SlB.nil (w : World) : SlB w (.slice none 0 0) [] := ⟨Nat.zero_le _, .inl ⟨rfl, rfl⟩⟩

/-- The cells of bytes. -/
def u8s (bs : List UInt8) : List Value := bs.map fun c => .int .u8 (c.toNat : Int)
theorem u8s_length (bs : List UInt8) : (u8s bs).length = bs.length := by simp [u8s]
theorem u8s_one (bs : List UInt8) : ∀ u ∈ u8s bs, u.oneCell' = true := by
  intro u hu; simp [u8s] at hu; obtain ⟨c, _, rfl⟩ := hu; rfl
theorem u8s_append (a b : List UInt8) : u8s (a ++ b) = u8s a ++ u8s b := by simp [u8s]

theorem addr_add (b o j : Nat) : (⟨b, o, none⟩ : Addr).add j = ⟨b, o + j, none⟩ := by unfold Addr.add; split <;> simp_all

/-- What the call owns reads as bytes. -/
theorem SlB.ofRow {w : World} {base : Nat} {v : Value} {n : Nat} {bs : List UInt8} {e : TypeId} (h : w.ownsRow base e 1 v n (u8s bs)) (hb : bs.length ≤ lim) : SlB w v bs := by
  have hn : n = bs.length := by have := h.1; rw [u8s_length] at this; omega
  subst hn
  refine ⟨hb, ?_⟩
  rcases h.2 with ⟨rfl, h0⟩ | ⟨g, cap, cur, rfl, hbg, hg, hnc, hcm, hcs, htake⟩
  · exact .inl ⟨rfl, List.eq_nil_of_length_eq_zero h0⟩
  · refine .inr ⟨g, 0, cap, rfl, hnc, hcm, (Array.getElem?_eq_some_iff.1 hg).1, fun i hi => ?_⟩
    have := h.cells (g := g) rfl i (.int .u8 (bs[i].toNat : Int)) (by simp [u8s, List.getElem?_eq_getElem hi])
    rwa [addr_add] at this

/-- The cells, as the laws on append ask for them. -/
theorem SlB.news {w : World} {b o cap : Nat} {bs : List UInt8} (h : ∀ i (h : i < bs.length), w.cell? ⟨b, o + i, none⟩ = some (.int .u8 (bs[i].toNat : Int))) :
    ∀ j u, (u8s bs)[j]? = some u → w.cell? ((⟨b, o, none⟩ : Addr).add j) = some u := by
  intro j u hu
  rw [addr_add]
  have hj : j < bs.length := by
    rcases Nat.lt_or_ge j bs.length with h' | h'
    · exact h'
    · rw [List.getElem?_eq_none (by simpa [u8s] using h')] at hu; cases hu
  rw [h j hj]
  simp [u8s, List.getElem?_eq_getElem hj] at hu
  rw [hu]

/-- 'string(b)'. -/
theorem SlB.str {w : World} {v : Value} {bs : List UInt8} (h : SlB w v bs) {P : Program} {src dst e : TypeId} (hs : P.underlying src = some (.slice e)) (he : P.underlying e = some (.int .u8)) (hd : P.underlying dst = some .string) :
    (convert src dst v).run P w = .ok (.string ⟨bs.toArray⟩) w := by
  rcases h.2 with ⟨rfl, rfl⟩ | ⟨b, o, cap, rfl, h1, h2, h3, h4⟩
  · exact run_convert_bytes_nil w src e hs he 0 0 dst hd
  · exact run_convert_bytes_back w src dst e _ cap bs hs he hd (fun j hj => by rw [addr_add]; exact h4 j hj)

/-- 'len(b)'. -/
theorem SlB.shape {w : World} {v : Value} {bs : List UInt8} (h : SlB w v bs) : ∃ a cap, v = .slice a bs.length cap ∧ bs.length ≤ cap ∧ cap ≤ maxLen := by
  rcases h.2 with ⟨rfl, rfl⟩ | ⟨b, o, cap, rfl, h1, h2, h3, h4⟩
  · exact ⟨none, 0, rfl, by simp, by simp [maxLen]⟩
  · exact ⟨_, cap, rfl, h1, h2⟩

/-- What an append leaves. -/
structure AppPost (e : TypeId) (w : World) (v : Value) (ys : List UInt8) (v' : Value) (w' : World) : Prop where
  own : w'.ownsRow 0 e 1 v' ys.length (u8s ys)
  grow : w.grownBy w' v.ownBlock
  nil : ys = [] → v = .slice none 0 0 → v' = .slice none 0 0
  loc : v'.ownBlock = v.ownBlock ∨ v'.ownBlock = some w.heap.size

theorem own_shape {w : World} {base : Nat} {e : TypeId} {size : Nat} {v : Value} {n : Nat} {xs : List Value} (h : w.ownsRow base e size v n xs) : ∃ a cap, v = .slice a n cap ∧ n ≤ cap ∧ cap ≤ maxLen := by
  rcases h.2 with ⟨rfl, rfl⟩ | ⟨g, cap, cur, rfl, _, _, hnc, hcm, _⟩
  · exact ⟨none, 0, rfl, Nat.le_refl _, by simp [maxLen]⟩
  · exact ⟨_, cap, rfl, hnc, hcm⟩

/-- What may be appended: a slice whose cells read as bytes, wherever an empty one leads. -/
def SlS (w : World) (v : Value) (bs : List UInt8) : Prop :=
  bs.length ≤ lim ∧ ((v = .slice none 0 0 ∧ bs = []) ∨ ∃ ad cap, v = .slice (some ad) bs.length cap ∧ ∀ j u, (u8s bs)[j]? = some u → w.cell? (ad.add j) = some u)
theorem SlB.toS {w : World} {v : Value} {bs : List UInt8} (h : SlB w v bs) : SlS w v bs := by
  refine ⟨h.1, ?_⟩
  rcases h.2 with hn | ⟨b, o, cap, rfl, h1, h2, h3, h4⟩
  · exact .inl hn
  · exact .inr ⟨_, cap, rfl, SlB.news (cap := cap) h4⟩

/-- 'append(own, b...)': an owned row, and bytes behind it. -/
theorem wpList_appS {P : Program} (w : World) {ops : Array Oper} {rest : List Oper} {o : Oper} {a : Act} {Q : Exit → Act → World → Prop} (hgd : o.guard = none) (s x : Operand) (t : TypeId)
    (ho : o.op = .call { callee := .builtin .append, args := #[s, x], argTypes := #[t, t] })
    (e : TypeId) (i : TypeInfo) (ht : P.underlying t = some (.slice e)) (hi : P.info? e = some i) (hz : i.zero = some (.int .u8 0))
    (hsize : i.size = 1) (hby : i.bytes = 1)
    (v : Value) (xs : List UInt8) (hs : a.eval s = v) (hown : w.ownsRow 0 e 1 v xs.length (u8s xs))
    (u : Value) (bs : List UInt8) (hx : a.eval x = u) (hu : SlS w u bs)
    (hlen : xs.length + bs.length ≤ lim) (ys : List UInt8) (hys : Hid (ys = xs ++ bs))
    (h : ∀ a' n' cap' w', AppPost e w v ys (.slice a' n' cap') w' → Hid (n' = ys.length) → wpList P ops Q rest (a.put o.dst (.slice a' n' cap')) w') : wpList P ops Q (o :: rest) a w := by
  have hys' := hys.out
  subst hys'
  rcases hu.2 with ⟨rfl, rfl⟩ | ⟨ad, cap, rfl, h4⟩
  · refine wpList_plain hgd fun K hK' => ?_
    have hr := run_append_owned_none (P := P) w 0 t o.type e i 1 ht hi v xs.length (u8s xs) hown
    unfold Oper.wp
    simp [execOp, ho, resolve, invoke, builtin, hs, hx, hr, Result.andThen]
    obtain ⟨a', cap', rfl, _, _⟩ := own_shape hown
    have := h a' xs.length cap' w ⟨by simpa using hown, World.grownBy.refl _ _, fun hn _ => by
        have : xs = [] := by simpa using hn
        subst this
        rcases hown.2 with ⟨h, _⟩ | ⟨g, c, cur, h, _⟩
        · simpa using h
        · simp_all, .inl rfl⟩ (by simp [Hid])
    exact hK' _ _ this
  · refine wpList_append_own_at w hgd s x t ho 0 e i (.int .u8 0) 1 1 ht hi hz hsize hby rfl (by decide) v xs.length (u8s xs) hs hown ad bs.length cap (u8s bs) hx (by simp [u8s]) h4 (u8s_one bs) (by unfold lim at hlen; simp only [maxLen]; omega) (by unfold lim at hlen; omega) (Nat.zero_le _) ?_
    intro v' w' hown' hg hn hloc
    have e1 : xs.length + bs.length = (xs ++ bs).length := by simp
    rw [e1, ← u8s_append] at hown'
    obtain ⟨a', cap', rfl, _, _⟩ := own_shape hown'
    refine h a' _ cap' w' ⟨hown', hg, fun q1 q2 => hn.2 ⟨q2, ?_⟩, hloc⟩ rfl
    have := congrArg List.length q1
    simp at this
    simp [this.2]

/-- 'append(own, b...)': an owned row, and bytes behind it. -/
theorem wpList_app {P : Program} (w : World) {ops : Array Oper} {rest : List Oper} {o : Oper} {a : Act} {Q : Exit → Act → World → Prop} (hgd : o.guard = none) (s x : Operand) (t : TypeId)
    (ho : o.op = .call { callee := .builtin .append, args := #[s, x], argTypes := #[t, t] })
    (e : TypeId) (i : TypeInfo) (ht : P.underlying t = some (.slice e)) (hi : P.info? e = some i) (hz : i.zero = some (.int .u8 0))
    (hsize : i.size = 1) (hby : i.bytes = 1)
    (v : Value) (xs : List UInt8) (hs : a.eval s = v) (hown : w.ownsRow 0 e 1 v xs.length (u8s xs))
    (u : Value) (bs : List UInt8) (hx : a.eval x = u) (hu : SlB w u bs)
    (hlen : xs.length + bs.length ≤ lim) (ys : List UInt8) (hys : Hid (ys = xs ++ bs))
    (h : ∀ a' n' cap' w', AppPost e w v ys (.slice a' n' cap') w' → Hid (n' = ys.length) → wpList P ops Q rest (a.put o.dst (.slice a' n' cap')) w') : wpList P ops Q (o :: rest) a w := by
  exact wpList_appS w hgd s x t ho e i ht hi hz hsize hby v xs hs hown u bs hx hu.toS hlen ys hys h

/-- '[]byte(s)'. -/
theorem wpList_bytesOf {P : Program} (w : World) {ops : Array Oper} {rest : List Oper} {o : Oper} {a : Act} {Q : Exit → Act → World → Prop} (hgd : o.guard = none) (x : Operand) (src dst e : TypeId)
    (ho : o.op = .convert src dst x) (hs : P.underlying src = some .string) (hd : P.underlying dst = some (.slice e)) (he : P.underlying e = some (.int .u8))
    (s : ByteArray) (hx : a.eval x = .string s) (hlen : s.data.toList.length ≤ lim)
    (h : ∀ b cap w', SlB w' (.slice (some ⟨b, 0, none⟩) s.data.toList.length cap) s.data.toList → w.heap.size ≤ b → Tch No w w' → wpList P ops Q rest (a.put o.dst (.slice (some ⟨b, 0, none⟩) s.data.toList.length cap)) w') : wpList P ops Q (o :: rest) a w := by
  refine wpList_plain hgd fun K hK' => ?_
  have hr := run_bytes_of_string (P := P) w src dst e s hs hd he
  unfold Oper.wp
  simp [execOp, ho, hx, hr, Result.andThen]
  have hsz : s.size = s.data.toList.length := (Array.length_toList (xs := s.data)).symm
  refine hK' _ _ ?_
  rw [hsz]
  refine h w.heap.size _ _ ⟨hlen, .inr ⟨w.heap.size, 0, _, rfl, ?_, ?_, ?_, ?_⟩⟩ (Nat.le_refl _) ((Tch.drew w).trans0 (Tch.alloc _ _))
  · exact grownCap_ge _ _ _ _
  · exact grownCap_le_maxLen _ _ _ _ (by unfold lim at hlen; simp only [maxLen]; omega)
  · simp
  · intro i hi
    simp only [Nat.zero_add]
    have := World.cell?_alloc_mark w.drew (bytesRow s (grownCap w s.data.toList.length 0 e)) e ((bytesRow s (grownCap w s.data.toList.length 0 e)).size, (bytesRow s (grownCap w s.data.toList.length 0 e)).size + 1) i
    rw [World.size_drew] at this
    rw [this, bytesRow_at s _ i (by simpa using hi)]
    simp

/-- The shape with a length of its own name. -/
theorem own_shape' {w : World} {base : Nat} {e : TypeId} {size : Nat} {v : Value} {n : Nat} {xs : List Value} (h : w.ownsRow base e size v n xs) : ∃ a m cap, v = .slice a m cap ∧ Hid (m = n) := by
  obtain ⟨a, cap, h, _⟩ := own_shape h
  exact ⟨a, n, cap, h, rfl⟩
theorem SlB.shape' {w : World} {v : Value} {bs : List UInt8} (h : SlB w v bs) : ∃ a m cap, v = .slice a m cap ∧ Hid (m = bs.length) := by
  obtain ⟨a, cap, h, _⟩ := h.shape
  exact ⟨a, _, cap, h, rfl⟩
theorem own_tch {F : Nat → Prop} {w w' : World} {base : Nat} {e : TypeId} {size : Nat} {v : Value} {n : Nat} {xs : List Value} (h : w.ownsRow base e size v n xs) (ht : Tch F w w') (hF : ∀ k, v.ownBlock = some k → ¬ F k) : w'.ownsRow base e size v n xs := by
  refine ⟨h.1, ?_⟩
  rcases h.2 with hn | ⟨g, cap, cur, rfl, hb, hgg, r⟩
  · exact .inl hn
  · exact .inr ⟨g, cap, cur, rfl, hb, (ht.block g (Array.getElem?_eq_some_iff.1 hgg).1 (hF g rfl)).trans hgg, r⟩
theorem blk_lt {w : World} {b : Nat} {o : Obj} (h : w.heap[b]? = some o) : b < w.heap.size := (Array.getElem?_eq_some_iff.1 h).1
theorem blk_tch {F : Nat → Prop} {w w' : World} (ht : Tch F w w') {b : Nat} {o : Obj} (h : w.heap[b]? = some o) (hF : ¬ F b) : w'.heap[b]? = some o := (ht.block b (blk_lt h) hF).trans h
/-- A row of cells by its block. -/
theorem blk_cell {w : World} {b : Nat} {cur : Array Value} {e : TypeId} {fr : Nat × Nat} (h : w.heap[b]? = some (.cells cur e fr)) (j : Nat) : w.cell? ⟨b, j, none⟩ = cur[j]? := cell_of_row w b j cur e fr h
theorem blk_free {w : World} {b : Nat} {cur : Array Value} {e : TypeId} (h : w.heap[b]? = some (.cells cur e (0, 0))) (j : Nat) : w.frozen? ⟨b, j, none⟩ = false := frozen_of_row w b j cur e h
theorem blk_set {w : World} {b : Nat} {cur : Array Value} {e : TypeId} (h : w.heap[b]? = some (.cells cur e (0, 0))) (j : Nat) (u : Value) : (w.setCell ⟨b, j, none⟩ u).heap[b]? = some (.cells (cur.setIfInBounds j u) e (0, 0)) := heap_setCell_same w b j cur e u h
theorem blk_new (w : World) (o : Obj) : (w.alloc o).heap[w.heap.size]? = some o := heap_alloc_new w o
/-- What a walk is told of a slice of integers that came in. -/
def IsRow (k : IntKind) (w : World) (a : Option Addr) (len cap : Nat) (zs : List Int) : Prop :=
  (a = none ∧ len = 0 ∧ cap = 0 ∧ zs = []) ∨
  ∃ x, a = some x ∧ len ≤ cap ∧ cap ≤ maxLen ∧ zs.length = cap ∧ (∀ i, i < zs.length → w.cell? (x.add i) = some (.int k (zs.getD i 0))) ∧ ∀ n ∈ zs, (Lit.int k n).wf = true
def bytesOf (zs : List Int) : List UInt8 := zs.map fun z => UInt8.ofNat z.toNat
theorem bytesOf_at {z : Int} (h : (Lit.int .u8 z).wf = true) : ((UInt8.ofNat z.toNat).toNat : Int) = z := by
  have : 0 ≤ z ∧ z < 256 := by
    simp only [Lit.wf, IntKind.min, IntKind.max, IntKind.signed, IntKind.bits] at h
    simp at h; omega
  simp; omega
/-- A front of it. -/
theorem IsRow.front {w : World} {a : Option Addr} {len cap : Nat} {zs : List Int} (h : IsRow .u8 w a len cap zs) (k : Nat) (hk : k ≤ len) (hl : k ≤ lim) : SlS w (.slice a k cap) (bytesOf (zs.take k)) := by
  rcases h with ⟨rfl, rfl, rfl, rfl⟩ | ⟨x, rfl, h1, h2, h3, h4, h5⟩
  · have : k = 0 := by omega
    subst this
    exact ⟨Nat.zero_le _, .inl ⟨rfl, rfl⟩⟩
  · have hlen : (bytesOf (zs.take k)).length = k := by simp [bytesOf]; omega
    refine ⟨by rw [hlen]; exact hl, .inr ⟨x, cap, by rw [hlen], fun j u hu => ?_⟩⟩
    have hj : j < k := by
      have := (List.getElem?_eq_some_iff.1 hu).1
      rw [u8s_length, hlen] at this; exact this
    rw [h4 j (by omega)]
    simp only [u8s, bytesOf, List.getElem?_map, List.getElem?_take, if_pos hj, List.getElem?_eq_getElem (show j < zs.length by omega), Option.map_some, Option.some.injEq] at hu
    rw [← hu, bytesOf_at (h5 _ (List.getElem_mem _)), List.getD_eq_getElem?_getD, List.getElem?_eq_getElem (show j < zs.length by omega)]
    rfl
theorem IsRow.lens {k : IntKind} {w : World} {a : Option Addr} {len cap : Nat} {zs : List Int} (h : IsRow k w a len cap zs) : len ≤ cap ∧ cap ≤ maxLen ∧ zs.length = cap := by
  rcases h with ⟨rfl, rfl, rfl, rfl⟩ | ⟨x, rfl, h1, h2, h3, _⟩
  · exact ⟨Nat.le_refl _, Nat.zero_le _, rfl⟩
  · exact ⟨h1, h2, h3⟩

/-- The one-cell block of an appended byte. -/
theorem SlB.one (w : World) (c : UInt8) (t : TypeId) : SlB (w.alloc (.cells #[.int .u8 (c.toNat : Int)] t)) (.slice (some ⟨w.heap.size, 0, none⟩) 1 1) [c] := by
  refine ⟨by simp [lim], .inr ⟨w.heap.size, 0, 1, rfl, by simp, by simp [maxLen], by simp, fun i hi => ?_⟩⟩
  have : i = 0 := by simpa using hi
  subst this
  simp
/-- A literal's block. -/
theorem SlB.lit (w : World) (C : Array Value) (bs : List UInt8) (n : Nat) (t : TypeId) (fr : Nat × Nat) (hn : bs.length = n) (hC : C = (u8s bs).toArray) (hl : n ≤ lim) : SlB (w.alloc (.cells C t fr)) (.slice (some ⟨w.heap.size, 0, none⟩) n n) bs := by
  subst hn
  refine ⟨hl, .inr ⟨w.heap.size, 0, bs.length, rfl, Nat.le_refl _, by unfold lim at hl; simp only [maxLen]; omega, by simp, fun i hi => ?_⟩⟩
  rw [Nat.zero_add, World.cell?_alloc_mark, hC]
  simp [u8s, List.getElem?_eq_getElem hi]
theorem cal {w : World} {p : Addr} {v : Value} (hc : w.cell? p = some v) : ∀ o, (w.alloc o).cell? p = some v := fun o => (Tch.alloc w o).cell hc (fun h => h)
theorem fal {w : World} {p : Addr} {v : Value} {b : Bool} (hc : w.cell? p = some v) (hf : w.frozen? p = b) : ∀ o, (w.alloc o).frozen? p = b := fun o =>
  (World.frozen?_of_block ((Tch.alloc w o).block p.block (World.block_lt_of_cell? w p hc) (fun h => h))).trans hf
end Go.Proofs.YtcmlgmiomcegeaaGreat
