/- The texts Mem, Ew0, Ew1, Ew2, Ew3, Ew4, Ew5, Ew6, EwM, EwN, one behind the other. No condition. -/
import Derived.Test.YtcmlgmiomcegeaaGreatProg
import Derived.WalkKit
import Derived.WalkSpells
import Derived.WalkLawsBesides
import Derived.Maps.OwnSet
import Derived.Maps.OwnOps
import Derived.Maps.RangeWalk
import Derived.Maps.AppendAt
import Derived.Deep.QuietTactic
import Derived.BigQuiet
import Derived.Deep.DeepFit
import Derived.Lib.Hide
import Derived.Deep.RegionHeld3
import Derived.Lib.AppendZerosOnto
namespace Go.Proofs.YtcmlgmiomcegeaaGreat
open Go.RowKit Go.Maps
set_option linter.unusedVariables false
set_option linter.unusedSimpArgs false

/-- w' is w with new blocks, and with writes to blocks of F alone. -/
structure Tch (F : Nat → Prop) (w w' : World) : Prop where
  os : w'.os = w.os
  tape : w'.tape = w.tape
  output : w'.output = w.output
  size : w.heap.size ≤ w'.heap.size
  block : ∀ k, k < w.heap.size → ¬ F k → w'.heap[k]? = w.heap[k]?

def No : Nat → Prop := fun _ => False

/-- The model's bound on what is appended, behind a name. -/
def lim : Nat := 140737488355328

theorem Tch.refl (F : Nat → Prop) (w : World) : Tch F w w := ⟨rfl, rfl, rfl, Nat.le_refl _, fun _ _ _ => rfl⟩
theorem Tch.trans {F G : Nat → Prop} {a b c : World} (h : Tch F a b) (k : Tch G b c) (hG : ∀ i, i < a.heap.size → G i → F i) : Tch F a c :=
  ⟨k.os.trans h.os, k.tape.trans h.tape, k.output.trans h.output, Nat.le_trans h.size k.size, fun i hi hF =>
    (k.block i (Nat.lt_of_lt_of_le hi h.size) (fun hg => hF (hG i hi hg))).trans (h.block i hi hF)⟩
theorem Tch.trans0 {F : Nat → Prop} {a b c : World} (h : Tch F a b) (k : Tch No b c) : Tch F a c := h.trans k (fun _ _ h => h.elim)
theorem Tch.mono {F G : Nat → Prop} {a b : World} (h : Tch F a b) (hG : ∀ i, i < a.heap.size → F i → G i) : Tch G a b :=
  ⟨h.os, h.tape, h.output, h.size, fun i hi hn => h.block i hi (fun hf => hn (hG i hi hf))⟩
theorem Tch.fresh {F : Nat → Prop} {a b c : World} (h : Tch No a b) (k : Tch F b c) (hF : ∀ i, F i → a.heap.size ≤ i) : Tch No a c :=
  h.trans k (fun i hi hf => by have := hF i hf; omega)
theorem Tch.no {F : Nat → Prop} {a b : World} (h : Tch No a b) : Tch F a b := h.mono (fun _ _ h => h.elim)
theorem Tch.alloc (w : World) (o : Obj) : Tch No w (w.alloc o) :=
  ⟨rfl, rfl, rfl, by simp, fun k hk _ => Below.heap_alloc _ _ _ hk⟩
theorem Tch.drew (w : World) : Tch No w w.drew := ⟨rfl, rfl, rfl, Nat.le_refl _, fun _ _ _ => rfl⟩
theorem Tch.setCell {F : Nat → Prop} (w : World) (p : Addr) (u : Value) (hF : p.block < w.heap.size → F p.block) : Tch F w (w.setCell p u) :=
  ⟨rfl, rfl, rfl, by simp [World.setCell], fun k hk hn => Below.heap_setCell _ _ _ _ (fun e => hn (by subst e; exact hF hk))⟩
theorem Tch.grown {F : Nat → Prop} {w w' : World} {row : Option Nat} (h : w.grownBy w' row) (hr : ∀ k, row = some k → k < w.heap.size → F k) : Tch F w w' :=
  ⟨h.os, h.tape, h.output, h.size, fun k hk hn => h.block k hk (fun e => hn (hr k e.symm hk))⟩
theorem Tch.below {F : Nat → Prop} {w w' : World} (h : Tch F w w') {B : Nat} (hB : B ≤ w.heap.size) (hF : ∀ k, k < w.heap.size → F k → B ≤ k) : Below B w w' :=
  ⟨h.os, h.tape, h.output, h.size, fun k hk => h.block k (by omega) (fun hf => by have := hF k (by omega) hf; omega)⟩
theorem Tch.below0 {w w' : World} (h : Tch No w w') : Below w.heap.size w w' := h.below (Nat.le_refl _) (fun _ _ h => h.elim)
theorem Tch.ofBelow {w w' : World} (h : Below w.heap.size w w') : Tch No w w' := ⟨h.os, h.tape, h.output, h.size, fun k hk _ => h.block k hk⟩
theorem Tch.cell {F : Nat → Prop} {w w' : World} (h : Tch F w w') {p : Addr} {v : Value} (hc : w.cell? p = some v) (hp : ¬ F p.block) : w'.cell? p = some v :=
  (World.cell?_of_block (h.block p.block (World.block_lt_of_cell? w p hc) hp)).trans hc

theorem ret_b {a b : Bool} (h : a = b) : Ending.returned (.bool a) = .returned (.bool b) := by rw [h]
theorem ret_i {k : IntKind} {a b : Int} (h : a = b) : Ending.returned (.int k a) = .returned (.int k b) := by rw [h]
theorem ret_v {a b : Value} (h : a = b) : Ending.returned a = .returned b := by rw [h]

/-- A slice value of bytes that reads as the list bs. -/
def SlB (w : World) (v : Value) (bs : List UInt8) : Prop :=
  bs.length ≤ lim ∧ ((v = .slice none 0 0 ∧ bs = []) ∨
    ∃ b o cap, v = .slice (some ⟨b, o, none⟩) bs.length cap ∧ bs.length ≤ cap ∧ cap ≤ maxLen ∧ b < w.heap.size ∧ ∀ i (h : i < bs.length), w.cell? ⟨b, o + i, none⟩ = some (.int .u8 (bs[i].toNat : Int)))

theorem SlB.keep {w w' : World} {v : Value} {bs : List UInt8} (h : SlB w v bs) (hk : ∀ k, v.ownBlock = some k → w'.heap[k]? = w.heap[k]?) : SlB w' v bs := by
  refine ⟨h.1, ?_⟩
  rcases h.2 with hn | ⟨b, o, cap, rfl, h1, h2, h3, h4⟩
  · exact .inl hn
  · have hb := hk b rfl
    refine .inr ⟨b, o, cap, rfl, h1, h2, ?_, fun i hi => (World.cell?_of_block hb).trans (h4 i hi)⟩
    rcases Nat.lt_or_ge b w'.heap.size with hlt | hge
    · exact hlt
    · rw [Array.getElem?_eq_none hge, Array.getElem?_eq_getElem h3] at hb
      cases hb

theorem SlB.blt {w : World} {v : Value} {bs : List UInt8} (h : SlB w v bs) : ∀ k, v.ownBlock = some k → k < w.heap.size := by
  intro k hk
  rcases h.2 with ⟨rfl, _⟩ | ⟨b, o, cap, rfl, h1, h2, h3, h4⟩
  · simp [Value.ownBlock] at hk
  · simp [Value.ownBlock] at hk; subst hk; exact h3

theorem SlB.tch {F : Nat → Prop} {w w' : World} {v : Value} {bs : List UInt8} (h : SlB w v bs) (ht : Tch F w w') (hF : ∀ k, v.ownBlock = some k → ¬ F k) : SlB w' v bs :=
  h.keep fun k hk => ht.block k (h.blt k hk) (hF k hk)
theorem SlB.tch0 {w w' : World} {v : Value} {bs : List UInt8} (h : SlB w v bs) (ht : Tch No w w') : SlB w' v bs := h.tch ht (fun _ _ h => h)

theorem SlB.nil (w : World) : SlB w (.slice none 0 0) [] := ⟨Nat.zero_le _, .inl ⟨rfl, rfl⟩⟩

/-- The cells of bytes. -/
def u8s (bs : List UInt8) : List Value := bs.map fun c => .int .u8 (c.toNat : Int)
theorem u8s_length (bs : List UInt8) : (u8s bs).length = bs.length := by simp [u8s]
theorem u8s_one (bs : List UInt8) : ∀ u ∈ u8s bs, u.oneCell' = true := by
  intro u hu; simp [u8s] at hu; obtain ⟨c, _, rfl⟩ := hu; rfl
theorem u8s_append (a b : List UInt8) : u8s (a ++ b) = u8s a ++ u8s b := by simp [u8s]

theorem addr_add (b o j : Nat) : (⟨b, o, none⟩ : Addr).add j = ⟨b, o + j, none⟩ := by unfold Addr.add; split <;> simp_all

/-- What the call owns reads as bytes. -/
theorem SlB.ofRow {w : World} {base : Nat} {v : Value} {n : Nat} {bs : List UInt8} {e : TypeId} (h : w.ownsRow base e 1 v n (u8s bs)) (hb : bs.length ≤ lim) : SlB w v bs := by
  have hn : n = bs.length := by have := h.1; rw [u8s_length] at this; omega
  subst hn
  refine ⟨hb, ?_⟩
  rcases h.2 with ⟨rfl, h0⟩ | ⟨g, cap, cur, rfl, hbg, hg, hnc, hcm, hcs, htake⟩
  · exact .inl ⟨rfl, List.eq_nil_of_length_eq_zero h0⟩
  · refine .inr ⟨g, 0, cap, rfl, hnc, hcm, (Array.getElem?_eq_some_iff.1 hg).1, fun i hi => ?_⟩
    have := h.cells (g := g) rfl i (.int .u8 (bs[i].toNat : Int)) (by simp [u8s, List.getElem?_eq_getElem hi])
    rwa [addr_add] at this

/-- The cells, as the laws on append ask for them. -/
theorem SlB.news {w : World} {b o cap : Nat} {bs : List UInt8} (h : ∀ i (h : i < bs.length), w.cell? ⟨b, o + i, none⟩ = some (.int .u8 (bs[i].toNat : Int))) :
    ∀ j u, (u8s bs)[j]? = some u → w.cell? ((⟨b, o, none⟩ : Addr).add j) = some u := by
  intro j u hu
  rw [addr_add]
  have hj : j < bs.length := by
    rcases Nat.lt_or_ge j bs.length with h' | h'
    · exact h'
    · rw [List.getElem?_eq_none (by simpa [u8s] using h')] at hu; cases hu
  rw [h j hj]
  simp [u8s, List.getElem?_eq_getElem hj] at hu
  rw [hu]

/-- 'string(b)'. -/
theorem SlB.str {w : World} {v : Value} {bs : List UInt8} (h : SlB w v bs) {P : Program} {src dst e : TypeId} (hs : P.underlying src = some (.slice e)) (he : P.underlying e = some (.int .u8)) (hd : P.underlying dst = some .string) :
    (convert src dst v).run P w = .ok (.string ⟨bs.toArray⟩) w := by
  rcases h.2 with ⟨rfl, rfl⟩ | ⟨b, o, cap, rfl, h1, h2, h3, h4⟩
  · exact run_convert_bytes_nil w src e hs he 0 0 dst hd
  · exact run_convert_bytes_back w src dst e _ cap bs hs he hd (fun j hj => by rw [addr_add]; exact h4 j hj)

/-- 'len(b)'. -/
theorem SlB.shape {w : World} {v : Value} {bs : List UInt8} (h : SlB w v bs) : ∃ a cap, v = .slice a bs.length cap ∧ bs.length ≤ cap ∧ cap ≤ maxLen := by
  rcases h.2 with ⟨rfl, rfl⟩ | ⟨b, o, cap, rfl, h1, h2, h3, h4⟩
  · exact ⟨none, 0, rfl, by simp, by simp [maxLen]⟩
  · exact ⟨_, cap, rfl, h1, h2⟩

/-- What an append leaves. -/
structure AppPost (e : TypeId) (w : World) (v : Value) (ys : List UInt8) (v' : Value) (w' : World) : Prop where
  own : w'.ownsRow 0 e 1 v' ys.length (u8s ys)
  grow : w.grownBy w' v.ownBlock
  nil : ys = [] → v = .slice none 0 0 → v' = .slice none 0 0
  loc : v'.ownBlock = v.ownBlock ∨ v'.ownBlock = some w.heap.size

theorem own_shape {w : World} {base : Nat} {e : TypeId} {size : Nat} {v : Value} {n : Nat} {xs : List Value} (h : w.ownsRow base e size v n xs) : ∃ a cap, v = .slice a n cap ∧ n ≤ cap ∧ cap ≤ maxLen := by
  rcases h.2 with ⟨rfl, rfl⟩ | ⟨g, cap, cur, rfl, _, _, hnc, hcm, _⟩
  · exact ⟨none, 0, rfl, Nat.le_refl _, by simp [maxLen]⟩
  · exact ⟨_, cap, rfl, hnc, hcm⟩

/-- What may be appended: a slice whose cells read as bytes, wherever an empty one leads. -/
def SlS (w : World) (v : Value) (bs : List UInt8) : Prop :=
  bs.length ≤ lim ∧ ((v = .slice none 0 0 ∧ bs = []) ∨ ∃ ad cap, v = .slice (some ad) bs.length cap ∧ ∀ j u, (u8s bs)[j]? = some u → w.cell? (ad.add j) = some u)
theorem SlB.toS {w : World} {v : Value} {bs : List UInt8} (h : SlB w v bs) : SlS w v bs := by
  refine ⟨h.1, ?_⟩
  rcases h.2 with hn | ⟨b, o, cap, rfl, h1, h2, h3, h4⟩
  · exact .inl hn
  · exact .inr ⟨_, cap, rfl, SlB.news (cap := cap) h4⟩

/-- 'append(own, b...)': an owned row, and bytes behind it. -/
theorem wpList_appS {P : Program} (w : World) {ops : Array Oper} {rest : List Oper} {o : Oper} {a : Act} {Q : Exit → Act → World → Prop} (hgd : o.guard = none) (s x : Operand) (t : TypeId)
    (ho : o.op = .call { callee := .builtin .append, args := #[s, x], argTypes := #[t, t] })
    (e : TypeId) (i : TypeInfo) (ht : P.underlying t = some (.slice e)) (hi : P.info? e = some i) (hz : i.zero = some (.int .u8 0))
    (hsize : i.size = 1) (hby : i.bytes = 1)
    (v : Value) (xs : List UInt8) (hs : a.eval s = v) (hown : w.ownsRow 0 e 1 v xs.length (u8s xs))
    (u : Value) (bs : List UInt8) (hx : a.eval x = u) (hu : SlS w u bs)
    (hlen : xs.length + bs.length ≤ lim) (ys : List UInt8) (hys : Hid (ys = xs ++ bs))
    (h : ∀ a' n' cap' w', AppPost e w v ys (.slice a' n' cap') w' → Hid (n' = ys.length) → wpList P ops Q rest (a.put o.dst (.slice a' n' cap')) w') : wpList P ops Q (o :: rest) a w := by
  have hys' := hys.out
  subst hys'
  rcases hu.2 with ⟨rfl, rfl⟩ | ⟨ad, cap, rfl, h4⟩
  · refine wpList_plain hgd fun K hK' => ?_
    have hr := run_append_owned_none (P := P) w 0 t o.type e i 1 ht hi v xs.length (u8s xs) hown
    unfold Oper.wp
    simp [execOp, ho, resolve, invoke, builtin, hs, hx, hr, Result.andThen]
    obtain ⟨a', cap', rfl, _, _⟩ := own_shape hown
    have := h a' xs.length cap' w ⟨by simpa using hown, World.grownBy.refl _ _, fun hn _ => by
        have : xs = [] := by simpa using hn
        subst this
        rcases hown.2 with ⟨h, _⟩ | ⟨g, c, cur, h, _⟩
        · simpa using h
        · simp_all, .inl rfl⟩ (by simp [Hid])
    exact hK' _ _ this
  · refine wpList_append_own_at w hgd s x t ho 0 e i (.int .u8 0) 1 1 ht hi hz hsize hby rfl (by decide) v xs.length (u8s xs) hs hown ad bs.length cap (u8s bs) hx (by simp [u8s]) h4 (u8s_one bs) (by unfold lim at hlen; simp only [maxLen]; omega) (by unfold lim at hlen; omega) (Nat.zero_le _) ?_
    intro v' w' hown' hg hn hloc
    have e1 : xs.length + bs.length = (xs ++ bs).length := by simp
    rw [e1, ← u8s_append] at hown'
    obtain ⟨a', cap', rfl, _, _⟩ := own_shape hown'
    refine h a' _ cap' w' ⟨hown', hg, fun q1 q2 => hn.2 ⟨q2, ?_⟩, hloc⟩ rfl
    have := congrArg List.length q1
    simp at this
    simp [this.2]

/-- 'append(own, b...)': an owned row, and bytes behind it. -/
theorem wpList_app {P : Program} (w : World) {ops : Array Oper} {rest : List Oper} {o : Oper} {a : Act} {Q : Exit → Act → World → Prop} (hgd : o.guard = none) (s x : Operand) (t : TypeId)
    (ho : o.op = .call { callee := .builtin .append, args := #[s, x], argTypes := #[t, t] })
    (e : TypeId) (i : TypeInfo) (ht : P.underlying t = some (.slice e)) (hi : P.info? e = some i) (hz : i.zero = some (.int .u8 0))
    (hsize : i.size = 1) (hby : i.bytes = 1)
    (v : Value) (xs : List UInt8) (hs : a.eval s = v) (hown : w.ownsRow 0 e 1 v xs.length (u8s xs))
    (u : Value) (bs : List UInt8) (hx : a.eval x = u) (hu : SlB w u bs)
    (hlen : xs.length + bs.length ≤ lim) (ys : List UInt8) (hys : Hid (ys = xs ++ bs))
    (h : ∀ a' n' cap' w', AppPost e w v ys (.slice a' n' cap') w' → Hid (n' = ys.length) → wpList P ops Q rest (a.put o.dst (.slice a' n' cap')) w') : wpList P ops Q (o :: rest) a w := by
  exact wpList_appS w hgd s x t ho e i ht hi hz hsize hby v xs hs hown u bs hx hu.toS hlen ys hys h

/-- '[]byte(s)'. -/
theorem wpList_bytesOf {P : Program} (w : World) {ops : Array Oper} {rest : List Oper} {o : Oper} {a : Act} {Q : Exit → Act → World → Prop} (hgd : o.guard = none) (x : Operand) (src dst e : TypeId)
    (ho : o.op = .convert src dst x) (hs : P.underlying src = some .string) (hd : P.underlying dst = some (.slice e)) (he : P.underlying e = some (.int .u8))
    (s : ByteArray) (hx : a.eval x = .string s) (hlen : s.data.toList.length ≤ lim)
    (h : ∀ b cap w', SlB w' (.slice (some ⟨b, 0, none⟩) s.data.toList.length cap) s.data.toList → w.heap.size ≤ b → Tch No w w' → wpList P ops Q rest (a.put o.dst (.slice (some ⟨b, 0, none⟩) s.data.toList.length cap)) w') : wpList P ops Q (o :: rest) a w := by
  refine wpList_plain hgd fun K hK' => ?_
  have hr := run_bytes_of_string (P := P) w src dst e s hs hd he
  unfold Oper.wp
  simp [execOp, ho, hx, hr, Result.andThen]
  have hsz : s.size = s.data.toList.length := (Array.length_toList (xs := s.data)).symm
  refine hK' _ _ ?_
  rw [hsz]
  refine h w.heap.size _ _ ⟨hlen, .inr ⟨w.heap.size, 0, _, rfl, ?_, ?_, ?_, ?_⟩⟩ (Nat.le_refl _) ((Tch.drew w).trans0 (Tch.alloc _ _))
  · exact grownCap_ge _ _ _ _
  · exact grownCap_le_maxLen _ _ _ _ (by unfold lim at hlen; simp only [maxLen]; omega)
  · simp
  · intro i hi
    simp only [Nat.zero_add]
    have := World.cell?_alloc_mark w.drew (bytesRow s (grownCap w s.data.toList.length 0 e)) e ((bytesRow s (grownCap w s.data.toList.length 0 e)).size, (bytesRow s (grownCap w s.data.toList.length 0 e)).size + 1) i
    rw [World.size_drew] at this
    rw [this, bytesRow_at s _ i (by simpa using hi)]
    simp

/-- The shape with a length of its own name. -/
theorem own_shape' {w : World} {base : Nat} {e : TypeId} {size : Nat} {v : Value} {n : Nat} {xs : List Value} (h : w.ownsRow base e size v n xs) : ∃ a m cap, v = .slice a m cap ∧ Hid (m = n) := by
  obtain ⟨a, cap, h, _⟩ := own_shape h
  exact ⟨a, n, cap, h, rfl⟩
theorem SlB.shape' {w : World} {v : Value} {bs : List UInt8} (h : SlB w v bs) : ∃ a m cap, v = .slice a m cap ∧ Hid (m = bs.length) := by
  obtain ⟨a, cap, h, _⟩ := h.shape
  exact ⟨a, _, cap, h, rfl⟩
theorem own_tch {F : Nat → Prop} {w w' : World} {base : Nat} {e : TypeId} {size : Nat} {v : Value} {n : Nat} {xs : List Value} (h : w.ownsRow base e size v n xs) (ht : Tch F w w') (hF : ∀ k, v.ownBlock = some k → ¬ F k) : w'.ownsRow base e size v n xs := by
  refine ⟨h.1, ?_⟩
  rcases h.2 with hn | ⟨g, cap, cur, rfl, hb, hgg, r⟩
  · exact .inl hn
  · exact .inr ⟨g, cap, cur, rfl, hb, (ht.block g (Array.getElem?_eq_some_iff.1 hgg).1 (hF g rfl)).trans hgg, r⟩
theorem blk_lt {w : World} {b : Nat} {o : Obj} (h : w.heap[b]? = some o) : b < w.heap.size := (Array.getElem?_eq_some_iff.1 h).1
theorem blk_tch {F : Nat → Prop} {w w' : World} (ht : Tch F w w') {b : Nat} {o : Obj} (h : w.heap[b]? = some o) (hF : ¬ F b) : w'.heap[b]? = some o := (ht.block b (blk_lt h) hF).trans h
/-- A row of cells by its block. -/
theorem blk_cell {w : World} {b : Nat} {cur : Array Value} {e : TypeId} {fr : Nat × Nat} (h : w.heap[b]? = some (.cells cur e fr)) (j : Nat) : w.cell? ⟨b, j, none⟩ = cur[j]? := cell_of_row w b j cur e fr h
theorem blk_free {w : World} {b : Nat} {cur : Array Value} {e : TypeId} (h : w.heap[b]? = some (.cells cur e (0, 0))) (j : Nat) : w.frozen? ⟨b, j, none⟩ = false := frozen_of_row w b j cur e h
theorem blk_set {w : World} {b : Nat} {cur : Array Value} {e : TypeId} (h : w.heap[b]? = some (.cells cur e (0, 0))) (j : Nat) (u : Value) : (w.setCell ⟨b, j, none⟩ u).heap[b]? = some (.cells (cur.setIfInBounds j u) e (0, 0)) := heap_setCell_same w b j cur e u h
theorem blk_new (w : World) (o : Obj) : (w.alloc o).heap[w.heap.size]? = some o := heap_alloc_new w o
/-- What a walk is told of a slice of integers that came in. -/
def IsRow (k : IntKind) (w : World) (a : Option Addr) (len cap : Nat) (zs : List Int) : Prop :=
  (a = none ∧ len = 0 ∧ cap = 0 ∧ zs = []) ∨
  ∃ x, a = some x ∧ len ≤ cap ∧ cap ≤ maxLen ∧ zs.length = cap ∧ (∀ i, i < zs.length → w.cell? (x.add i) = some (.int k (zs.getD i 0))) ∧ ∀ n ∈ zs, (Lit.int k n).wf = true
def bytesOf (zs : List Int) : List UInt8 := zs.map fun z => UInt8.ofNat z.toNat
theorem bytesOf_at {z : Int} (h : (Lit.int .u8 z).wf = true) : ((UInt8.ofNat z.toNat).toNat : Int) = z := by
  have : 0 ≤ z ∧ z < 256 := by
    simp only [Lit.wf, IntKind.min, IntKind.max, IntKind.signed, IntKind.bits] at h
    simp at h; omega
  simp; omega
/-- A front of it. -/
theorem IsRow.front {w : World} {a : Option Addr} {len cap : Nat} {zs : List Int} (h : IsRow .u8 w a len cap zs) (k : Nat) (hk : k ≤ len) (hl : k ≤ lim) : SlS w (.slice a k cap) (bytesOf (zs.take k)) := by
  rcases h with ⟨rfl, rfl, rfl, rfl⟩ | ⟨x, rfl, h1, h2, h3, h4, h5⟩
  · have : k = 0 := by omega
    subst this
    exact ⟨Nat.zero_le _, .inl ⟨rfl, rfl⟩⟩
  · have hlen : (bytesOf (zs.take k)).length = k := by simp [bytesOf]; omega
    refine ⟨by rw [hlen]; exact hl, .inr ⟨x, cap, by rw [hlen], fun j u hu => ?_⟩⟩
    have hj : j < k := by
      have := (List.getElem?_eq_some_iff.1 hu).1
      rw [u8s_length, hlen] at this; exact this
    rw [h4 j (by omega)]
    simp only [u8s, bytesOf, List.getElem?_map, List.getElem?_take, if_pos hj, List.getElem?_eq_getElem (show j < zs.length by omega), Option.map_some, Option.some.injEq] at hu
    rw [← hu, bytesOf_at (h5 _ (List.getElem_mem _)), List.getD_eq_getElem?_getD, List.getElem?_eq_getElem (show j < zs.length by omega)]
    rfl
theorem IsRow.lens {k : IntKind} {w : World} {a : Option Addr} {len cap : Nat} {zs : List Int} (h : IsRow k w a len cap zs) : len ≤ cap ∧ cap ≤ maxLen ∧ zs.length = cap := by
  rcases h with ⟨rfl, rfl, rfl, rfl⟩ | ⟨x, rfl, h1, h2, h3, _⟩
  · exact ⟨Nat.le_refl _, Nat.zero_le _, rfl⟩
  · exact ⟨h1, h2, h3⟩

/-- The one-cell block of an appended byte. -/
theorem SlB.one (w : World) (c : UInt8) (t : TypeId) : SlB (w.alloc (.cells #[.int .u8 (c.toNat : Int)] t)) (.slice (some ⟨w.heap.size, 0, none⟩) 1 1) [c] := by
  refine ⟨by simp [lim], .inr ⟨w.heap.size, 0, 1, rfl, by simp, by simp [maxLen], by simp, fun i hi => ?_⟩⟩
  have : i = 0 := by simpa using hi
  subst this
  simp
/-- A literal's block. -/
theorem SlB.lit (w : World) (C : Array Value) (bs : List UInt8) (n : Nat) (t : TypeId) (fr : Nat × Nat) (hn : bs.length = n) (hC : C = (u8s bs).toArray) (hl : n ≤ lim) : SlB (w.alloc (.cells C t fr)) (.slice (some ⟨w.heap.size, 0, none⟩) n n) bs := by
  subst hn
  refine ⟨hl, .inr ⟨w.heap.size, 0, bs.length, rfl, Nat.le_refl _, by unfold lim at hl; simp only [maxLen]; omega, by simp, fun i hi => ?_⟩⟩
  rw [Nat.zero_add, World.cell?_alloc_mark, hC]
  simp [u8s, List.getElem?_eq_getElem hi]
theorem cal {w : World} {p : Addr} {v : Value} (hc : w.cell? p = some v) : ∀ o, (w.alloc o).cell? p = some v := fun o => (Tch.alloc w o).cell hc (fun h => h)
theorem fal {w : World} {p : Addr} {v : Value} {b : Bool} (hc : w.cell? p = some v) (hf : w.frozen? p = b) : ∀ o, (w.alloc o).frozen? p = b := fun o =>
  (World.frozen?_of_block ((Tch.alloc w o).block p.block (World.block_lt_of_cell? w p hc) (fun h => h))).trans hf
end Go.Proofs.YtcmlgmiomcegeaaGreat
namespace Go.Proofs.YtcmlgmiomcegeaaGreat.Ev
open Go Go.RowKit Go.Maps
set_option linter.unusedVariables false
set_option linter.unusedSimpArgs false
set_option linter.unusedSectionVars false

/-- Values from outside, by numbers: nothing is known of them but that they are of one cell. -/
class Env where
  val : Nat → Value
  one : ∀ j, (val j).oneCell' = true
  row : Nat → Addr
  num : Nat → Bool
  isNum : ∀ j, num j = true → ∃ n, val j = .int .i64 n
  nei : Nat → Int → Bool
  isNei : ∀ j y, nei j y = true → ∃ n, val j = .int .i64 n ∧ n ≠ y
/-- Values from outside of which nothing is known. -/
@[reducible] def envV (val : Nat → Value) (one : ∀ j, (val j).oneCell' = true) (row : Nat → Addr) : Env := ⟨val, one, row, fun _ => false, fun _ h => (by cases h), fun _ _ => false, fun _ _ h => (by cases h)⟩
variable [Env]
/-- A capacity: known, or to the end of the object (elements of so many cells). -/
inductive Cp | ex (c : Nat) | op (sz : Nat)
/-- A value of one cell: places are (object, offset). -/
inductive C
  | bool (b : Bool) | int (k : IntKind) (n : Int) | str (s : List UInt8)
  | ptr (i off : Nat) | nilp | sl (i off len : Nat) (c : Cp) | snil | se
  | fn (f : FuncId) (cap : List (Nat × Nat)) | nilf | map (i : Nat) | mapn | nilI | bm (f : FuncId) (i off : Nat) | ch (i : Nat) | ext (j : Nat) | sg (i m : Nat) (ex : Bool) | xp (i k : Nat) | ge (m : Int) | ub | chn
inductive V | c (x : C) | agg (l : List C)
inductive S | v (x : V) | tup (l : List V) | un
/-- Where an object lies: block, how many cells it has. -/
structure Blk where
  b : Nat
  t : Nat
/-- Cells that may be written; cells that are only read; a map, each entry with its stamp, and its clock; one that goes over a map; a channel that is open; a row from outside: its first m elements are the values from f on. -/
inductive Kd | ok | rd | mp (es : List (C × V × Nat)) (cl : Nat) | it (m since : Nat) (seen : List Nat) (last : Nat) | ch (room : Nat) (buf : List V) | row (f m : Nat)
/-- An object: its cells, as far as they are known; open: there may be more. -/
structure AO where
  ty : TypeId
  cs : List C
  opn : Bool
  k : Kd
def AO.fz (o : AO) : Bool := match o.k with | .ok => false | _ => true
abbrev Heap := Nat → Option AO

def adr (k : Blk) (off : Nat) : Addr := ⟨k.b, off, none⟩
def RC (σ : Nat → Blk) (D : Nat → Prop) : C → Value → Prop
  | .bool b, v => v = .bool b
  | .int k n, v => v = .int k n
  | .str s, v => v = .string ⟨s.toArray⟩
  | .ptr i off, v => D i ∧ v = .pointer (some (adr (σ i) off))
  | .nilp, v => v = .pointer none
  | .sl i off len (.ex c), v => D i ∧ v = .slice (some (adr (σ i) off)) len c
  | .sl i off len (.op sz), v => D i ∧ ∃ c, v = .slice (some (adr (σ i) off)) len c ∧ len ≤ c ∧ c ≤ maxLen ∧ off + c * sz = (σ i).t
  | .snil, v => v = .slice none 0 0
  | .se, v => ∃ a c, v = .slice a 0 c
  | .fn f cap, v => (∀ p ∈ cap, D p.1) ∧ v = .func (.func f) #[] ((cap.map fun p => Value.pointer (some (adr (σ p.1) p.2))).toArray)
  | .nilf, v => v = .nilFunc
  | .map i, v => D i ∧ v = .map (some (σ i).b)
  | .mapn, v => v = .map none
  | .nilI, v => v = .nilIface
  | .bm f i off, v => D i ∧ v = .func (.func f) #[.pointer (some (adr (σ i) off))] #[]
  | .ch i, v => D i ∧ v = .chan (some (σ i).b)
  | .ext j, v => v = Env.val j
  | .sg i m ex, v => D i ∧ (Env.row i).block = (σ i).b ∧ ∃ len c, v = .slice (some (Env.row i)) len c ∧ m ≤ len ∧ (ex = true → len = m)
  | .xp i k, v => D i ∧ (Env.row i).block = (σ i).b ∧ v = .pointer (some ((Env.row i).add k))
  | .ge m, v => ∃ x, v = .int .i64 x ∧ m ≤ x
  | .ub, v => ∃ b, v = .bool b
  | .chn, v => v = .chan none
def RL (σ : Nat → Blk) (D : Nat → Prop) : List C → List Value → Prop
  | [], [] => True
  | c :: l, v :: m => RC σ D c v ∧ RL σ D l m
  | _, _ => False
def RV (σ : Nat → Blk) (D : Nat → Prop) : V → Value → Prop
  | .c x, v => RC σ D x v
  | .agg l, v => ∃ m, RL σ D l m ∧ v = .agg m.toArray
def RVL (σ : Nat → Blk) (D : Nat → Prop) : List V → List Value → Prop
  | [], [] => True
  | c :: l, v :: m => RV σ D c v ∧ RVL σ D l m
  | _, _ => False
def RS (σ : Nat → Blk) (D : Nat → Prop) : S → Value → Prop
  | .v x, v => RV σ D x v
  | .tup l, v => ∃ m, RVL σ D l m ∧ v = .tuple m.toArray
  | .un, v => v = undef

section
variable {σ σ' : Nat → Blk} {D D' : Nat → Prop}
theorem RC.ext {c : C} {v : Value} (h : RC σ D c v) (hs : ∀ i, D i → σ' i = σ i) (hD : ∀ i, D i → D' i) : RC σ' D' c v := by
  cases c with
  | ptr i off => obtain ⟨h1, h2⟩ := h; exact ⟨hD i h1, by rw [hs i h1]; exact h2⟩
  | map i => obtain ⟨h1, h2⟩ := h; exact ⟨hD i h1, by rw [hs i h1]; exact h2⟩
  | bm f i off => obtain ⟨h1, h2⟩ := h; exact ⟨hD i h1, by rw [hs i h1]; exact h2⟩
  | ch i => obtain ⟨h1, h2⟩ := h; exact ⟨hD i h1, by rw [hs i h1]; exact h2⟩
  | sg i m ex => obtain ⟨h1, h2⟩ := h; exact ⟨hD i h1, by rw [hs i h1]; exact h2⟩
  | xp i k => obtain ⟨h1, h2⟩ := h; exact ⟨hD i h1, by rw [hs i h1]; exact h2⟩
  | sl i off len cp =>
    cases cp with
    | ex c => obtain ⟨h1, h2⟩ := h; exact ⟨hD i h1, by rw [hs i h1]; exact h2⟩
    | op sz => obtain ⟨h1, h2⟩ := h; exact ⟨hD i h1, by rw [hs i h1]; exact h2⟩
  | fn f cap =>
    obtain ⟨h1, h2⟩ := h
    refine ⟨fun p hp => hD _ (h1 p hp), ?_⟩
    rw [h2]
    congr 2
    apply List.map_congr_left
    intro p hp
    rw [hs _ (h1 p hp)]
  | _ => exact h
theorem RL.ext : ∀ {l : List C} {m : List Value}, RL σ D l m → (∀ i, D i → σ' i = σ i) → (∀ i, D i → D' i) → RL σ' D' l m
  | [], [], _, _, _ => trivial
  | _ :: _, _ :: _, h, hs, hD => ⟨h.1.ext hs hD, h.2.ext hs hD⟩
theorem RV.ext {x : V} {v : Value} (h : RV σ D x v) (hs : ∀ i, D i → σ' i = σ i) (hD : ∀ i, D i → D' i) : RV σ' D' x v := by
  cases x with
  | c x => exact RC.ext h hs hD
  | agg l => obtain ⟨m, h1, h2⟩ := h; exact ⟨m, h1.ext hs hD, h2⟩
theorem RVL.ext : ∀ {l : List V} {m : List Value}, RVL σ D l m → (∀ i, D i → σ' i = σ i) → (∀ i, D i → D' i) → RVL σ' D' l m
  | [], [], _, _, _ => trivial
  | _ :: _, _ :: _, h, hs, hD => ⟨h.1.ext hs hD, h.2.ext hs hD⟩
theorem RS.ext {x : S} {v : Value} (h : RS σ D x v) (hs : ∀ i, D i → σ' i = σ i) (hD : ∀ i, D i → D' i) : RS σ' D' x v := by
  cases x with
  | v x => exact RV.ext h hs hD
  | tup l => obtain ⟨m, h1, h2⟩ := h; exact ⟨m, h1.ext hs hD, h2⟩
  | un => exact h
theorem RC.one {c : C} {v : Value} (h : RC σ D c v) : v.oneCell' = true := by
  cases c with
  | sl i off len cp =>
    cases cp with
    | ex c => obtain ⟨_, rfl⟩ := h; rfl
    | op sz => obtain ⟨_, c, rfl, _⟩ := h; rfl
  | ptr i off => obtain ⟨_, rfl⟩ := h; rfl
  | map i => obtain ⟨_, rfl⟩ := h; rfl
  | bm f i off => obtain ⟨_, rfl⟩ := h; rfl
  | ch i => obtain ⟨_, rfl⟩ := h; rfl
  | ext j => rw [show v = Env.val j from h]; exact Env.one j
  | sg i m ex => obtain ⟨_, _, _, _, rfl, _⟩ := h; rfl
  | xp i k => obtain ⟨_, _, rfl⟩ := h; rfl
  | ge m => obtain ⟨_, rfl, _⟩ := h; rfl
  | ub => obtain ⟨_, rfl⟩ := h; rfl
  | fn f cap => obtain ⟨_, rfl⟩ := h; rfl
  | se => obtain ⟨_, _, rfl⟩ := h; rfl
  | _ => (cases h; rfl)
theorem RL.length : ∀ {l : List C} {m : List Value}, RL σ D l m → m.length = l.length
  | [], [], _ => rfl
  | _ :: _, _ :: _, h => by rw [List.length_cons, List.length_cons, h.2.length]
theorem RL.get : ∀ {l : List C} {m : List Value} {j : Nat} {c : C}, RL σ D l m → l[j]? = some c → ∃ v, m[j]? = some v ∧ RC σ D c v
  | [], [], _, _, _, e => by cases e
  | a :: l, v :: m, 0, c, h, e => by
    rw [List.getElem?_cons_zero] at e
    cases e
    exact ⟨v, rfl, h.1⟩
  | a :: l, v :: m, j + 1, c, h, e => h.2.get (by simpa using e)
theorem RL.of : ∀ {l : List C} {m : List Value}, m.length = l.length → (∀ (j : Nat) (c : C), l[j]? = some c → ∃ v, m[j]? = some v ∧ RC σ D c v) → RL σ D l m
  | [], [], _, _ => trivial
  | [], _ :: _, h, _ => by simp at h
  | _ :: _, [], h, _ => by simp at h
  | a :: l, v :: m, h, g => by
    refine ⟨?_, RL.of (by simpa using h) (fun j c e => ?_)⟩
    · obtain ⟨v', h1, h2⟩ := g 0 a rfl
      rw [List.getElem?_cons_zero] at h1
      cases h1; exact h2
    · have := g (j + 1) c (by simpa using e)
      simpa using this
end

/-- A map's entries. -/
def RM (σ : Nat → Blk) (D : Nat → Prop) : List (C × V × Nat) → List MapEntry → Prop
  | [], [] => True
  | a :: l, b :: m => (RC σ D a.1 b.key ∧ RV σ D a.2.1 b.val ∧ b.born = a.2.2) ∧ RM σ D l m
  | _, _ => False
theorem RM.ext {σ σ' : Nat → Blk} {D D' : Nat → Prop} : ∀ {l : List (C × V × Nat)} {m : List MapEntry}, RM σ D l m → (∀ i, D i → σ' i = σ i) → (∀ i, D i → D' i) → RM σ' D' l m
  | [], [], _, _, _ => trivial
  | _ :: _, _ :: _, h, hs, hD => ⟨⟨h.1.1.ext hs hD, h.1.2.1.ext hs hD, h.1.2.2⟩, h.2.ext hs hD⟩
/-- An object of cells as it lies in the world. -/
def ObjCells (σ : Nat → Blk) (D : Nat → Prop) (i : Nat) (o : AO) (w : World) : Prop :=
  ∃ (cur : Array Value) (fr : Nat × Nat), w.heap[(σ i).b]? = some (.cells cur o.ty fr) ∧ (o.fz = false → fr = (0, 0)) ∧ cur.size = (σ i).t ∧ o.cs.length ≤ (σ i).t ∧ (o.opn = false → o.cs.length = (σ i).t) ∧
    ∀ (j : Nat) (c : C), o.cs[j]? = some c → ∃ v, cur[j]? = some v ∧ RC σ D c v
def ObjMap (σ : Nat → Blk) (D : Nat → Prop) (i : Nat) (es : List (C × V × Nat)) (cl : Nat) (w : World) : Prop := ∃ m : Array MapEntry, w.heap[(σ i).b]? = some (.map m cl) ∧ RM σ D es m.toList
def ObjIter (σ : Nat → Blk) (D : Nat → Prop) (i m since : Nat) (seen : List Nat) (last : Nat) (w : World) : Prop := D m ∧ w.heap[(σ i).b]? = some (.mapIter (some (σ m).b) since seen.toArray last)
def ObjChan (σ : Nat → Blk) (D : Nat → Prop) (i room : Nat) (buf : List V) (w : World) : Prop := ∃ (vs : List Value) (s r : Nat), w.heap[(σ i).b]? = some (.chan room vs.toArray false s r false) ∧ RVL σ D buf vs
theorem cell_congr {w w' : World} {a : Addr} (h : w'.heap[a.block]? = w.heap[a.block]?) : w'.cell? a = w.cell? a := by unfold World.cell?; rw [h]
theorem add_block (a : Addr) (k : Nat) : (a.add k).block = a.block := by unfold Addr.add; split <;> rfl
def ObjRow (σ : Nat → Blk) (i f m : Nat) (w : World) : Prop := (Env.row i).block = (σ i).b ∧ (∃ x, w.heap[(σ i).b]? = some x) ∧ ∀ k, k < m → w.cell? ((Env.row i).add k) = some (Env.val (f + k))
/-- An object as it lies in the world. -/
def ObjAt (σ : Nat → Blk) (D : Nat → Prop) (i : Nat) (o : AO) (w : World) : Prop := match o.k with
  | .mp es cl => o.cs = [] ∧ ObjMap σ D i es cl w
  | .it m since seen last => o.cs = [] ∧ ObjIter σ D i m since seen last w
  | .ch room buf => o.cs = [] ∧ ObjChan σ D i room buf w
  | .row f m => o.cs = [] ∧ ObjRow σ i f m w
  | _ => ObjCells σ D i o w
theorem ObjAt.ok {σ : Nat → Blk} {D : Nat → Prop} {i : Nat} {o : AO} {w : World} (h : ObjAt σ D i o w) (hf : o.fz = false) : ObjCells σ D i o w := by
  unfold ObjAt at h
  unfold AO.fz at hf
  split at h
  · rename_i e; rw [e] at hf; cases hf
  · rename_i e; rw [e] at hf; cases hf
  · rename_i e; rw [e] at hf; cases hf
  · rename_i e; rw [e] at hf; cases hf
  · exact h
theorem ObjAt.either {σ : Nat → Blk} {D : Nat → Prop} {i : Nat} {o : AO} {w : World} (h : ObjAt σ D i o w) : o.cs = [] ∨ ObjCells σ D i o w := by
  unfold ObjAt at h
  split at h
  · exact .inl h.1
  · exact .inl h.1
  · exact .inl h.1
  · exact .inl h.1
  · exact .inr h
structure Sat (σ : Nat → Blk) (D : Nat → Prop) (h : Heap) (w : World) : Prop where
  obj : ∀ i o, h i = some o → D i ∧ ObjAt σ D i o w
  inj : ∀ i j, (h i).isSome = true → (h j).isSome = true → (σ i).b = (σ j).b → i = j
def rst (F : Nat → Bool) (h : Heap) : Heap := fun i => if F i then h i else none
/-- What lies behind a piece of a run that looks at F alone and makes what is numbered from n to n'. -/
def upd (F : Nat → Bool) (n n' : Nat) (h g : Heap) : Heap := fun i => if F i || (decide (n ≤ i) && decide (i < n')) then g i else h i
def more (D : Nat → Prop) (n n' : Nat) : Nat → Prop := fun i => D i ∨ (n ≤ i ∧ i < n')
/-- What a piece of a run leaves: h ahead, h' behind; W: what it writes. -/
structure Out (σ : Nat → Blk) (D : Nat → Prop) (w : World) (h h' : Heap) (n n' : Nat) (W : Nat → Bool) (σ' : Nat → Blk) (w' : World) : Prop where
  same : ∀ i, ¬ (n ≤ i ∧ i < n') → σ' i = σ i
  sat : Sat σ' (more D n n') h' w'
  tch : Tch (fun k => ∃ i, W i = true ∧ (h i).isSome = true ∧ k = (σ i).b) w w'
  old : ∀ i, ¬ (n ≤ i ∧ i < n') → (h' i).isSome = true → (h i).isSome = true
  new : ∀ i, n ≤ i → i < n' → (h' i).isSome = true → w.heap.size ≤ (σ' i).b ∨ ∃ j, W j = true ∧ (h j).isSome = true ∧ h' j = none ∧ (σ' i).b = (σ j).b
theorem ObjAt.lt {σ : Nat → Blk} {D : Nat → Prop} {i : Nat} {o : AO} {w : World} (h : ObjAt σ D i o w) : (σ i).b < w.heap.size := by
  unfold ObjAt at h
  split at h
  · obtain ⟨_, m, h1, _⟩ := h
    exact (Array.getElem?_eq_some_iff.1 h1).1
  · obtain ⟨_, _, h1⟩ := h
    exact (Array.getElem?_eq_some_iff.1 h1).1
  · obtain ⟨_, vs, s, r, h1, _⟩ := h
    exact (Array.getElem?_eq_some_iff.1 h1).1
  · obtain ⟨_, _, ⟨x, h1⟩, _⟩ := h
    exact (Array.getElem?_eq_some_iff.1 h1).1
  · obtain ⟨cur, fr, h1, _⟩ := h
    exact (Array.getElem?_eq_some_iff.1 h1).1
theorem ObjAt.ext {σ σ' : Nat → Blk} {D D' : Nat → Prop} {i : Nat} {o : AO} {w w' : World} (h : ObjAt σ D i o w) (hi : σ' i = σ i) (hb : w'.heap[(σ i).b]? = w.heap[(σ i).b]?) (hs : ∀ i, D i → σ' i = σ i) (hD : ∀ i, D i → D' i) : ObjAt σ' D' i o w' := by
  unfold ObjAt at h ⊢
  split at h
  · obtain ⟨h0, m, h1, h2⟩ := h
    exact ⟨h0, m, by rw [hi, hb]; exact h1, h2.ext hs hD⟩
  · obtain ⟨h0, h2, h1⟩ := h
    exact ⟨h0, hD _ h2, by rw [hi, hb, hs _ h2]; exact h1⟩
  · obtain ⟨h0, vs, s, r, h1, h2⟩ := h
    exact ⟨h0, vs, s, r, by rw [hi, hb]; exact h1, h2.ext hs hD⟩
  · obtain ⟨h0, h1, h2, h3⟩ := h
    exact ⟨h0, by rw [hi]; exact h1, by rw [hi, hb]; exact h2, fun k hk => by rw [cell_congr (w := w) (by rw [add_block, h1, hb])]; exact h3 k hk⟩
  · obtain ⟨cur, fr, h1, h0, h2, h3, h4, h5⟩ := h
    refine ⟨cur, fr, by rw [hi, hb]; exact h1, h0, by rw [hi]; exact h2, by rw [hi]; exact h3, by rw [hi]; exact h4, fun j c e => ?_⟩
    obtain ⟨v, g1, g2⟩ := h5 j c e
    exact ⟨v, g1, g2.ext hs hD⟩
/-- The rest stays. -/
theorem frame {σ σ' : Nat → Blk} {D : Nat → Prop} {w w' : World} {h g g' : Heap} {n n' : Nat} {F W : Nat → Bool} (hs : Sat σ D h w) (hF : ∀ i, F i = true → g i = h i) (hg : ∀ i, F i = false → g i = none) (hD : ∀ i, n ≤ i → i < n' → ¬ D i)
    (ho : Out σ D w g g' n n' W σ' w') (hW : ∀ i, W i = true → F i = true) : Out σ D w h (upd F n n' h g') n n' W σ' w' := by
  have hsame : ∀ i, D i → σ' i = σ i := fun i hi => ho.same i (fun ⟨a, b⟩ => hD i a b hi)
  have hgs : ∀ i, (g i).isSome = true → (h i).isSome = true := fun i hi => by
    cases e : F i with
    | false => rw [hg i e] at hi; cases hi
    | true => rw [← hF i e]; exact hi
  have hrest : ∀ i, F i = false → (h i).isSome = true → w'.heap[(σ i).b]? = w.heap[(σ i).b]? := fun i hi hh => by
    obtain ⟨o, ho1⟩ := Option.isSome_iff_exists.1 hh
    obtain ⟨hDi, hoi⟩ := hs.obj i o ho1
    refine ho.tch.block _ hoi.lt ?_
    rintro ⟨j, h1, h2, h3⟩
    have := hs.inj i j hh (hgs j h2) h3
    subst this
    rw [hW i h1] at hi; cases hi
  have hne : ∀ i, (h i).isSome = true → ¬ (n ≤ i ∧ i < n') := fun i hh ⟨a, b⟩ => by
    obtain ⟨o, ho1⟩ := Option.isSome_iff_exists.1 hh
    exact hD i a b (hs.obj i o ho1).1
  refine ⟨ho.same, ⟨fun i o e => ?_, fun i j hi hj e => ?_⟩, ho.tch.mono (fun k _ ⟨i, a, b, c⟩ => ⟨i, a, hgs i b, c⟩), ?_, ?_⟩
  · unfold upd at e
    by_cases c : (F i || (decide (n ≤ i) && decide (i < n'))) = true
    · rw [if_pos c] at e; exact ho.sat.obj i o e
    · rw [if_neg c] at e
      have hFi : F i = false := by cases e2 : F i with | false => rfl | true => simp [e2] at c
      obtain ⟨h1, h2⟩ := hs.obj i o e
      exact ⟨.inl h1, h2.ext (hsame i h1) (hrest i hFi (by rw [e]; rfl)) hsame (fun _ x => .inl x)⟩
  · -- no two in one block
    have key : ∀ i j, (upd F n n' h g' i).isSome = true → (F i || (decide (n ≤ i) && decide (i < n'))) = true → (h j).isSome = true → (F j || (decide (n ≤ j) && decide (j < n'))) ≠ true → (σ' i).b = (σ' j).b → False := by
      intro i j hi ci hj cj e
      unfold upd at hi; rw [if_pos ci] at hi
      obtain ⟨oj, hoj⟩ := Option.isSome_iff_exists.1 hj
      obtain ⟨hDj, hoj2⟩ := hs.obj j oj hoj
      have hFj : F j = false := by cases e2 : F j with | false => rfl | true => simp [e2] at cj
      rw [hsame j hDj] at e
      by_cases hn : n ≤ i ∧ i < n'
      · rcases ho.new i hn.1 hn.2 hi with h1 | ⟨k, h1, h2, h3, h4⟩
        · have := hoj2.lt; omega
        · have := hs.inj k j (hgs k h2) hj (by rw [← h4]; exact e)
          subst this
          rw [hW k h1] at hFj; cases hFj
      · have hFi : F i = true := by
          cases e2 : F i with
          | true => rfl
          | false =>
            exfalso; apply hn
            simpa [e2] using ci
        rw [ho.same i hn] at e
        -- i is of F and alive behind: alive ahead, too
        have hgi : (g i).isSome = true := ho.old i hn hi
        have := hs.inj i j (hgs i hgi) hj e
        subst this
        rw [hFi] at hFj; cases hFj
    by_cases ci : (F i || (decide (n ≤ i) && decide (i < n'))) = true
    · by_cases cj : (F j || (decide (n ≤ j) && decide (j < n'))) = true
      · unfold upd at hi hj; rw [if_pos ci] at hi; rw [if_pos cj] at hj
        exact ho.sat.inj i j hi hj e
      · refine (key i j hi ci ?_ cj e).elim
        unfold upd at hj; rw [if_neg cj] at hj; exact hj
    · by_cases cj : (F j || (decide (n ≤ j) && decide (j < n'))) = true
      · refine (key j i hj cj ?_ ci e.symm).elim
        unfold upd at hi; rw [if_neg ci] at hi; exact hi
      · unfold upd at hi hj; rw [if_neg ci] at hi; rw [if_neg cj] at hj
        obtain ⟨oi, hoi⟩ := Option.isSome_iff_exists.1 hi
        obtain ⟨oj, hoj⟩ := Option.isSome_iff_exists.1 hj
        rw [hsame i (hs.obj i oi hoi).1, hsame j (hs.obj j oj hoj).1] at e
        exact hs.inj i j hi hj e
  · intro i hn hh
    unfold upd at hh
    by_cases c : (F i || (decide (n ≤ i) && decide (i < n'))) = true
    · rw [if_pos c] at hh
      exact hgs i (ho.old i hn hh)
    · rw [if_neg c] at hh; exact hh
  · intro i hi hi' hh
    unfold upd at hh
    have c : (F i || (decide (n ≤ i) && decide (i < n'))) = true := by simp [hi, hi']
    rw [if_pos c] at hh
    rcases ho.new i hi hi' hh with h1 | ⟨j, h1, h2, h3, h4⟩
    · exact .inl h1
    · refine .inr ⟨j, h1, hgs j h2, ?_, h4⟩
      unfold upd
      have := hW j h1
      simp [this, h3]
end Go.Proofs.YtcmlgmiomcegeaaGreat.Ev
namespace Go.Proofs.YtcmlgmiomcegeaaGreat.Ev
open Go Go.RowKit Go.Maps
set_option linter.unusedVariables false
set_option linter.unusedSimpArgs false
set_option linter.unusedSectionVars false
variable [Env]

/-- Nothing; a new object; an object is another one now; an object goes, a new one may lie in its place. F: what is looked at. -/
inductive Ef
  | no (F : Nat) | new (F : Nat) (o : AO) | set (F i : Nat) (o : AO) | mv (F i : Nat) (o : AO)
def tb (m : Nat) : Nat → Bool := fun i => m.testBit i
def Ef.F : Ef → Nat | .no F => F | .new F _ => F | .set F _ _ => F | .mv F _ _ => F
def Ef.W : Ef → Nat → Bool | .no _, _ => false | .new _ _, _ => false | .set _ i _, j => j == i | .mv _ i _, j => j == i
def Ef.n' (n : Nat) : Ef → Nat | .no _ => n | .new _ _ => n + 1 | .set _ _ _ => n | .mv _ _ _ => n + 1
def Ef.ap (n : Nat) (H : Heap) : Ef → Heap
  | .no _ => H
  | .new _ o => fun j => if j = n then some o else H j
  | .set _ i o => fun j => if j = i then some o else H j
  | .mv _ i o => fun j => if j = n then some o else if j = i then none else H j
def aft (F : Nat → Bool) (n n' : Nat) (g : Heap) : Heap := fun j => if F j = true ∨ (n ≤ j ∧ j < n') then g j else none
theorem aft_some {F : Nat → Bool} {n n' : Nat} {g : Heap} {i : Nat} {x : AO} : aft F n n' g i = some x ↔ (F i = true ∨ (n ≤ i ∧ i < n')) ∧ g i = some x := by
  unfold aft; split
  · rename_i h; exact ⟨fun e => ⟨h, e⟩, fun e => e.2⟩
  · rename_i h; exact ⟨fun e => (by cases e), fun e => absurd e.1 h⟩
theorem rst_some {F : Nat → Bool} {g : Heap} {i : Nat} {x : AO} : rst F g i = some x ↔ F i = true ∧ g i = some x := by
  unfold rst; split
  · rename_i h; exact ⟨fun e => ⟨h, e⟩, fun e => e.2⟩
  · rename_i h; exact ⟨fun e => (by cases e), fun e => absurd e.1 h⟩
theorem some_of {a : Option AO} {x : AO} (h : a = some x) : a.isSome = true := by rw [h]; rfl
/-- What is told of an operation that is no call. -/
structure Did (P : Program) (ρ : Operand → Value) (o : Oper) (σ : Nat → Blk) (D : Nat → Prop) (w : World) (H : Heap) (n : Nat) (s : S) (e : Ef) (nx : Next) (v : Value) (σ' : Nat → Blk) (w' : World) : Prop where
  run : (execOp ρ o).run P w = .ok nx w'
  nx : nx = .value v ∨ (nx = .skip ∧ v = undef)
  val : RS σ' (more D n (e.n' n)) s v
  out : Out σ D w (rst (tb e.F) H) (aft (tb e.F) n (e.n' n) (e.ap n H)) n (e.n' n) e.W σ' w'
def at_ (σ : Nat → Blk) (n : Nat) (k : Blk) : Nat → Blk := fun i => if i = n then k else σ i
theorem at_same {σ : Nat → Blk} {n : Nat} {k : Blk} : at_ σ n k n = k := if_pos rfl
theorem at_other {σ : Nat → Blk} {n i : Nat} {k : Blk} (h : i ≠ n) : at_ σ n k i = σ i := if_neg h
theorem more_self {D : Nat → Prop} {n : Nat} : ∀ i, more D n n i ↔ D i := fun i => ⟨fun h => h.elim id (fun ⟨a, b⟩ => by omega), .inl⟩

section
variable {P : Program} {ρ : Operand → Value} {o : Oper} {σ : Nat → Blk} {D : Nat → Prop} {w : World} {H : Heap} {n : Nat}
theorem did_no {F : Nat} {s : S} {v : Value} {nx : Next} (hs : Sat σ D (rst (tb F) H) w) (hr : (execOp ρ o).run P w = .ok nx w) (hn : nx = .value v ∨ (nx = .skip ∧ v = undef)) (hv : RS σ D s v) :
    Did P ρ o σ D w H n s (.no F) nx v σ w := by
  have key : ∀ i x, aft (tb F) n n H i = some x → rst (tb F) H i = some x := fun i x e => by
    obtain ⟨h1, h2⟩ := aft_some.1 e
    exact rst_some.2 ⟨h1.resolve_right (by omega), h2⟩
  refine ⟨hr, hn, hv.ext (fun _ _ => rfl) (fun _ h => .inl h), ⟨fun _ _ => rfl, ⟨fun i ob e => ?_, fun i j hi hj e => ?_⟩, Tch.refl _ _, fun i _ hh => ?_, fun i h1 h2 => ?_⟩⟩
  · obtain ⟨h1, h2⟩ := hs.obj i ob (key i ob e)
    exact ⟨.inl h1, h2.ext rfl rfl (fun _ _ => rfl) (fun _ h => .inl h)⟩
  · obtain ⟨x, hx⟩ := Option.isSome_iff_exists.1 hi
    obtain ⟨y, hy⟩ := Option.isSome_iff_exists.1 hj
    exact hs.inj i j (some_of (key i x hx)) (some_of (key j y hy)) e
  · obtain ⟨x, hx⟩ := Option.isSome_iff_exists.1 hh
    exact some_of (key i x hx)
  · simp only [Ef.n'] at h2; omega
/-- A new object, elsewhere. -/
theorem did_new {F : Nat} {s : S} {v : Value} {w' : World} {nx : Next} {ob : AO} {k : Blk} (hs : Sat σ D (rst (tb F) H) w) (hD : ¬ D n) (hr : (execOp ρ o).run P w = .ok nx w') (hn : nx = .value v ∨ (nx = .skip ∧ v = undef))
    (hv : RS (at_ σ n k) (more D n (n + 1)) s v) (ht : Tch No w w') (hk : w.heap.size ≤ k.b) (ho : ObjAt (at_ σ n k) (more D n (n + 1)) n ob w') : Did P ρ o σ D w H n s (.new F ob) nx v (at_ σ n k) w' := by
  have hsm : ∀ i, D i → at_ σ n k i = σ i := fun i hi => at_other (fun e => by subst e; exact hD hi)
  have key : ∀ i, i ≠ n → ∀ x, aft (tb F) n (n + 1) ((Ef.new F ob).ap n H) i = some x → rst (tb F) H i = some x := fun i hi x e => by
    obtain ⟨h1, h2⟩ := aft_some.1 e
    simp only [Ef.ap, if_neg hi] at h2
    exact rst_some.2 ⟨h1.resolve_right (by omega), h2⟩
  have keyn : aft (tb F) n (n + 1) ((Ef.new F ob).ap n H) n = some ob := aft_some.2 ⟨.inr ⟨Nat.le_refl _, Nat.lt_succ_self _⟩, by simp [Ef.ap]⟩
  refine ⟨hr, hn, hv, ⟨fun i hi => at_other (fun e => hi (by subst e; simp only [Ef.n']; omega)), ⟨fun i x e => ?_, fun i j hi hj e => ?_⟩, ht.mono (fun _ _ h => h.elim), fun i hi hh => ?_, fun i h1 h2 _ => ?_⟩⟩
  · by_cases c : i = n
    · subst c
      have e2 := keyn.symm.trans e
      cases e2
      exact ⟨.inr ⟨Nat.le_refl _, Nat.lt_succ_self _⟩, ho⟩
    · obtain ⟨h1, h2⟩ := hs.obj i x (key i c x e)
      exact ⟨.inl h1, h2.ext (hsm i h1) (ht.block _ h2.lt (fun h => h)) hsm (fun _ h => .inl h)⟩
  · have f : ∀ i j, i = n → j ≠ n → (aft (tb F) n (n + 1) ((Ef.new F ob).ap n H) j).isSome = true → (at_ σ n k i).b = (at_ σ n k j).b → False := fun i j hi hj hh e => by
      subst hi
      obtain ⟨x, hx⟩ := Option.isSome_iff_exists.1 hh
      obtain ⟨h1, h2⟩ := hs.obj j x (key j hj x hx)
      rw [at_same, at_other hj] at e
      have := h2.lt; omega
    by_cases ci : i = n
    · by_cases cj : j = n
      · rw [ci, cj]
      · exact (f i j ci cj hj e).elim
    · by_cases cj : j = n
      · exact (f j i cj ci hi e.symm).elim
      · obtain ⟨x, hx⟩ := Option.isSome_iff_exists.1 hi
        obtain ⟨y, hy⟩ := Option.isSome_iff_exists.1 hj
        rw [at_other ci, at_other cj] at e
        exact hs.inj i j (by rw [key i ci x hx]; rfl) (by rw [key j cj y hy]; rfl) e
  · obtain ⟨x, hx⟩ := Option.isSome_iff_exists.1 hh
    exact some_of (key i (fun e => hi (by subst e; simp only [Ef.n']; omega)) x hx)
  · obtain rfl : i = n := by simp only [Ef.n'] at h2; omega
    rw [at_same]; exact .inl hk
/-- An object is written. -/
theorem did_set {F i : Nat} {s : S} {v : Value} {w' : World} {nx : Next} {ob : AO} (hs : Sat σ D (rst (tb F) H) w) (hF : tb F i = true) (hi0 : (H i).isSome = true) (hr : (execOp ρ o).run P w = .ok nx w') (hn : nx = .value v ∨ (nx = .skip ∧ v = undef))
    (hv : RS σ D s v) (ht : Tch (fun k => k = (σ i).b) w w') (ho : ObjAt σ D i ob w') : Did P ρ o σ D w H n s (.set F i ob) nx v σ w' := by
  have key : ∀ j, j ≠ i → ∀ x, aft (tb F) n n ((Ef.set F i ob).ap n H) j = some x → rst (tb F) H j = some x := fun j hj x e => by
    obtain ⟨h1, h2⟩ := aft_some.1 e
    simp only [Ef.ap, if_neg hj] at h2
    exact rst_some.2 ⟨h1.resolve_right (by omega), h2⟩
  have hgi : (rst (tb F) H i).isSome = true := by unfold rst; rw [if_pos hF]; exact hi0
  have hDi : D i := by
    obtain ⟨x, hx⟩ := Option.isSome_iff_exists.1 hgi
    exact (hs.obj i x hx).1
  have alive : ∀ j, (aft (tb F) n (n) ((Ef.set F i ob).ap n H) j).isSome = true → (rst (tb F) H j).isSome = true := fun j hh => by
    by_cases c : j = i
    · rw [c]; exact hgi
    · obtain ⟨x, hx⟩ := Option.isSome_iff_exists.1 hh
      rw [key j c x hx]; rfl
  refine ⟨hr, hn, hv.ext (fun _ _ => rfl) (fun _ h => .inl h), ⟨fun _ _ => rfl, ⟨fun j x e => ?_, fun j k hj hk e => hs.inj j k (alive j hj) (alive k hk) e⟩, ht.mono (fun k _ h => ⟨i, by simp [Ef.W], hgi, h⟩), fun j _ hh => alive j hh, fun j h1 h2 => by simp only [Ef.n'] at h2; omega⟩⟩
  by_cases c : j = i
  · subst c
    have e2 := (aft_some.1 e).2
    simp only [Ef.ap, if_true] at e2
    cases e2
    exact ⟨.inl hDi, ho.ext rfl rfl (fun _ _ => rfl) (fun _ h => .inl h)⟩
  · obtain ⟨h1, h2⟩ := hs.obj j x (key j c x e)
    refine ⟨.inl h1, h2.ext rfl (ht.block _ h2.lt (fun h => c ?_)) (fun _ _ => rfl) (fun _ h => .inl h)⟩
    exact hs.inj j i (by rw [key j c x e]; rfl) hgi h
/-- An object goes; a new one lies in its place or elsewhere. -/
theorem out_mv {F i : Nat} {w' : World} {ob : AO} {k : Blk} (hs : Sat σ D (rst (tb F) H) w) (hD : ¬ D n) (hF : tb F i = true) (hi0 : (H i).isSome = true)
    (ht : Tch (fun b => b = (σ i).b) w w') (hk : w.heap.size ≤ k.b ∨ k.b = (σ i).b) (ho : ObjAt (at_ σ n k) (more D n (n + 1)) n ob w') : Out σ D w (rst (tb F) H) (aft (tb F) n (n + 1) ((Ef.mv F i ob).ap n H)) n (n + 1) (Ef.mv F i ob).W (at_ σ n k) w' := by
  have hsm : ∀ i, D i → at_ σ n k i = σ i := fun i hi => at_other (fun e => by subst e; exact hD hi)
  have hgi : (rst (tb F) H i).isSome = true := by unfold rst; rw [if_pos hF]; exact hi0
  have hDi : D i := by
    obtain ⟨x, hx⟩ := Option.isSome_iff_exists.1 hgi
    exact (hs.obj i x hx).1
  have hin : i ≠ n := fun e => by subst e; exact hD hDi
  have key : ∀ j, j ≠ n → ∀ x, aft (tb F) n (n + 1) ((Ef.mv F i ob).ap n H) j = some x → rst (tb F) H j = some x ∧ j ≠ i := fun j hj x e => by
    obtain ⟨h1, h2⟩ := aft_some.1 e
    simp only [Ef.ap, if_neg hj] at h2
    by_cases c : j = i
    · rw [if_pos c] at h2; cases h2
    · rw [if_neg c] at h2
      exact ⟨rst_some.2 ⟨h1.resolve_right (by omega), h2⟩, c⟩
  have keyn : aft (tb F) n (n + 1) ((Ef.mv F i ob).ap n H) n = some ob := aft_some.2 ⟨.inr ⟨Nat.le_refl _, Nat.lt_succ_self _⟩, by simp [Ef.ap]⟩
  have keyi : aft (tb F) n (n + 1) ((Ef.mv F i ob).ap n H) i = none := by
    cases e : aft (tb F) n (n + 1) ((Ef.mv F i ob).ap n H) i with
    | none => rfl
    | some x =>
      obtain ⟨_, h2⟩ := aft_some.1 e
      simp [Ef.ap, hin] at h2
  refine ⟨fun j hj => at_other (fun e => hj (by subst e; omega)), ⟨fun j x e => ?_, fun j l hj hl e => ?_⟩, ht.mono (fun b _ h => ⟨i, by simp [Ef.W], hgi, h⟩), fun j hj hh => ?_, fun j h1 h2 _ => ?_⟩
  · by_cases c : j = n
    · subst c
      have e2 := keyn.symm.trans e
      cases e2
      exact ⟨.inr ⟨Nat.le_refl _, Nat.lt_succ_self _⟩, ho⟩
    · obtain ⟨g1, g2⟩ := key j c x e
      obtain ⟨h1, h2⟩ := hs.obj j x g1
      refine ⟨.inl h1, h2.ext (hsm j h1) (ht.block _ h2.lt (fun h => g2 ?_)) hsm (fun _ h => .inl h)⟩
      exact hs.inj j i (by rw [g1]; rfl) hgi h
  · have f : ∀ a b, a = n → b ≠ n → (aft (tb F) n (n + 1) ((Ef.mv F i ob).ap n H) b).isSome = true → (at_ σ n k a).b = (at_ σ n k b).b → False := fun a b ha hb hh e => by
      subst ha
      obtain ⟨x, hx⟩ := Option.isSome_iff_exists.1 hh
      obtain ⟨g1, g2⟩ := key b hb x hx
      obtain ⟨h1, h2⟩ := hs.obj b x g1
      rw [at_same, at_other hb] at e
      rcases hk with hk | hk
      · have := h2.lt; omega
      · exact g2 (hs.inj b i (by rw [g1]; rfl) hgi (by rw [← e, hk]))
    by_cases ci : j = n
    · by_cases cj : l = n
      · rw [ci, cj]
      · exact (f j l ci cj hl e).elim
    · by_cases cj : l = n
      · exact (f l j cj ci hj e.symm).elim
      · obtain ⟨x, hx⟩ := Option.isSome_iff_exists.1 hj
        obtain ⟨y, hy⟩ := Option.isSome_iff_exists.1 hl
        rw [at_other ci, at_other cj] at e
        exact hs.inj j l (by rw [(key j ci x hx).1]; rfl) (by rw [(key l cj y hy).1]; rfl) e
  · obtain ⟨x, hx⟩ := Option.isSome_iff_exists.1 hh
    exact some_of (key j (fun e => hj (by subst e; omega)) x hx).1
  · obtain rfl : j = n := by omega
    rw [at_same]
    rcases hk with hk | hk
    · exact .inl hk
    · exact .inr ⟨i, by simp [Ef.W], hgi, keyi, hk⟩
theorem did_mv {F i : Nat} {s : S} {v : Value} {w' : World} {nx : Next} {ob : AO} {k : Blk} (hs : Sat σ D (rst (tb F) H) w) (hD : ¬ D n) (hF : tb F i = true) (hi0 : (H i).isSome = true) (hr : (execOp ρ o).run P w = .ok nx w') (hn : nx = .value v ∨ (nx = .skip ∧ v = undef))
    (hv : RS (at_ σ n k) (more D n (n + 1)) s v) (ht : Tch (fun b => b = (σ i).b) w w') (hk : w.heap.size ≤ k.b ∨ k.b = (σ i).b) (ho : ObjAt (at_ σ n k) (more D n (n + 1)) n ob w') : Did P ρ o σ D w H n s (.mv F i ob) nx v (at_ σ n k) w' :=
  ⟨hr, hn, hv, out_mv hs hD hF hi0 ht hk ho⟩
end
end Go.Proofs.YtcmlgmiomcegeaaGreat.Ev
namespace Go.Proofs.YtcmlgmiomcegeaaGreat.Ev
open Go Go.RowKit Go.Maps
set_option linter.unusedVariables false
set_option linter.unusedSimpArgs false
set_option linter.unusedSectionVars false
variable [Env]

def one (i : Nat) : Nat := 2 ^ i
theorem tb_one {i : Nat} : tb (one i) i = true := by simp [tb, one]
theorem tb_or {a b i : Nat} : tb (a ||| b) i = (tb a i || tb b i) := by simp [tb]
def AOK (P : Program) (ρ : Operand → Value) (o : Oper) (σ : Nat → Blk) (D : Nat → Prop) (w : World) (H : Heap) (n : Nat) (s : S) (e : Ef) : Prop := ∃ nx v σ' w', Did P ρ o σ D w H n s e nx v σ' w'
def S.c? : Option S → Option C | some (.v (.c x)) => some x | _ => none
def S.v? : Option S → Option V | some (.v x) => some x | _ => none
theorem c?_some {a : Option S} {x : C} (h : S.c? a = some x) : a = some (.v (.c x)) := by
  unfold S.c? at h; split at h <;> simp_all
theorem v?_some {a : Option S} {x : V} (h : S.v? a = some x) : a = some (.v x) := by
  unfold S.v? at h; split at h <;> simp_all
/-- The operands' values are what the abstract ones say. -/
def Eqv (σ : Nat → Blk) (D : Nat → Prop) (A : Operand → Option S) (ρ : Operand → Value) : Prop := ∀ x s, A x = some s → RS σ D s (ρ x)
theorem Eqv.c {σ : Nat → Blk} {D : Nat → Prop} {A : Operand → Option S} {ρ : Operand → Value} (h : Eqv σ D A ρ) {x : Operand} {c : C} (hx : S.c? (A x) = some c) : RC σ D c (ρ x) := h x _ (c?_some hx)
theorem Eqv.v {σ : Nat → Blk} {D : Nat → Prop} {A : Operand → Option S} {ρ : Operand → Value} (h : Eqv σ D A ρ) {x : Operand} {c : V} (hx : S.v? (A x) = some c) : RV σ D c (ρ x) := h x _ (v?_some hx)

/-! ### Constants -/
def absC : Value → Option C
  | .bool b => some (.bool b) | .int k n => some (.int k n) | .string s => some (.str s.data.toList) | .pointer none => some .nilp
  | .slice none 0 0 => some .snil | .map none => some .mapn | .nilFunc => some .nilf | .nilIface => some .nilI | .chan none => some .chn | .func (.func f) ⟨[]⟩ ⟨[]⟩ => some (.fn f []) | _ => none
def absL : List Value → Option (List C)
  | [] => some []
  | v :: l => match absC v, absL l with | some c, some m => some (c :: m) | _, _ => none
def absV : Value → Option V
  | .agg cs => (absL cs.toList).map .agg
  | v => (absC v).map .c
def V.cells : V → List C | .c x => [x] | .agg l => l
theorem absC_ok {σ : Nat → Blk} {D : Nat → Prop} {v : Value} {c : C} (h : absC v = some c) : RC σ D c v := by
  unfold absC at h
  split at h <;> first | (cases h; done) | (cases h; simp [RC])
theorem absL_ok {σ : Nat → Blk} {D : Nat → Prop} : ∀ {l : List Value} {m : List C}, absL l = some m → RL σ D m l
  | [], m, h => by simp only [absL, Option.some.injEq] at h; subst h; trivial
  | v :: l, m, h => by
    simp only [absL] at h
    split at h
    · rename_i c m' h1 h2
      simp only [Option.some.injEq] at h; subst h
      exact ⟨absC_ok h1, absL_ok h2⟩
    · cases h
theorem absV_ok {σ : Nat → Blk} {D : Nat → Prop} {v : Value} {x : V} (h : absV v = some x) : RV σ D x v := by
  unfold absV at h
  split at h
  · rename_i cs
    rw [Option.map_eq_some_iff] at h
    obtain ⟨m, h1, rfl⟩ := h
    exact ⟨_, absL_ok h1, by simp⟩
  · rw [Option.map_eq_some_iff] at h
    obtain ⟨m, h1, rfl⟩ := h
    exact absC_ok h1
theorem RV.cells {σ : Nat → Blk} {D : Nat → Prop} {x : V} {v : Value} (h : RV σ D x v) : RL σ D x.cells v.cells.toList := by
  cases x with
  | c x =>
    have h1 := RC.one h
    have : v.cells = #[v] := by cases v <;> first | rfl | (simp [Value.oneCell'] at h1)
    rw [this]; exact ⟨h, trivial⟩
  | agg l =>
    obtain ⟨m, h1, rfl⟩ := h
    simpa [Value.cells, V.cells] using h1
theorem RL.ones {σ : Nat → Blk} {D : Nat → Prop} : ∀ {l : List C} {m : List Value}, RL σ D l m → ∀ u ∈ m, u.oneCell' = true
  | [], [], _, u, hu => by cases hu
  | _ :: _, _ :: _, h, u, hu => by
    rcases List.mem_cons.1 hu with rfl | hu
    · exact h.1.one
    · exact h.2.ones u hu
theorem RL.append {σ : Nat → Blk} {D : Nat → Prop} : ∀ {l l' : List C} {m m' : List Value}, RL σ D l m → RL σ D l' m' → RL σ D (l ++ l') (m ++ m')
  | [], _, [], _, _, h => h
  | _ :: _, _, _ :: _, _, h, k => ⟨h.1, h.2.append k⟩
theorem RL.take {σ : Nat → Blk} {D : Nat → Prop} : ∀ {l : List C} {m : List Value} (k : Nat), RL σ D l m → RL σ D (l.take k) (m.take k)
  | [], [], _, _ => by simp [RL]
  | _ :: _, _ :: _, 0, _ => trivial
  | _ :: _, _ :: _, k + 1, h => ⟨h.1, h.2.take k⟩
theorem RL.drop {σ : Nat → Blk} {D : Nat → Prop} : ∀ {l : List C} {m : List Value} (k : Nat), RL σ D l m → RL σ D (l.drop k) (m.drop k)
  | [], [], _, _ => by simp [RL]
  | _ :: _, _ :: _, 0, h => h
  | _ :: _, _ :: _, k + 1, h => h.2.drop k

section
variable {P : Program} {ρ : Operand → Value} {o : Oper} {σ : Nat → Blk} {D : Nat → Prop} {w : World} {H : Heap} {n : Nat} {A : Operand → Option S}
theorem obj_of {F i : Nat} {ob : AO} (hs : Sat σ D (rst (tb F) H) w) (hF : tb F i = true) (ho : H i = some ob) : D i ∧ ObjAt σ D i ob w := hs.obj i ob (rst_some.2 ⟨hF, ho⟩)
theorem cell_of {i j : Nat} {ob : AO} {c : C} (h : ObjAt σ D i ob w) (hc : ob.cs[j]? = some c) : ∃ v, w.cell? ⟨(σ i).b, j, none⟩ = some v ∧ RC σ D c v := by
  rcases h.either with h | h
  · rw [h] at hc; cases hc
  obtain ⟨cur, fr, h1, h0, h2, h3, h4, h5⟩ := h
  obtain ⟨v, g1, g2⟩ := h5 j c hc
  exact ⟨v, by rw [cell_of_row w _ j cur ob.ty fr h1]; exact g1, g2⟩
/-- Cells in a row. -/
def ldC (ob : AO) (off k : Nat) : Option (List C) := if off + k ≤ ob.cs.length then some ((ob.cs.drop off).take k) else none
theorem ldC_ok {i off k : Nat} {ob : AO} {l : List C} (h : ObjAt σ D i ob w) (hl : ldC ob off k = some l) : ∃ m : List Value, m.length = k ∧ RL σ D l m ∧ ∀ j v, m[j]? = some v → w.cell? ((adr (σ i) off).add j) = some v := by
  unfold ldC at hl
  split at hl
  · rename_i hle
    cases hl
    rcases h.either with h | h
    · rw [h] at hle ⊢
      obtain rfl : k = 0 := by simp at hle; omega
      exact ⟨[], rfl, by simp [RL], fun j v e => by simp at e⟩
    obtain ⟨cur, fr, h1, h0, h2, h3, h4, h5⟩ := h
    refine ⟨(cur.toList.drop off).take k, by simp; omega, RL.of (by simp; omega) (fun j c e => ?_), fun j v e => ?_⟩
    · rw [List.getElem?_take] at e
      split at e
      · rename_i hj
        rw [List.getElem?_drop] at e
        obtain ⟨v, g1, g2⟩ := h5 _ c e
        exact ⟨v, by rw [List.getElem?_take, if_pos hj, List.getElem?_drop]; simpa using g1, g2⟩
      · cases e
    · rw [List.getElem?_take] at e
      split at e
      · rw [List.getElem?_drop] at e
        unfold adr
        rw [addr_add, cell_of_row w _ _ cur ob.ty fr h1]
        simpa using e
      · cases e
  · cases hl
theorem run_ldC {i off k : Nat} {ob : AO} {l : List C} (h : ObjAt σ D i ob w) (hl : ldC ob off k = some l) : ∃ m : List Value, RL σ D l m ∧ (loadCells (adr (σ i) off) k).run P w = .ok m.toArray w := by
  obtain ⟨m, h1, h2, h3⟩ := ldC_ok h hl
  refine ⟨m, h2, ?_⟩
  have := run_loadCells_list (P := P) w (adr (σ i) off) m h3
  rwa [h1] at this

/-! ### Moves -/
theorem move_ok {x : Operand} {s : S} (ho : o.op = .move x) (hA : Eqv σ D A ρ) (hx : A x = some s) (hs : Sat σ D (rst (tb 0) H) w) : AOK P ρ o σ D w H n s (.no 0) :=
  ⟨_, _, _, _, did_no hs (by unfold execOp; rw [ho]; rfl) (.inl rfl) (hA x s hx)⟩
theorem assign_ok {x : Operand} {s : S} (ho : o.op = .assign x) (hA : Eqv σ D A ρ) (hx : A x = some s) (hs : Sat σ D (rst (tb 0) H) w) : AOK P ρ o σ D w H n s (.no 0) :=
  ⟨_, _, _, _, did_no hs (by unfold execOp; rw [ho]; rfl) (.inl rfl) (hA x s hx)⟩
def aPick (A : Operand → Option S) (c x y : Operand) : Option (S × Ef) := match S.c? (A c) with
  | some (.bool b) => (if b then A x else A y).map fun s => (s, .no 0)
  | _ => none
theorem pick_ok {c x y : Operand} {s : S} {e : Ef} (ho : o.op = .pick c x y) (hA : Eqv σ D A ρ) (h : aPick A c x y = some (s, e)) (hs : Sat σ D (rst (tb e.F) H) w) : AOK P ρ o σ D w H n s e := by
  unfold aPick at h
  split at h
  · rename_i b hb
    rw [Option.map_eq_some_iff] at h
    obtain ⟨s', h1, h2⟩ := h
    cases h2
    have hc := hA.c hb
    refine ⟨_, (if b then ρ x else ρ y), _, _, did_no hs (by unfold execOp; rw [ho]; simp [show ρ c = .bool b from hc, asBool]) (.inl rfl) ?_⟩
    cases b
    · exact hA y s h1
    · exact hA x s h1
  · cases h
def aExt (A : Operand → Option S) (x : Operand) (i : Nat) : Option (S × Ef) := match A x with
  | some (.tup l) => (l[i]?).map fun v => (.v v, .no 0)
  | _ => none
theorem RVL.get {σ : Nat → Blk} {D : Nat → Prop} : ∀ {l : List V} {m : List Value} {j : Nat} {c : V}, RVL σ D l m → l[j]? = some c → ∃ v, m[j]? = some v ∧ RV σ D c v
  | [], [], _, _, _, e => by cases e
  | a :: l, v :: m, 0, c, h, e => by
    rw [List.getElem?_cons_zero] at e
    cases e
    exact ⟨v, rfl, h.1⟩
  | a :: l, v :: m, j + 1, c, h, e => h.2.get (by simpa using e)
theorem ext_ok {x : Operand} {i : Nat} {s : S} {e : Ef} (ho : o.op = .extract x i) (hA : Eqv σ D A ρ) (h : aExt A x i = some (s, e)) (hs : Sat σ D (rst (tb e.F) H) w) : AOK P ρ o σ D w H n s e := by
  unfold aExt at h
  split at h
  · rename_i l hl
    rw [Option.map_eq_some_iff] at h
    obtain ⟨v, h1, h2⟩ := h
    cases h2
    obtain ⟨m, g1, g2⟩ := hA x _ hl
    obtain ⟨u, k1, k2⟩ := g1.get h1
    refine ⟨.value u, u, _, _, did_no hs (by unfold execOp; rw [ho]; simp [g2, Instr.extract, k1]) (.inl rfl) k2⟩
  · cases h
/-! ### New memory -/
def lenL (l : List C) : Nat := l.length
theorem new_ok {s : S} {ty : TypeId} {x : V} {v : Value} (hs : Sat σ D (rst (tb 0) H) w) (hD : ¬ D n) (hv : RV σ D x v)
    (hr : (execOp ρ o).run P w = .ok (.value (.pointer (some ⟨w.heap.size, 0, none⟩))) (w.alloc (.cells v.cells ty))) : AOK P ρ o σ D w H n (.v (.c (.ptr n 0))) (.new 0 ⟨ty, x.cells, false, .ok⟩) := by
  have hl := hv.cells
  have hsm : ∀ i, D i → at_ σ n ⟨w.heap.size, v.cells.size⟩ i = σ i := fun i hi => at_other (fun e => by subst e; exact hD hi)
  have hlen := hl.length
  rw [Array.length_toList] at hlen
  refine ⟨_, _, _, _, did_new (k := ⟨w.heap.size, v.cells.size⟩) hs hD hr (.inl rfl) ⟨.inr ⟨Nat.le_refl _, Nat.lt_succ_self _⟩, by rw [at_same]; rfl⟩ (Tch.alloc _ _) (Nat.le_refl _) ?_⟩
  refine ⟨v.cells, (0, 0), by rw [at_same]; exact heap_alloc_new _ _, fun _ => rfl, by rw [at_same], by rw [at_same]; exact Nat.le_of_eq hlen.symm, fun _ => by rw [at_same]; exact hlen.symm, fun j c e => ?_⟩
  obtain ⟨u, h1, h2⟩ := hl.get e
  exact ⟨u, by simpa using h1, h2.ext hsm (fun _ h => .inl h)⟩
def aAlloc (P : Program) (n : Nat) (t : TypeId) : Option (S × Ef) := match (P.info? t).bind (·.zero) with
  | some z => (absV z).map fun x => (.v (.c (.ptr n 0)), .new 0 ⟨t, x.cells, false, .ok⟩)
  | none => none
theorem alloc_ok {t : TypeId} {s : S} {e : Ef} (ho : o.op = .alloc t) (hD : n < e.n' n → ¬ D n) (h : aAlloc P n t = some (s, e)) (hs : Sat σ D (rst (tb e.F) H) w) : AOK P ρ o σ D w H n s e := by
  unfold aAlloc at h
  split at h
  · rename_i z hz
    rw [Option.map_eq_some_iff] at h
    obtain ⟨x, h1, h2⟩ := h
    cases h2
    cases hi : P.info? t with
    | none => rw [hi] at hz; cases hz
    | some i =>
      rw [hi] at hz
      have hz' : i.zero = some z := hz
      refine new_ok (s := .v (.c (.ptr n 0))) hs (hD (Nat.lt_succ_self n)) (absV_ok h1) ?_
      unfold execOp; rw [ho]
      simp [Instr.alloc, zeroValue, typeInfo, hi, hz', newVar, newRow]
  · cases h
theorem box_ok {t : TypeId} {x : Operand} {v : V} (ho : o.op = .box t x) (hA : Eqv σ D A ρ) (hD : ¬ D n) (h : S.v? (A x) = some v) (hs : Sat σ D (rst (tb 0) H) w) :
    AOK P ρ o σ D w H n (.v (.c (.ptr n 0))) (.new 0 ⟨t, v.cells, false, .ok⟩) := by
  refine new_ok (s := .v (.c (.ptr n 0))) hs hD (hA.v h) ?_
  unfold execOp; rw [ho]
  simp [Instr.box, newVar, newRow]
/-! ### Loads and stores -/
def szOf (P : Program) (t : TypeId) : Option Nat := (P.info? t).map (·.size)
def isAg (P : Program) (t : TypeId) : Option Bool := (P.underlying t).map fun | .struct _ => true | .array _ _ => true | _ => false
theorem run_sz {t : TypeId} {k : Nat} (h : szOf P t = some k) (w : World) : (sizeOf t).run P w = .ok k w := by
  unfold szOf at h
  rw [Option.map_eq_some_iff] at h
  obtain ⟨i, h1, h2⟩ := h
  simp [sizeOf, typeInfo, h1, h2]
theorem run_isAg {t : TypeId} {b : Bool} (h : isAg P t = some b) (w : World) : (isAgg t).run P w = .ok b w := by
  unfold isAg at h
  rw [Option.map_eq_some_iff] at h
  obtain ⟨d, h1, h2⟩ := h
  unfold isAgg
  rw [Sem.run_bind, run_underlying h1 w]
  rw [← h2]
  cases d <;> rfl
def aLd (P : Program) (H : Heap) (t : TypeId) (i off : Nat) : Option V := match H i with
  | some ob => match isAg P t with
    | some true => match szOf P t with
      | some k => (ldC ob off k).map .agg
      | none => none
    | some false => (ob.cs[off]?).map .c
    | none => none
  | none => none
theorem aLd_ok {F i off : Nat} {t : TypeId} {x : V} (hs : Sat σ D (rst (tb F) H) w) (hF : tb F i = true) (h : aLd P H t i off = some x) : ∃ v, RV σ D x v ∧ (loadVar t (adr (σ i) off)).run P w = .ok v w := by
  unfold aLd at h
  split at h
  · rename_i ob hob
    have hO := (obj_of hs hF hob).2
    split at h
    · rename_i hag
      split at h
      · rename_i k hk
        rw [Option.map_eq_some_iff] at h
        obtain ⟨l, h1, rfl⟩ := h
        obtain ⟨m, g1, g2⟩ := run_ldC (P := P) hO h1
        refine ⟨.agg m.toArray, ⟨m, g1, rfl⟩, ?_⟩
        simp [loadVar, Sem.run_bind, run_isAg hag, run_sz hk, g2]
      · cases h
    · rename_i hag
      rw [Option.map_eq_some_iff] at h
      obtain ⟨c, h1, rfl⟩ := h
      obtain ⟨v, g1, g2⟩ := cell_of hO h1
      refine ⟨v, g2, ?_⟩
      simp [loadVar, Sem.run_bind, run_isAg hag, adr, g1]
    · cases h
  · cases h
/-- An element of a row from outside. -/
def aLdR (P : Program) (H : Heap) (t : TypeId) (i k : Nat) : Option C := match H i with
  | some ob => match ob.k with
    | .row f m => match isAg P t with
      | some false => if k < m then some (.ext (f + k)) else none
      | _ => none
    | _ => none
  | none => none
theorem aLdR_ok {F i k : Nat} {t : TypeId} {c : C} (hs : Sat σ D (rst (tb F) H) w) (hF : tb F i = true) (h : aLdR P H t i k = some c) : ∃ v, RC σ D c v ∧ (loadVar t ((Env.row i).add k)).run P w = .ok v w := by
  unfold aLdR at h
  split at h
  · rename_i ob hob
    have hO := (obj_of hs hF hob).2
    split at h
    · rename_i f m hk
      split at h
      · rename_i hag
        split at h
        · rename_i hlt
          cases h
          unfold ObjAt at hO
          rw [hk] at hO
          have hc := hO.2.2.2 k hlt
          exact ⟨Env.val (f + k), rfl, by simp [loadVar, Sem.run_bind, run_isAg hag, hc]⟩
        · cases h
      · cases h
    · cases h
  · cases h
def aLoad (P : Program) (H : Heap) (A : Operand → Option S) (t : TypeId) (x : Operand) : Option (S × Ef) := match S.c? (A x) with
  | some (.ptr i off) => (aLd P H t i off).map fun v => (.v v, .no (one i))
  | some (.xp i k) => (aLdR P H t i k).map fun c => (.v (.c c), .no (one i))
  | _ => none
theorem load_ok {t : TypeId} {x : Operand} {s : S} {e : Ef} (ho : o.op = .load t x) (hA : Eqv σ D A ρ) (h : aLoad P H A t x = some (s, e)) (hs : Sat σ D (rst (tb e.F) H) w) : AOK P ρ o σ D w H n s e := by
  unfold aLoad at h
  split at h
  · rename_i i off hx
    rw [Option.map_eq_some_iff] at h
    obtain ⟨v, h1, h2⟩ := h
    cases h2
    obtain ⟨u, g1, g2⟩ := aLd_ok hs tb_one h1
    have hp := (hA.c hx).2
    refine ⟨.value u, u, _, _, did_no hs ?_ (.inl rfl) g1⟩
    unfold execOp; rw [ho]
    simp [hp, Instr.loadAt, Instr.sureAddr, g2]
  · rename_i i k hx
    rw [Option.map_eq_some_iff] at h
    obtain ⟨c, h1, h2⟩ := h
    cases h2
    obtain ⟨u, g1, g2⟩ := aLdR_ok hs tb_one h1
    have hp := (hA.c hx).2.2
    refine ⟨.value u, u, _, _, did_no hs ?_ (.inl rfl) g1⟩
    unfold execOp; rw [ho]
    simp [hp, Instr.loadAt, Instr.sureAddr, g2]
  · cases h
/-- Cells are written. -/
def wrC (ob : AO) (off : Nat) (l : List C) : Option AO := if off + l.length ≤ ob.cs.length ∧ ob.fz = false then some { ob with cs := ob.cs.take off ++ l ++ ob.cs.drop (off + l.length) } else none
theorem wrC_ok {i off : Nat} {ob ob' : AO} {l : List C} {m : List Value} (h : ObjAt σ D i ob w) (hw : wrC ob off l = some ob') (hl : RL σ D l m) :
    ∃ w', (storeCells (adr (σ i) off) m).run P w = .ok () w' ∧ ObjAt σ D i ob' w' ∧ Tch (fun k => k = (σ i).b) w w' := by
  unfold wrC at hw
  split at hw
  · rename_i hc
    cases hw
    obtain ⟨hle, hfz⟩ := hc
    have hk : ob.k = .ok := by unfold AO.fz at hfz; split at hfz <;> first | assumption | cases hfz
    obtain ⟨cur, fr, h1, h0, h2, h3, h4, h5⟩ := h.ok hfz
    have hfr := h0 hfz
    subst hfr
    have hml := hl.length
    have hst := run_storeCells_at P (σ i).b off ob.ty m 0 cur w h1 (by omega) hl.ones
    simp only [Nat.add_zero] at hst
    refine ⟨_, hst, ?_, ⟨rfl, rfl, rfl, by simp, fun k hk hn => setRow_other w _ k _ hn⟩⟩
    unfold ObjAt
    simp only [hk]
    refine ⟨_, (0, 0), setRow_heap w _ cur _ ob.ty _ h1, fun _ => rfl, by simp; omega, by simp; omega, fun e => by have := h4 e; simp; omega, fun j c e => ?_⟩
    have hcs : ∀ j c, ob.cs[j]? = some c → ∃ v, cur.toList[j]? = some v ∧ RC σ D c v := fun j c e => by
      obtain ⟨v, g1, g2⟩ := h5 j c e
      exact ⟨v, by rw [Array.getElem?_toList]; exact g1, g2⟩
    rw [List.append_assoc] at e
    rw [List.getElem?_toArray, List.append_assoc]
    have hlt : (ob.cs.take off).length = off := by simp; omega
    have hlt2 : (cur.toList.take off).length = off := by simp; omega
    by_cases hj : j < off
    · rw [List.getElem?_append_left (by omega), List.getElem?_take, if_pos hj] at e
      obtain ⟨v, g1, g2⟩ := hcs j c e
      exact ⟨v, by rw [List.getElem?_append_left (by omega), List.getElem?_take, if_pos hj]; exact g1, g2⟩
    · rw [List.getElem?_append_right (by omega), hlt] at e
      rw [List.getElem?_append_right (by omega), hlt2]
      by_cases hj2 : j - off < l.length
      · rw [List.getElem?_append_left hj2] at e
        rw [List.getElem?_append_left (by omega)]
        exact hl.get e
      · rw [List.getElem?_append_right (by omega), List.getElem?_drop] at e
        rw [List.getElem?_append_right (by omega), List.getElem?_drop, hml]
        exact hcs _ c e
  · cases hw
def aStore (P : Program) (H : Heap) (A : Operand → Option S) (t : TypeId) (x y : Operand) : Option (S × Ef) := match S.c? (A x), S.v? (A y) with
  | some (.ptr i off), some v => match H i with
    | some ob => if szOf P t = some v.cells.length then (wrC ob off v.cells).map fun ob' => (.un, .set (one i) i ob') else none
    | none => none
  | _, _ => none
theorem store_ok {t : TypeId} {x y : Operand} {s : S} {e : Ef} (ho : o.op = .store t x y) (hA : Eqv σ D A ρ) (h : aStore P H A t x y = some (s, e)) (hs : Sat σ D (rst (tb e.F) H) w) : AOK P ρ o σ D w H n s e := by
  unfold aStore at h
  split at h
  · rename_i i off v hx hy
    split at h
    · rename_i ob hob
      split at h
      · rename_i hsz
        rw [Option.map_eq_some_iff] at h
        obtain ⟨ob', h1, h2⟩ := h
        cases h2
        have hp := (hA.c hx).2
        have hv := (hA.v hy).cells
        obtain ⟨hD, hO⟩ := obj_of hs tb_one hob
        obtain ⟨w', g1, g2, g3⟩ := wrC_ok (P := P) hO h1 hv
        refine ⟨.skip, undef, _, _, did_set hs tb_one (by rw [hob]; rfl) ?_ (.inr ⟨rfl, rfl⟩) rfl g3 g2⟩
        unfold execOp; rw [ho]
        have hl := hv.length
        rw [Array.length_toList] at hl
        simp [hp, Instr.storeAt, Instr.sureAddr, storeVar, run_sz hsz, hl, g1]
      · cases h
    · cases h
  · cases h
end
end Go.Proofs.YtcmlgmiomcegeaaGreat.Ev
namespace Go.Proofs.YtcmlgmiomcegeaaGreat.Ev
open Go Go.RowKit Go.Maps
set_option linter.unusedVariables false
set_option linter.unusedSimpArgs false
set_option linter.unusedSectionVars false
variable [Env]

section
variable {P : Program} {ρ : Operand → Value} {o : Oper} {σ : Nat → Blk} {D : Nat → Prop} {w : World} {H : Heap} {n : Nat} {A : Operand → Option S}
/-! ### Places -/
def aFa (P : Program) (A : Operand → Option S) (t : TypeId) (x : Operand) (f : Nat) : Option (S × Ef) := match S.c? (A x), P.underlying t with
  | some (.ptr i off), some (.struct fs) => match fs[f]? with
    | some fd => match szOf P fd.type with
      | some (_ + 1) => some (.v (.c (.ptr i (off + fd.offset))), .no 0)
      | _ => none
    | none => none
  | _, _ => none
theorem adr_add (k : Blk) (off j : Nat) : (adr k off).add j = adr k (off + j) := addr_add _ _ _
theorem fa_ok {t : TypeId} {x : Operand} {f : Nat} {s : S} {e : Ef} (ho : o.op = .fieldAddr t x f) (hA : Eqv σ D A ρ) (h : aFa P A t x f = some (s, e)) (hs : Sat σ D (rst (tb e.F) H) w) : AOK P ρ o σ D w H n s e := by
  unfold aFa at h
  split at h
  · rename_i i off fs hx ht
    split at h
    · rename_i fd hfd
      split at h
      · rename_i k hk
        cases h
        obtain ⟨hD, hp⟩ := hA.c hx
        refine ⟨.value _, .pointer (some (adr (σ i) (off + fd.offset))), _, _, did_no hs ?_ (.inl rfl) ⟨hD, rfl⟩⟩
        unfold execOp; rw [ho]
        simp [hp, Instr.fieldAt, run_underlying ht, hfd, Instr.sureAddr, fieldPlace, run_sz hk, adr_add]
      · cases h
    · cases h
  · cases h
/-- A part of a row of cells that is a value. -/
def aPart (P : Program) (t : TypeId) (l : List C) (off : Nat) : Option V := match isAg P t with
  | some true => match szOf P t with
    | some k => if off + k ≤ l.length then some (.agg ((l.drop off).take k)) else none
    | none => none
  | some false => (l[off]?).map .c
  | none => none
theorem part_ok {t : TypeId} {l : List C} {m : List Value} {off : Nat} {x : V} (hl : RL σ D l m) (h : aPart P t l off = some x) : ∃ v, RV σ D x v ∧ (part t m.toArray off).run P w = .ok v w := by
  unfold aPart at h
  split at h
  · rename_i ha
    split at h
    · rename_i k hk
      split at h
      · rename_i hle
        cases h
        refine ⟨.agg (m.toArray.extract off (off + k)), ⟨(m.drop off).take k, (hl.drop off).take k, ?_⟩, ?_⟩
        · rw [List.extract_toArray, List.extract_eq_take_drop, show off + k - off = k by omega]
        · simp [part, run_isAg ha, run_sz hk]
      · cases h
    · cases h
  · rename_i ha
    rw [Option.map_eq_some_iff] at h
    obtain ⟨c, h1, rfl⟩ := h
    obtain ⟨v, g1, g2⟩ := hl.get h1
    exact ⟨v, g2, by simp [part, run_isAg ha, g1]⟩
  · cases h
def aField (P : Program) (A : Operand → Option S) (t : TypeId) (x : Operand) (f : Nat) : Option (S × Ef) := match S.v? (A x), P.underlying t with
  | some (.agg l), some (.struct fs) => match fs[f]? with
    | some fd => (aPart P fd.type l fd.offset).map fun v => (.v v, .no 0)
    | none => none
  | _, _ => none
theorem field_ok {t : TypeId} {x : Operand} {f : Nat} {s : S} {e : Ef} (ho : o.op = .field t x f) (hA : Eqv σ D A ρ) (h : aField P A t x f = some (s, e)) (hs : Sat σ D (rst (tb e.F) H) w) : AOK P ρ o σ D w H n s e := by
  unfold aField at h
  split at h
  · rename_i l fs hx ht
    split at h
    · rename_i fd hfd
      rw [Option.map_eq_some_iff] at h
      obtain ⟨v, h1, h2⟩ := h
      cases h2
      obtain ⟨m, g1, g2⟩ := hA.v hx
      obtain ⟨u, k1, k2⟩ := part_ok (P := P) (w := w) g1 h1
      refine ⟨.value u, u, _, _, did_no hs ?_ (.inl rfl) k1⟩
      unfold execOp; rw [ho]
      simp [g2, Instr.field, run_underlying ht, hfd, asAgg, k2]
    · cases h
  · cases h
def aIa (P : Program) (A : Operand → Option S) (t : TypeId) (x y : Operand) : Option (S × Ef) := match S.c? (A x), S.c? (A y), P.underlying t with
  | some (.sl i off len _), some (.int _ k), some (.slice el) => match szOf P el with
    | some sz => if 0 ≤ k ∧ k < len then some (.v (.c (.ptr i (off + k.toNat * sz))), .no 0) else none
    | none => none
  | some (.ptr i off), some (.int _ k), some (.array len el) => match szOf P el with
    | some sz => if 0 ≤ k ∧ k < len then some (.v (.c (.ptr i (off + k.toNat * sz))), .no 0) else none
    | none => none
  | some (.sg i m _), some (.int _ (.ofNat k)), some (.slice el) => match szOf P el with
    | some 1 => if k < m then some (.v (.c (.xp i k)), .no 0) else none
    | _ => none
  | _, _, _ => none
theorem sl_val {i off len : Nat} {cp : Cp} {v : Value} (h : RC σ D (.sl i off len cp) v) : D i ∧ ∃ c, v = .slice (some (adr (σ i) off)) len c := by
  cases cp with
  | ex c => exact ⟨h.1, c, h.2⟩
  | op sz => obtain ⟨h1, c, h2, _⟩ := h; exact ⟨h1, c, h2⟩
theorem ia_ok {t : TypeId} {x y : Operand} {s : S} {e : Ef} (ho : o.op = .indexAddr t x y) (hA : Eqv σ D A ρ) (h : aIa P A t x y = some (s, e)) (hs : Sat σ D (rst (tb e.F) H) w) : AOK P ρ o σ D w H n s e := by
  unfold aIa at h
  split at h
  · rename_i i off len cp q k el hx hy ht
    split at h
    · rename_i sz hsz
      split at h
      · rename_i hk
        cases h
        obtain ⟨hD, c, hp⟩ := sl_val (hA.c hx)
        have hk2 := hA.c hy
        refine ⟨.value _, .pointer (some (adr (σ i) (off + k.toNat * sz))), _, _, did_no hs ?_ (.inl rfl) ⟨hD, rfl⟩⟩
        unfold execOp; rw [ho]
        simp [hp, show ρ y = .int q k from hk2, Instr.indexAt, asIntOf, run_underlying ht, hk, run_sz hsz, adr_add]
      · cases h
    · cases h
  · rename_i i off q k len el hx hy ht
    split at h
    · rename_i sz hsz
      split at h
      · rename_i hk
        cases h
        obtain ⟨hD, hp⟩ := hA.c hx
        have hk2 := hA.c hy
        refine ⟨.value _, .pointer (some (adr (σ i) (off + k.toNat * sz))), _, _, did_no hs ?_ (.inl rfl) ⟨hD, rfl⟩⟩
        unfold execOp; rw [ho]
        simp [hp, show ρ y = .int q k from hk2, Instr.indexAt, Instr.sureAddr, asIntOf, run_underlying ht, hk, run_sz hsz, adr_add]
      · cases h
    · cases h
  · rename_i i m ex q k el hx hy ht
    split at h
    · rename_i hsz
      split at h
      · rename_i hk
        cases h
        obtain ⟨hD, hb, len, c, hp, hml, _⟩ := hA.c hx
        have hk2 : ρ y = .int q (k : Int) := hA.c hy
        have hlt : k < len := by omega
        refine ⟨.value _, .pointer (some ((Env.row i).add k)), _, _, did_no hs ?_ (.inl rfl) ⟨hD, hb, rfl⟩⟩
        unfold execOp; rw [ho]
        simp [hp, hk2, Instr.indexAt, asIntOf, run_underlying ht, hlt, run_sz hsz]
      · cases h
    · cases h
  · cases h
def aIx (P : Program) (A : Operand → Option S) (t : TypeId) (x y : Operand) : Option (S × Ef) := match S.v? (A x), S.c? (A y), P.underlying t with
  | some (.c (.str b)), some (.int _ k), some .string => if 0 ≤ k then (b[k.toNat]?).map fun u => (.v (.c (.int .u8 u.toNat)), .no 0) else none
  | some (.agg l), some (.int _ k), some (.array len el) => match szOf P el with
    | some sz => if 0 ≤ k ∧ k < len then (aPart P el l (k.toNat * sz)).map fun v => (.v v, .no 0) else none
    | none => none
  | _, _, _ => none
theorem ix_ok {t : TypeId} {x y : Operand} {s : S} {e : Ef} (ho : o.op = .index t x y) (hA : Eqv σ D A ρ) (h : aIx P A t x y = some (s, e)) (hs : Sat σ D (rst (tb e.F) H) w) : AOK P ρ o σ D w H n s e := by
  unfold aIx at h
  split at h
  · rename_i b q k hx hy ht
    split at h
    · rename_i hk
      rw [Option.map_eq_some_iff] at h
      obtain ⟨u, h1, h2⟩ := h
      cases h2
      have hp : ρ x = .string ⟨b.toArray⟩ := hA.v hx
      have hk2 := hA.c hy
      refine ⟨.value _, .int .u8 u.toNat, _, _, did_no hs ?_ (.inl rfl) rfl⟩
      unfold execOp; rw [ho]
      have hb : (ByteArray.mk b.toArray)[k.toNat]? = some u := by
        obtain ⟨hlt, hu⟩ := List.getElem?_eq_some_iff.1 h1
        have hlt2 : k.toNat < (ByteArray.mk b.toArray).size := by simpa [ByteArray.size] using hlt
        rw [getElem?_pos (ByteArray.mk b.toArray) k.toNat hlt2]
        exact congrArg some hu
      simp [hp, show ρ y = .int q k from hk2, Instr.index, asIntOf, run_underlying ht, hk, hb]
    · cases h
  · rename_i l q k len el hx hy ht
    split at h
    · rename_i sz hsz
      split at h
      · rename_i hk
        rw [Option.map_eq_some_iff] at h
        obtain ⟨v, h1, h2⟩ := h
        cases h2
        obtain ⟨m, g1, g2⟩ := hA.v hx
        have hk2 := hA.c hy
        obtain ⟨u, k1, k2⟩ := part_ok (P := P) (w := w) g1 h1
        refine ⟨.value u, u, _, _, did_no hs ?_ (.inl rfl) k1⟩
        unfold execOp; rw [ho]
        simp [g2, show ρ y = .int q k from hk2, Instr.index, asIntOf, run_underlying ht, hk, run_sz hsz, k2]
      · cases h
    · cases h
  · cases h
/-! ### Slices of slices -/
def natOf : Option S → Option Nat
  | some (.v (.c (.int _ (.ofNat k)))) => some k
  | _ => none
theorem natOf_ok {x : Operand} {k : Nat} (hA : Eqv σ D A ρ) (h : natOf (A x) = some k) : ∃ q, ρ x = .int q k := by
  unfold natOf at h
  split at h
  · rename_i q j e
    cases h
    exact ⟨q, hA x _ e⟩
  · cases h
def lowOf (A : Operand → Option S) : Option Operand → Option Nat | none => some 0 | some x => natOf (A x)
def highOf (A : Operand → Option S) (len : Nat) : Option Operand → Option Nat | none => some len | some x => natOf (A x)
theorem bounds_ok {b : Bool} {lo hi : Option Operand} {len cap l hh : Nat} (hA : Eqv σ D A ρ) (hl : lowOf A lo = some l) (hh1 : highOf A len hi = some hh) (h1 : l ≤ hh) (h2 : hh ≤ cap) :
    (Instr.sliceBounds b len cap (lo.map ρ) (hi.map ρ) none).run P w = .ok (l, hh, cap) w := by
  cases lo with
  | none =>
    simp only [lowOf, Option.some.injEq] at hl; subst hl
    cases hi with
    | none => simp only [highOf, Option.some.injEq] at hh1; subst hh1; simp [Instr.sliceBounds]
    | some y =>
      obtain ⟨q, e⟩ := natOf_ok hA hh1
      simp [Instr.sliceBounds, Instr.sliceBound, e, asIntOf, h2]
  | some x =>
    obtain ⟨q, e⟩ := natOf_ok hA hl
    cases hi with
    | none => simp only [highOf, Option.some.injEq] at hh1; subst hh1; simp [Instr.sliceBounds, Instr.sliceBound, e, asIntOf, h1]
    | some y =>
      obtain ⟨q2, e2⟩ := natOf_ok hA hh1
      simp [Instr.sliceBounds, Instr.sliceBound, e, e2, asIntOf, h1, h2]
def aSl (P : Program) (A : Operand → Option S) (t : TypeId) (x : Operand) (lo hi mx : Option Operand) : Option (S × Ef) := match mx, S.c? (A x), P.underlying t with
  | none, some (.sl i off len (.ex c)), some (.slice el) => match lowOf A lo, highOf A len hi, szOf P el with
    | some l, some h, some sz => if l ≤ h ∧ h ≤ c then some (.v (.c (.sl i (if c = l then off else off + l * sz) (h - l) (.ex (c - l)))), .no 0) else none
    | _, _, _ => none
  | none, some (.sl i off len (.op s1)), some (.slice el) => match lowOf A lo, highOf A len hi, szOf P el with
    | some l, some h, some sz => if l ≤ h ∧ h ≤ len ∧ s1 = sz then some (.v (.c (if l < len ∨ l = 0 then .sl i (off + l * sz) (h - l) (.op sz) else .se)), .no 0) else none
    | _, _, _ => none
  | none, some .snil, some (.slice el) => match lowOf A lo, highOf A 0 hi, szOf P el with
    | some 0, some 0, some _ => some (.v (.c .snil), .no 0)
    | _, _, _ => none
  | none, some (.str b), some .string => match lowOf A lo, highOf A b.length hi with
    | some l, some h => if l ≤ h ∧ h ≤ b.length then some (.v (.c (.str ((b.drop l).take (h - l)))), .no 0) else none
    | _, _ => none
  | _, _, _ => none
theorem sl_ok {t : TypeId} {x : Operand} {lo hi mx : Option Operand} {s : S} {e : Ef} (ho : o.op = .slice t x lo hi mx) (hA : Eqv σ D A ρ) (h : aSl P A t x lo hi mx = some (s, e)) (hs : Sat σ D (rst (tb e.F) H) w) : AOK P ρ o σ D w H n s e := by
  unfold aSl at h
  split at h
  · rename_i i off len c el hx ht
    split at h
    · rename_i l hh sz hl hh1 hsz
      split at h
      · rename_i hb
        cases h
        obtain ⟨hD, hp⟩ := hA.c hx
        have hbd := bounds_ok (P := P) (w := w) (b := true) hA hl hh1 hb.1 hb.2
        refine ⟨.value _, .slice (some (adr (σ i) (if c = l then off else off + l * sz))) (hh - l) (c - l), _, _, did_no hs ?_ (.inl rfl) ⟨hD, rfl⟩⟩
        unfold execOp; rw [ho]
        simp [hp, Instr.sliceAt, Instr.slice, run_underlying ht, hbd, run_sz hsz]
        split <;> simp [adr_add]
      · cases h
    · cases h
  · rename_i i off len s1 el hx ht
    split at h
    · rename_i l hh sz hl hh1 hsz
      split at h
      · rename_i hb
        cases h
        obtain ⟨hb1, hb2, rfl⟩ := hb
        obtain ⟨hD, c, hp, hc1, hc2, hc3⟩ := hA.c hx
        have hbd := bounds_ok (P := P) (w := w) (b := true) hA hl hh1 hb1 (Nat.le_trans hb2 hc1)
        by_cases hlt : l < len ∨ l = 0
        · refine ⟨.value _, .slice (some (adr (σ i) (off + l * s1))) (hh - l) (c - l), _, _, did_no hs ?_ (.inl rfl) ?_⟩
          · unfold execOp; rw [ho]
            simp [hp, Instr.sliceAt, Instr.slice, run_underlying ht, hbd, run_sz hsz]
            by_cases e0 : c = l
            · have : l = 0 := by omega
              subst this
              simp [e0]
            · simp [e0, adr_add]
          · rw [if_pos hlt]
            refine ⟨hD, c - l, rfl, by omega, by omega, ?_⟩
            have := Nat.mul_le_mul_right s1 (show l ≤ c by omega)
            rw [← hc3, Nat.sub_mul]
            omega
        · have hh0 : hh - l = 0 := by omega
          refine ⟨.value _, .slice (some (if c = l then adr (σ i) off else adr (σ i) (off + l * s1))) 0 (c - l), _, _, did_no hs ?_ (.inl rfl) (by rw [if_neg hlt]; exact ⟨_, _, rfl⟩)⟩
          unfold execOp; rw [ho]
          simp [hp, Instr.sliceAt, Instr.slice, run_underlying ht, hbd, run_sz hsz, hh0, adr_add]
          split <;> rfl
      · cases h
    · cases h
  · rename_i el hx ht
    split at h
    · rename_i hl hh1 hsz
      cases h
      have hp : ρ x = .slice none 0 0 := hA.c hx
      have hbd := bounds_ok (P := P) (w := w) (b := true) (cap := 0) hA hl hh1 (Nat.le_refl _) (Nat.le_refl _)
      refine ⟨.value _, .slice none 0 0, _, _, did_no hs ?_ (.inl rfl) rfl⟩
      unfold execOp; rw [ho]
      simp [hp, Instr.sliceAt, Instr.slice, run_underlying ht, hbd, run_sz hsz]
    · cases h
  · rename_i b hx ht
    split at h
    · rename_i l hh hl hh1
      split at h
      · rename_i hb
        cases h
        have hp : ρ x = .string ⟨b.toArray⟩ := hA.c hx
        have hsz : (ByteArray.mk b.toArray).size = b.length := by simp [ByteArray.size]
        have hbd := bounds_ok (P := P) (w := w) (b := false) (cap := b.length) hA hl hh1 hb.1 hb.2
        refine ⟨.value _, .string ⟨((b.drop l).take (hh - l)).toArray⟩, _, _, did_no hs ?_ (.inl rfl) rfl⟩
        unfold execOp; rw [ho]
        have hex : (ByteArray.mk b.toArray).extract l hh = ⟨((b.drop l).take (hh - l)).toArray⟩ := by
          apply ByteArray.ext
          rw [ByteArray.data_extract]
          simp [List.extract_eq_take_drop]
        simp [hp, Instr.sliceAt, Instr.slice, run_underlying ht, hsz, hbd, hex]
      · cases h
    · cases h
  · cases h
end
end Go.Proofs.YtcmlgmiomcegeaaGreat.Ev
namespace Go.Proofs.YtcmlgmiomcegeaaGreat.Ev
open Go Go.RowKit Go.Maps
set_option linter.unusedVariables false
set_option linter.unusedSimpArgs false
set_option linter.unusedSectionVars false
variable [Env]

section
variable {P : Program} {ρ : Operand → Value} {o : Oper} {σ : Nat → Blk} {D : Nat → Prop} {w : World} {H : Heap} {n : Nat} {A : Operand → Option S}
def aNil (A : Operand → Option S) (x : Operand) : Option (S × Ef) := match S.c? (A x) with
  | some (.ptr i off) => some (.v (.c (.ptr i off)), .no 0)
  | some (.fn f cap) => some (.v (.c (.fn f cap)), .no 0)
  | some (.bm f i off) => some (.v (.c (.bm f i off)), .no 0)
  | _ => none
theorem nil_ok {x : Operand} {s : S} {e : Ef} (ho : o.op = .nilCheck x) (hA : Eqv σ D A ρ) (h : aNil A x = some (s, e)) (hs : Sat σ D (rst (tb e.F) H) w) : AOK P ρ o σ D w H n s e := by
  unfold aNil at h
  split at h
  · rename_i i off hx
    cases h
    have hp := hA.c hx
    refine ⟨.value (ρ x), ρ x, _, _, did_no hs ?_ (.inl rfl) hp⟩
    unfold execOp; rw [ho]; simp [hp.2]
  · rename_i f cap hx
    cases h
    have hp := hA.c hx
    refine ⟨.value (ρ x), ρ x, _, _, did_no hs ?_ (.inl rfl) hp⟩
    unfold execOp; rw [ho]; simp [hp.2]
  · rename_i f i off hx
    cases h
    have hp := hA.c hx
    refine ⟨.value (ρ x), ρ x, _, _, did_no hs ?_ (.inl rfl) hp⟩
    unfold execOp; rw [ho]; simp [hp.2]
  · cases h
def bitsC (op : BinOp) (k : IntKind) (x y : Int) : Option Int :=
  let a := BitVec.ofInt k.bits x
  let b := BitVec.ofInt k.bits y
  match op with
  | .and => some (k.wrap (a &&& b).toNat) | .or => some (k.wrap (a ||| b).toNat) | .xor => some (k.wrap (a ^^^ b).toNat) | .andNot => some (k.wrap (a &&& ~~~b).toNat) | _ => none
def intC (op : BinOp) (k : IntKind) (x : Int) (k' : IntKind) (y : Int) : Option C := match op with
  | .shl => if 0 ≤ y then some (.int k (k.wrap (x * 2 ^ (min y.toNat k.bits)))) else none
  | .shr => if 0 ≤ y then some (.int k (x.fdiv (2 ^ (min y.toNat k.bits)))) else none
  | .add => if k = k' then some (.int k (k.wrap (x + y))) else none
  | .sub => if k = k' then some (.int k (k.wrap (x - y))) else none
  | .mul => if k = k' then some (.int k (k.wrap (x * y))) else none
  | .quo => if k = k' ∧ y ≠ 0 then some (.int k (k.wrap (x.tdiv y))) else none
  | .rem => if k = k' ∧ y ≠ 0 then some (.int k (x.tmod y)) else none
  | .eql => if k = k' then some (.bool (x == y)) else none
  | .neq => if k = k' then some (.bool (x != y)) else none
  | .lss => if k = k' then some (.bool (decide (x < y))) else none
  | .leq => if k = k' then some (.bool (decide (x ≤ y))) else none
  | .gtr => if k = k' then some (.bool (decide (y < x))) else none
  | .geq => if k = k' then some (.bool (decide (y ≤ x))) else none
  | op => if k = k' then (bitsC op k x y).map (.int k) else none
theorem intC_ok {op : BinOp} {k k' : IntKind} {x y : Int} {c : C} (t : TypeId) (h : intC op k x k' y = some c) : ∃ v, RC σ D c v ∧ (binOp op t (.int k x) (.int k' y)).run P w = .ok v w := by
  cases op <;> simp only [intC] at h
  case shl =>
    split at h
    · rename_i hy; cases h
      exact ⟨_, rfl, by simp [binOp, Op.shift, show ¬ y < 0 by omega]⟩
    · cases h
  case shr =>
    split at h
    · rename_i hy; cases h
      exact ⟨_, rfl, by simp [binOp, Op.shift, show ¬ y < 0 by omega]⟩
    · cases h
  case quo =>
    split at h
    · rename_i hy; cases h; obtain ⟨rfl, hy⟩ := hy
      exact ⟨_, rfl, by simp [binOp, Op.intDiv, hy]⟩
    · cases h
  case rem =>
    split at h
    · rename_i hy; cases h; obtain ⟨rfl, hy⟩ := hy
      exact ⟨_, rfl, by simp [binOp, Op.intDiv, hy]⟩
    · cases h
  all_goals
    split at h
    · rename_i hk; subst hk
      first
        | (cases h; done)
        | (simp only [bitsC, Option.map_some, Option.map_none] at h; cases h; exact ⟨_, rfl, by simp only [binOp]; rw [if_neg (by simp)]; rfl⟩)
        | (cases h; exact ⟨_, rfl, by simp [binOp, Op.intArith, Op.intCmp]⟩)
        | (simp only [bitsC, Option.map_some, Option.map_none] at h; cases h; done)
    · cases h
def strC (op : BinOp) (a b : List UInt8) : Option C := match op with
  | .eql => some (.bool (a == b)) | .neq => some (.bool (!(a == b))) | .lss => some (.bool (Op.bytesLess a b)) | .leq => some (.bool (Op.bytesLess a b || a == b))
  | .gtr => some (.bool (!(Op.bytesLess a b || a == b))) | .geq => some (.bool (!Op.bytesLess a b))
  | .add => if a.length + b.length ≤ 1000000000 then some (.str (a ++ b)) else none
  | _ => none
theorem strC_ok {op : BinOp} {a b : List UInt8} {c : C} (t : TypeId) (h : strC op a b = some c) : ∃ v, RC σ D c v ∧ (binOp op t (.string ⟨a.toArray⟩) (.string ⟨b.toArray⟩)).run P w = .ok v w := by
  cases op <;> simp only [strC] at h <;> first | (cases h; done) | skip
  case add =>
    split at h
    · rename_i hl
      cases h
      refine ⟨_, rfl, ?_⟩
      have e : (ByteArray.mk a.toArray ++ ByteArray.mk b.toArray) = ⟨(a ++ b).toArray⟩ := by
        apply ByteArray.ext
        simp
      have hm : ¬ (IntKind.i64.max < ((((ByteArray.mk a.toArray).size + (ByteArray.mk b.toArray).size : Nat)) : Int)) := by
        simp only [IntKind.max, IntKind.signed, IntKind.bits, ByteArray.size, List.size_toArray]
        omega
      simp only [binOp, Op.stringOp]
      rw [if_neg hm, e]
      rfl
    · cases h
  all_goals
    cases h
    exact ⟨_, rfl, by simp [binOp, Op.stringOp]⟩
def eqC (op : BinOp) (b : Bool) : Option C := match op with | .eql => some (.bool b) | .neq => some (.bool (!b)) | _ => none
/-- Truths; a slice, a place against none. -/
def othC (P : Program) (op : BinOp) (t : TypeId) (x y : C) : Option C := match x, y, P.underlying t with
  | .bool a, .bool b, some .bool => eqC op (a == b)
  | .sl _ _ _ _, .snil, some (.slice _) => eqC op false
  | .snil, .snil, some (.slice _) => eqC op true
  | .ptr _ _, .nilp, some (.pointer _) => eqC op false
  | .nilp, .nilp, some (.pointer _) => eqC op true
  | .nilp, .ptr _ _, some (.pointer _) => eqC op false
  | .fn _ _, .nilf, some (.func _ _ _) => eqC op false
  | .nilf, .nilf, some (.func _ _ _) => eqC op true
  | .map _, .mapn, some (.map _ _) => eqC op false
  | .mapn, .mapn, some (.map _ _) => eqC op true
  | _, _, _ => none
theorem eqC_ok {op : BinOp} {b : Bool} {c : C} {t : TypeId} {x y : Value} (h : eqC op b = some c) (hb : ∀ op', op' = .eql ∨ op' = .neq → binOp op' t x y = (match op' with | .eql => (do pure (.bool (← Op.equal t x y))) | _ => (do pure (.bool (!(← Op.equal t x y)))))) (he : (Op.equal t x y).run P w = .ok b w) : ∃ v, RC σ D c v ∧ (binOp op t x y).run P w = .ok v w := by
  unfold eqC at h
  split at h
  · cases h
    exact ⟨.bool b, rfl, by rw [hb .eql (.inl rfl)]; simp [he]⟩
  · cases h
    exact ⟨.bool (!b), rfl, by rw [hb .neq (.inr rfl)]; simp [he]⟩
  · cases h
theorem othC_ok {op : BinOp} {x y c : C} {t : TypeId} {a b : Value} (h : othC P op t x y = some c) (ha : RC σ D x a) (hb : RC σ D y b) : ∃ v, RC σ D c v ∧ (binOp op t a b).run P w = .ok v w := by
  unfold othC at h
  split at h
  · rename_i p q hu
    cases ha; cases hb
    refine eqC_ok h (fun op' ho => ?_) (run_equal_bool w t p q hu)
    rcases ho with rfl | rfl <;> rfl
  · rename_i i off len cp el hu
    obtain ⟨_, cc, rfl⟩ := sl_val ha
    cases hb
    refine eqC_ok h (fun op' ho => ?_) (run_equal_slice_nil w t el _ len cc hu)
    rcases ho with rfl | rfl <;> rfl
  · rename_i el hu
    cases ha; cases hb
    refine eqC_ok h (fun op' ho => ?_) (run_equal_slice_nil w t el none 0 0 hu)
    rcases ho with rfl | rfl <;> rfl
  · rename_i i off el hu
    obtain ⟨_, rfl⟩ := ha
    cases hb
    refine eqC_ok h (fun op' ho => ?_) (run_equal_pointer_nil w t _ (by rw [hu]; simp [Program.pointee, hu]))
    rcases ho with rfl | rfl <;> rfl
  · rename_i el hu
    cases ha; cases hb
    refine eqC_ok h (fun op' ho => ?_) (run_equal_pointer_nil w t _ (by rw [hu]; simp [Program.pointee, hu]))
    rcases ho with rfl | rfl <;> rfl
  · rename_i i off el hu
    cases ha
    obtain ⟨_, rfl⟩ := hb
    refine eqC_ok h (fun op' ho => ?_) (show (Op.equalIn (9999 + 1) t _ _).run P w = _ by unfold Op.equalIn; rw [Sem.run_bind, run_underlying hu w]; rfl)
    rcases ho with rfl | rfl <;> rfl
  · rename_i f cap el r v hu
    obtain ⟨_, rfl⟩ := ha
    cases hb
    refine eqC_ok h (fun op' ho => ?_) (show (Op.equalIn (9999 + 1) t _ _).run P w = _ by unfold Op.equalIn; rw [Sem.run_bind, run_underlying hu w]; rfl)
    rcases ho with rfl | rfl <;> rfl
  · rename_i el r v hu
    cases ha; cases hb
    refine eqC_ok h (fun op' ho => ?_) (show (Op.equalIn (9999 + 1) t _ _).run P w = _ by unfold Op.equalIn; rw [Sem.run_bind, run_underlying hu w]; rfl)
    rcases ho with rfl | rfl <;> rfl
  · rename_i i kt et hu
    obtain ⟨_, rfl⟩ := ha
    cases hb
    refine eqC_ok h (fun op' ho => ?_) (show (Op.equalIn (9999 + 1) t _ _).run P w = _ by unfold Op.equalIn; rw [Sem.run_bind, run_underlying hu w]; rfl)
    rcases ho with rfl | rfl <;> rfl
  · rename_i kt et hu
    cases ha; cases hb
    refine eqC_ok h (fun op' ho => ?_) (show (Op.equalIn (9999 + 1) t _ _).run P w = _ by unfold Op.equalIn; rw [Sem.run_bind, run_underlying hu w]; rfl)
    rcases ho with rfl | rfl <;> rfl
  · cases h
/-- Some truth. -/
def geC (op : BinOp) (k : IntKind) (a m : Int) : Option C := match k, op with
  | .i64, .lss => if a < m then some (.bool true) else some .ub
  | .i64, .leq => if a ≤ m then some (.bool true) else some .ub
  | _, _ => none
def binC (P : Program) (op : BinOp) (t : TypeId) : C → C → Option C
  | .int k a, .int k' b => intC op k a k' b
  | .str a, .str b => strC op a b
  | .int k a, .ge m => geC op k a m
  | x, y => othC P op t x y
def aBin (P : Program) (A : Operand → Option S) (op : BinOp) (t : TypeId) (x y : Operand) : Option (S × Ef) := match S.c? (A x), S.c? (A y) with
  | some a, some b => (binC P op t a b).map fun c => (.v (.c c), .no 0)
  | _, _ => none
theorem guard_ok {op : BinOp} {t : TypeId} {x y : Operand} {a b : Value} (ha : a.oneCell' = true) (hn : a ≠ .nilIface) : (eqGuard op t x y a b).run P w = .ok () w := by
  unfold eqGuard
  cases op <;> first | rfl | (cases a <;> first | rfl | (exact absurd rfl hn) | (cases ha))
theorem bin_ok {op : BinOp} {t ty : TypeId} {x y : Operand} {s : S} {e : Ef} (ho : o.op = .binOp op t x y ty) (hA : Eqv σ D A ρ) (h : aBin P A op t x y = some (s, e)) (hs : Sat σ D (rst (tb e.F) H) w) : AOK P ρ o σ D w H n s e := by
  unfold aBin at h
  split at h
  · rename_i a b hx hy
    rw [Option.map_eq_some_iff] at h
    obtain ⟨c, h1, h2⟩ := h
    cases h2
    have ha := hA.c hx
    have hb := hA.c hy
    have key : ρ x ≠ .nilIface ∧ ∃ v, RC σ D c v ∧ (binOp op t (ρ x) (ρ y)).run P w = .ok v w := by
      unfold binC at h1
      split at h1
      · rename_i k p k' q
        rw [show ρ x = .int k p from ha, show ρ y = .int k' q from hb]
        exact ⟨by simp, intC_ok t h1⟩
      · rename_i p q
        rw [show ρ x = .string ⟨p.toArray⟩ from ha, show ρ y = .string ⟨q.toArray⟩ from hb]
        exact ⟨by simp, strC_ok t h1⟩
      · rename_i k p m
        obtain ⟨z, hz, hmz⟩ := hb
        rw [show ρ x = .int k p from ha, hz]
        refine ⟨by simp, ?_⟩
        unfold geC at h1
        split at h1
        · obtain ⟨v, g1, g2⟩ := intC_ok (P := P) (σ := σ) (D := D) (w := w) (k := .i64) (k' := .i64) (x := p) (y := z) (op := .lss) t (show intC .lss .i64 p .i64 z = some (.bool (decide (p < z))) by simp [intC])
          cases show v = .bool _ from g1
          split at h1
          · rename_i hlt
            cases h1
            exact ⟨_, show (_ : Value) = .bool true by rw [decide_eq_true (show p < z by omega)], g2⟩
          · cases h1; exact ⟨_, ⟨_, rfl⟩, g2⟩
        · obtain ⟨v, g1, g2⟩ := intC_ok (P := P) (σ := σ) (D := D) (w := w) (k := .i64) (k' := .i64) (x := p) (y := z) (op := .leq) t (show intC .leq .i64 p .i64 z = some (.bool (decide (p ≤ z))) by simp [intC])
          cases show v = .bool _ from g1
          split at h1
          · rename_i hlt
            cases h1
            exact ⟨_, show (_ : Value) = .bool true by rw [decide_eq_true (show p ≤ z by omega)], g2⟩
          · cases h1; exact ⟨_, ⟨_, rfl⟩, g2⟩
        · cases h1
      · refine ⟨fun e => ?_, othC_ok h1 ha hb⟩
        rw [e] at ha
        unfold othC at h1
        split at h1 <;> first | (cases ha; done) | (cases h1; done) | (obtain ⟨_, h⟩ := ha; cases h; done) | (obtain ⟨_, _, h⟩ := sl_val ha; cases h; done)
    obtain ⟨hne, v, g1, g2⟩ := key
    refine ⟨.value v, v, _, _, did_no hs ?_ (.inl rfl) g1⟩
    unfold execOp; rw [ho]
    simp [guard_ok ha.one hne, g2]
  · cases h
def aUn (A : Operand → Option S) (op : UnOp) (x : Operand) : Option (S × Ef) := match op, S.c? (A x) with
  | .not, some (.bool b) => some (.v (.c (.bool (!b))), .no 0)
  | .neg, some (.int k n) => some (.v (.c (.int k (k.wrap (0 - n)))), .no 0)
  | .xor, some (.int k n) => (bitsC .xor k (if k.signed then -1 else k.max) n).map fun v => (.v (.c (.int k v)), .no 0)
  | _, _ => none
theorem un_ok {op : UnOp} {t : TypeId} {x : Operand} {s : S} {e : Ef} (ho : o.op = .unOp op t x) (hA : Eqv σ D A ρ) (h : aUn A op x = some (s, e)) (hs : Sat σ D (rst (tb e.F) H) w) : AOK P ρ o σ D w H n s e := by
  unfold aUn at h
  split at h
  · rename_i b hx
    cases h
    have hp : ρ x = .bool b := hA.c hx
    exact ⟨.value _, .bool (!b), _, _, did_no hs (by unfold execOp; rw [ho]; simp [hp, Op.unary]) (.inl rfl) rfl⟩
  · rename_i k m hx
    cases h
    have hp : ρ x = .int k m := hA.c hx
    exact ⟨.value _, .int k (k.wrap (0 - m)), _, _, did_no hs (by unfold execOp; rw [ho]; simp [hp, Op.unary, Op.intArith]) (.inl rfl) rfl⟩
  · rename_i k m hx
    simp only [bitsC, Option.map_some, Option.some.injEq] at h
    cases h
    have hp : ρ x = .int k m := hA.c hx
    exact ⟨.value _, _, _, _, did_no hs (by unfold execOp; rw [ho]; simp [hp, Op.unary, Op.intBits]) (.inl rfl) rfl⟩
  · cases h
def u8L : List C → Option (List UInt8)
  | [] => some []
  | .int .u8 m :: l => if 0 ≤ m ∧ m < 256 then (u8L l).map fun r => UInt8.ofNat m.toNat :: r else none
  | _ => none
theorem u8L_ok : ∀ {l : List C} {m : List Value} {r : List UInt8}, u8L l = some r → RL σ D l m → r.length = m.length ∧ ∀ j (hj : j < r.length), m[j]? = some (.int .u8 (r[j].toNat : Int))
  | [], [], r, h, _ => by simp only [u8L, Option.some.injEq] at h; subst h; exact ⟨rfl, fun j hj => absurd hj (Nat.not_lt_zero _)⟩
  | .int .u8 k :: l, v :: m, r, h, hl => by
    simp only [u8L] at h
    split at h
    · rename_i hk
      rw [Option.map_eq_some_iff] at h
      obtain ⟨r', h1, rfl⟩ := h
      obtain ⟨g1, g2⟩ := u8L_ok h1 hl.2
      refine ⟨by simp [g1], fun j hj => ?_⟩
      cases j with
      | zero =>
        rw [List.getElem?_cons_zero, show v = .int .u8 k from hl.1]
        congr 2
        simp only [List.getElem_cons_zero, UInt8.toNat_ofNat']
        omega
      | succ j => simpa using g2 j (by simpa using hj)
    · cases h
def Kd.cells : Kd → Bool | .ok => true | .rd => true | _ => false
theorem freeze_ok {i : Nat} {ob : AO} (h : ObjAt σ D i ob w) (hk : ob.k.cells = true) (off : Nat) :
    ∃ w', (markStringish (adr (σ i) off)).run P w = .ok () w' ∧ ObjAt σ D i { ob with k := .rd } w' ∧ Tch (fun k => k = (σ i).b) w w' := by
  have hc : ObjCells σ D i ob w := by
    unfold ObjAt at h
    split at h
    · rename_i e; rw [e] at hk; cases hk
    · rename_i e; rw [e] at hk; cases hk
    · rename_i e; rw [e] at hk; cases hk
    · rename_i e; rw [e] at hk; cases hk
    · exact h
  obtain ⟨cur, fr, h1, h0, h2, h3, h4, h5⟩ := hc
  have hlt : (σ i).b < w.heap.size := (Array.getElem?_eq_some_iff.1 h1).1
  have hget : w.heap[(σ i).b] = .cells cur ob.ty fr := (Array.getElem?_eq_some_iff.1 h1).2
  refine ⟨w.freeze ⟨(σ i).b, cur.size, none⟩ 1, ?_, ?_, ?_⟩
  · simp [markStringish, adr, World.shape?, h1]
  · refine ⟨cur, (if fr.1 == fr.2 then (cur.size, cur.size + 1) else (min fr.1 cur.size, max fr.2 (cur.size + 1))), ?_, (fun e => by cases e), h2, h3, h4, h5⟩
    unfold World.freeze
    rw [if_neg (by decide)]
    show (w.heap.modify (σ i).b _)[(σ i).b]? = _
    rw [Array.getElem?_modify, if_pos rfl, h1]
    rfl
  · refine ⟨by unfold World.freeze; split <;> rfl, by unfold World.freeze; split <;> rfl, by unfold World.freeze; split <;> rfl, by unfold World.freeze; split <;> simp, fun k hk hn => ?_⟩
    unfold World.freeze
    rw [if_neg (by decide)]
    show (w.heap.modify (σ i).b _)[k]? = _
    rw [Array.getElem?_modify, if_neg (fun e => hn e.symm)]
def aConv (P : Program) (H : Heap) (A : Operand → Option S) (n : Nat) (src dst : TypeId) (x : Operand) : Option (S × Ef) := match P.underlying src, P.underlying dst, S.c? (A x) with
  | some (.int _), some (.int k), some (.int _ m) => some (.v (.c (.int k (k.wrap m))), .no 0)
  | some .string, some .string, some (.str b) => some (.v (.c (.str b)), .no 0)
  | some (.slice e), some .string, some (.sl i off len _) => match P.underlying e, H i with
    | some (.int .u8), some ob => ((ldC ob off len).bind u8L).map fun b => (.v (.c (.str b)), .no (one i))
    | _, _ => none
  | some (.slice e), some .string, some .snil => match P.underlying e with
    | some (.int .u8) => some (.v (.c (.str [])), .no 0)
    | _ => none
  | some (.slice e), some (.slice _), some (.sl i off len cp) => match P.underlying e, H i with
    | some (.int .u8), some ob => if src = dst ∧ ob.k.cells = true then some (.v (.c (.sl i off len cp)), .set (one i) i { ob with k := .rd }) else none
    | _, _ => none
  | some .string, some (.slice e), some (.str b) => match P.underlying e with
    | some (.int .u8) => if b.length ≤ 1000000 then some (.v (.c (.sl n 0 b.length (.op 1))), .new 0 ⟨e, b.map fun u => C.int .u8 u.toNat, true, .rd⟩) else none
    | _ => none
  | _, _, _ => none
theorem conv_ok {src dst : TypeId} {x : Operand} {s : S} {e : Ef} (ho : o.op = .convert src dst x) (hA : Eqv σ D A ρ) (hD : n < e.n' n → ¬ D n) (h : aConv P H A n src dst x = some (s, e)) (hs : Sat σ D (rst (tb e.F) H) w) : AOK P ρ o σ D w H n s e := by
  unfold aConv at h
  split at h
  · rename_i k0 k k1 m h1 h2 hx
    cases h
    have hp : ρ x = .int k1 m := hA.c hx
    exact ⟨.value _, .int k (k.wrap m), _, _, did_no hs (by unfold execOp; rw [ho]; simp [hp, convert, run_underlying h1, run_underlying h2, Conv.intToInt]) (.inl rfl) rfl⟩
  · rename_i b h1 h2 hx
    cases h
    have hp : ρ x = .string ⟨b.toArray⟩ := hA.c hx
    exact ⟨.value _, .string ⟨b.toArray⟩, _, _, did_no hs (by unfold execOp; rw [ho]; simp [hp, convert, run_underlying h1, run_underlying h2]) (.inl rfl) rfl⟩
  · rename_i el i off len cp h1 h2 hx
    split at h
    · rename_i ob h3 hob
      rw [Option.map_eq_some_iff] at h
      obtain ⟨b, g, h4⟩ := h
      cases h4
      rw [Option.bind_eq_some_iff] at g
      obtain ⟨l, g1, g2⟩ := g
      obtain ⟨hD, c, hp⟩ := sl_val (hA.c hx)
      obtain ⟨m, k1, k2, k3⟩ := ldC_ok (obj_of hs tb_one hob).2 g1
      obtain ⟨r1, r2⟩ := u8L_ok g2 k2
      have hbl : b.length = len := r1.trans k1
      have := run_convert_bytes_back (P := P) w src dst el (adr (σ i) off) c b h1 h3 h2 (fun j hj => k3 j _ (r2 j hj))
      rw [hbl] at this
      refine ⟨.value _, .string ⟨b.toArray⟩, _, _, did_no hs ?_ (.inl rfl) rfl⟩
      unfold execOp; rw [ho]
      simp [hp, this]
    · cases h
  · rename_i el h1 h2 hx
    split at h
    · rename_i h3
      cases h
      have hp : ρ x = .slice none 0 0 := hA.c hx
      refine ⟨.value _, .string ⟨[].toArray⟩, _, _, did_no hs ?_ (.inl rfl) rfl⟩
      have := run_convert_bytes_nil (P := P) w src el h1 h3 0 0 dst h2
      unfold execOp; rw [ho]
      simp [hp, this]
      rfl
    · cases h
  · rename_i el el2 i off len cp h1 h2 hx
    split at h
    · rename_i ob h3 hob
      split at h
      · rename_i hc
        cases h
        obtain ⟨rfl, hk⟩ := hc
        rw [h1] at h2; cases h2
        obtain ⟨hD, c, hp⟩ := sl_val (hA.c hx)
        obtain ⟨w', k1, k2, k3⟩ := freeze_ok (P := P) (obj_of hs tb_one hob).2 hk off
        refine ⟨.value (ρ x), ρ x, _, _, did_set hs tb_one (by rw [hob]; rfl) ?_ (.inl rfl) (hA.c hx) k3 k2⟩
        unfold execOp; rw [ho]
        simp [hp, convert, run_underlying h1, run_underlying h3, k1]
      · cases h
    · cases h
  · rename_i el b h1 h2 hx
    split at h
    · rename_i h3
      split at h
      · rename_i hbl
        cases h
        have hD' := hD (Nat.lt_succ_self n)
        have hp : ρ x = .string ⟨b.toArray⟩ := hA.c hx
        have hsz : (ByteArray.mk b.toArray).size = b.length := by simp [← ByteArray.size_data]
        have hr := run_bytes_of_string (P := P) w src dst el ⟨b.toArray⟩ h1 h2 h3
        rw [hsz] at hr
        have hcap := grownCap_ge w b.length 0 el
        have hcle := grownCap_le_maxLen w b.length 0 el (by unfold maxLen; omega)
        have hrow : (bytesRow ⟨b.toArray⟩ (grownCap w b.length 0 el)).size = grownCap w b.length 0 el := by
          simp only [bytesRow, Array.size_append, Array.size_map, Array.size_replicate, List.size_toArray, hsz]; omega
        have hsm : ∀ j, D j → at_ σ n ⟨w.heap.size, grownCap w b.length 0 el⟩ j = σ j := fun j hj => at_other (fun e => by subst e; exact hD' hj)
        refine ⟨_, .slice (some ⟨w.heap.size, 0, none⟩) b.length (grownCap w b.length 0 el), _, _, did_new (k := ⟨w.heap.size, grownCap w b.length 0 el⟩) (w' := w.drew.alloc (.cells (bytesRow ⟨b.toArray⟩ (grownCap w b.length 0 el)) el ((bytesRow ⟨b.toArray⟩ (grownCap w b.length 0 el)).size, (bytesRow ⟨b.toArray⟩ (grownCap w b.length 0 el)).size + 1))) hs hD' ?_ (.inl rfl) ?_ ((Tch.drew w).trans0 (Tch.alloc _ _)) (Nat.le_refl _) ?_⟩
        · unfold execOp; rw [ho]; simp only [hp, Sem.run_bind, hr, Result.andThen_ok, Sem.run_pure]
        · exact ⟨.inr ⟨Nat.le_refl _, Nat.lt_succ_self _⟩, _, by rw [at_same]; rfl, hcap, hcle, by rw [at_same]; simp⟩
        · refine ⟨_, _, by rw [at_same]; exact heap_alloc_new w.drew _, (fun h => by cases h), by rw [at_same]; exact hrow, ?_, (fun h => by cases h), fun j c e => ?_⟩
          · rw [at_same]; simpa using hcap
          · rw [List.getElem?_map, Option.map_eq_some_iff] at e
            obtain ⟨u, g1, g2⟩ := e
            refine ⟨.int .u8 u.toNat, ?_, by rw [← g2]; rfl⟩
            obtain ⟨hlt, hu⟩ := List.getElem?_eq_some_iff.1 g1
            unfold bytesRow
            rw [Array.getElem?_append_left (by simpa using hlt)]
            simp [g1]
      · cases h
    · cases h
  · cases h
end
end Go.Proofs.YtcmlgmiomcegeaaGreat.Ev
namespace Go.Proofs.YtcmlgmiomcegeaaGreat.Ev
open Go Go.RowKit Go.Maps
set_option linter.unusedVariables false
set_option linter.unusedSimpArgs false
set_option linter.unusedSectionVars false
variable [Env]

/-! ### Zeros -/
def zerosC (z : List C) (n : Nat) : List C := (List.range n).map fun i => z.getD (i % z.length) .nilp
theorem zeros_ok {σ : Nat → Blk} {D : Nat → Prop} {z : List C} {m : Array Value} {n : Nat} (h : RL σ D z m.toList) (hz : 0 < z.length) : RL σ D (zerosC z n) (madeCells m n).toList := by
  have hl := h.length
  rw [Array.length_toList] at hl
  refine RL.of (by simp [zerosC, madeCells]) (fun j c e => ?_)
  simp only [zerosC, List.getElem?_map, Option.map_eq_some_iff] at e
  obtain ⟨i, h1, h2⟩ := e
  obtain ⟨hlt, h1⟩ := List.getElem?_eq_some_iff.1 h1
  have hi : i = j := by rw [← h1]; simp
  subst hi
  have hm := Nat.mod_lt i hz
  have hc : z[i % z.length]? = some c := by
    rw [List.getElem?_eq_getElem hm]
    rw [List.getD_eq_getElem?_getD, List.getElem?_eq_getElem hm] at h2
    simpa using h2
  obtain ⟨v, g1, g2⟩ := h.get hc
  refine ⟨v, ?_, g2⟩
  have hj : i < n := by simpa using hlt
  rw [Array.getElem?_toList] at g1 ⊢
  have hm2 : i % m.size < m.size := by rw [hl]; exact hm
  have e1 : m[i % m.size] = v := by
    have : m[i % m.size]? = some v := by rw [hl]; exact g1
    exact (Array.getElem?_eq_some_iff.1 this).2
  simp [madeCells, Array.getElem?_map, Array.getElem?_range, hj, getElem!_pos m (i % m.size) hm2, e1]
theorem zeroCells_eq (z : Array Value) (n : Nat) : Builtin.zeroCells z n = madeCells z (n * z.size) := rfl
/-! ### Literals -/
def fillC (place : Nat → Option (Nat × Nat)) (cells : List C) : List (Nat × V) → Option (List C)
  | [] => some cells
  | (i, v) :: rest => match place i with
    | none => none
    | some (off, size) => if v.cells.length = size ∧ off + v.cells.length ≤ cells.length then fillC place (cells.take off ++ v.cells ++ cells.drop (off + v.cells.length)) rest else none
def RP (σ : Nat → Blk) (D : Nat → Prop) : List (Nat × V) → List (Nat × Value) → Prop
  | [], [] => True
  | a :: l, b :: m => (a.1 = b.1 ∧ RV σ D a.2 b.2) ∧ RP σ D l m
  | _, _ => False
theorem foldl_set : ∀ (vs : List Value) (k off : Nat) (a : Array Value), off + k + vs.length ≤ a.size → ((vs.zipIdx k).foldl (fun cs (p : Value × Nat) => cs.setIfInBounds (off + p.2) p.1) a).toList = a.toList.take (off + k) ++ vs ++ a.toList.drop (off + k + vs.length)
  | [], k, off, a, _ => by simp
  | v :: rest, k, off, a, h => by
    rw [List.zipIdx_cons, List.foldl_cons, foldl_set rest (k + 1) off _ (by simp at h ⊢; omega)]
    have e := list_seg_step a.toList (off + k) v rest (by simp at h ⊢; omega)
    simpa [Array.toList_setIfInBounds, Nat.add_assoc] using e
theorem fill_ok {σ : Nat → Blk} {D : Nat → Prop} {place : Nat → Option (Nat × Nat)} : ∀ {ps : List (Nat × V)} {qs : List (Nat × Value)} {cells r : List C} {m : Array Value}, RP σ D ps qs → RL σ D cells m.toList → fillC place cells ps = some r → ∃ m' : Array Value, RL σ D r m'.toList ∧ Instr.fill place m qs = some m'
  | [], [], cells, r, m, _, hm, h => by
    simp only [fillC, Option.some.injEq] at h; subst h
    exact ⟨m, hm, rfl⟩
  | (i, v) :: ps, (j, u) :: qs, cells, r, m, hp, hm, h => by
    obtain ⟨⟨h1, h2⟩, h3⟩ := hp
    simp only at h1 h2
    subst h1
    simp only [fillC] at h
    cases hpl : place i with
    | none => rw [hpl] at h; cases h
    | some os =>
      obtain ⟨off, size⟩ := os
      rw [hpl] at h
      simp only at h
      split at h
      · rename_i hc
        have hu := h2.cells
        have hul := hu.length
        rw [Array.length_toList] at hul
        have hml := hm.length
        rw [Array.length_toList] at hml
        have hfold := foldl_set u.cells.toList 0 off m (by simp; omega)
        have hnew : RL σ D (cells.take off ++ v.cells ++ cells.drop (off + v.cells.length)) (u.cells.zipIdx.foldl (fun cs (p : Value × Nat) => cs.setIfInBounds (off + p.2) p.1) m).toList := by
          have e : u.cells.zipIdx.foldl (fun cs (p : Value × Nat) => cs.setIfInBounds (off + p.2) p.1) m = (u.cells.toList.zipIdx 0).foldl (fun cs (p : Value × Nat) => cs.setIfInBounds (off + p.2) p.1) m := by
            rw [← Array.toList_zipIdx, Array.foldl_toList]
          rw [e, hfold]
          simp only [Nat.add_zero, Array.length_toList, hul]
          exact ((hm.take off).append hu).append (hm.drop _)
        obtain ⟨m', g1, g2⟩ := fill_ok h3 hnew h
        refine ⟨m', g1, ?_⟩
        simp only [Instr.fill, hpl]
        rw [if_neg (by simp; omega)]
        exact g2
      · cases h
  | [], _ :: _, _, _, _, hp, _, _ => hp.elim
  | _ :: _, [], _, _, _, hp, _, _ => hp.elim
def absP (A : Operand → Option S) : List (Nat × Operand) → Option (List (Nat × V))
  | [] => some []
  | (i, x) :: l => match S.v? (A x), absP A l with | some v, some m => some ((i, v) :: m) | _, _ => none
section
variable {P : Program} {ρ : Operand → Value} {o : Oper} {σ : Nat → Blk} {D : Nat → Prop} {w : World} {H : Heap} {n : Nat} {A : Operand → Option S}
theorem absP_ok (hA : Eqv σ D A ρ) : ∀ {l : List (Nat × Operand)} {m : List (Nat × V)}, absP A l = some m → RP σ D m (l.map fun (i, x) => (i, ρ x))
  | [], m, h => by simp only [absP, Option.some.injEq] at h; subst h; trivial
  | (i, x) :: l, m, h => by
    simp only [absP] at h
    split at h
    · rename_i v m' h1 h2
      simp only [Option.some.injEq] at h; subst h
      exact ⟨⟨rfl, hA.v h1⟩, absP_ok hA h2⟩
    · cases h
def zeroOf (P : Program) (t : TypeId) : Option (Value × List C) := match (P.info? t).bind (·.zero) with
  | some z => (absV z).map fun x => (z, x.cells)
  | none => none
theorem zeroOf_ok {t : TypeId} {z : Value} {l : List C} (h : zeroOf P t = some (z, l)) : RL σ D l z.cells.toList ∧ (∀ w, (zeroValue t).run P w = .ok z w) ∧ ∃ i, P.info? t = some i ∧ i.zero = some z := by
  unfold zeroOf at h
  split at h
  · rename_i z' hz
    rw [Option.map_eq_some_iff] at h
    obtain ⟨x, h1, h2⟩ := h
    cases h2
    cases hi : P.info? t with
    | none => rw [hi] at hz; cases hz
    | some i =>
      rw [hi] at hz
      have hz' : i.zero = some z := hz
      exact ⟨(absV_ok h1).cells, fun w => by simp [zeroValue, typeInfo, hi, hz'], i, rfl, hz'⟩
  · cases h
def placesOf (P : Program) (fs : List Field) : Option (List (Nat × Nat)) := fs.mapM (fun f => (P.info? f.type).map fun i => (f.offset, i.size))
def aBuild (P : Program) (A : Operand → Option S) (t : TypeId) (parts : Array (Nat × Operand)) : Option (S × Ef) := match absP A parts.toList, zeroOf P t, P.underlying t with
  | some ps, some (_, z), some (.struct fs) => match placesOf P fs.toList with
    | some pl => (fillC (pl.toArray[·]?) z ps).map fun r => (.v (.agg r), .no 0)
    | none => none
  | some ps, some (_, z), some (.array _ e) => match szOf P e with
    | some k => (fillC (fun i => some (i * k, k)) z ps).map fun r => (.v (.agg r), .no 0)
    | none => none
  | _, _, _ => none
theorem build_ok {t : TypeId} {parts : Array (Nat × Operand)} {s : S} {e : Ef} (ho : o.op = .build t parts) (hA : Eqv σ D A ρ) (h : aBuild P A t parts = some (s, e)) (hs : Sat σ D (rst (tb e.F) H) w) : AOK P ρ o σ D w H n s e := by
  unfold aBuild at h
  have hparts : ∀ {l}, absP A parts.toList = some l → RP σ D l ((parts.map fun (i, x) => (i, ρ x)).toList) := fun hl => by
    rw [Array.toList_map]; exact absP_ok hA hl
  split at h
  · rename_i ps z0 z fs h1 h2 h3
    split at h
    · rename_i pl hpl
      rw [Option.map_eq_some_iff] at h
      obtain ⟨r, h4, h5⟩ := h
      cases h5
      obtain ⟨hz, _, i, hi, hiz⟩ := zeroOf_ok (σ := σ) (D := D) h2
      obtain ⟨m', g1, g2⟩ := fill_ok (hparts h1) hz h4
      refine ⟨.value _, .agg m', _, _, did_no hs ?_ (.inl rfl) ⟨m'.toList, g1, by simp⟩⟩
      have hb : P.built t (parts.map fun (i, x) => (i, ρ x)).toList = some m' := by
        unfold Program.built
        simp only [hi, h3, hiz, show fs.toList.mapM (fun f => (P.info? f.type).map fun i => (f.offset, i.size)) = some pl from hpl]
        exact g2
      unfold execOp; rw [ho]
      simp [run_build w t _ m' hb]
    · cases h
  · rename_i ps z0 z len el h1 h2 h3
    split at h
    · rename_i k hk
      rw [Option.map_eq_some_iff] at h
      obtain ⟨r, h4, h5⟩ := h
      cases h5
      obtain ⟨hz, _, i, hi, hiz⟩ := zeroOf_ok (σ := σ) (D := D) h2
      obtain ⟨m', g1, g2⟩ := fill_ok (hparts h1) hz h4
      refine ⟨.value _, .agg m', _, _, did_no hs ?_ (.inl rfl) ⟨m'.toList, g1, by simp⟩⟩
      unfold szOf at hk
      rw [Option.map_eq_some_iff] at hk
      obtain ⟨ie, he1, he2⟩ := hk
      have hb : P.built t (parts.map fun (i, x) => (i, ρ x)).toList = some m' := by
        unfold Program.built
        simp only [hi, h3, hiz, he1, he2]
        exact g2
      unfold execOp; rw [ho]
      simp [run_build w t _ m' hb]
    · cases h
  · cases h
/-- New cells in a row. -/
theorem newrow_ok {s : S} {ty : TypeId} {l : List C} {m : Array Value} {v : Value} (hs : Sat σ D (rst (tb 0) H) w) (hD : ¬ D n) (hl : RL σ D l m.toList) (hv : ∀ σ' D', D' n → σ' n = ⟨w.heap.size, m.size⟩ → RS σ' D' s v)
    (hr : (execOp ρ o).run P w = .ok (.value v) (w.alloc (.cells m ty))) : AOK P ρ o σ D w H n s (.new 0 ⟨ty, l, false, .ok⟩) := by
  have hsm : ∀ i, D i → at_ σ n ⟨w.heap.size, m.size⟩ i = σ i := fun i hi => at_other (fun e => by subst e; exact hD hi)
  have hlen := hl.length
  rw [Array.length_toList] at hlen
  refine ⟨_, _, _, _, did_new (k := ⟨w.heap.size, m.size⟩) hs hD hr (.inl rfl) (hv _ _ (.inr ⟨Nat.le_refl _, Nat.lt_succ_self _⟩) at_same) (Tch.alloc _ _) (Nat.le_refl _) ?_⟩
  refine ⟨m, (0, 0), by rw [at_same]; exact heap_alloc_new _ _, fun _ => rfl, by rw [at_same], by rw [at_same]; exact Nat.le_of_eq hlen.symm, fun _ => by rw [at_same]; exact hlen.symm, fun j c e => ?_⟩
  obtain ⟨u, h1, h2⟩ := hl.get e
  exact ⟨u, by simpa using h1, h2.ext hsm (fun _ h => .inl h)⟩
def aBs (P : Program) (A : Operand → Option S) (n : Nat) (t : TypeId) (len : Nat) (parts : Array (Nat × Operand)) : Option (S × Ef) := match P.underlying t, absP A parts.toList with
  | some (.slice el), some ps => match szOf P el, zeroOf P el with
    | some (k + 1), some (_, z) => if 0 < z.length ∧ len * (k + 1) ≤ 16777216 then (fillC (fun i => some (i * (k + 1), k + 1)) (zerosC z (len * (k + 1))) ps).map fun r => (.v (.c (.sl n 0 len (.ex len))), .new 0 ⟨el, r, false, .ok⟩) else none
    | _, _ => none
  | _, _ => none
theorem bs_ok {t : TypeId} {len : Nat} {parts : Array (Nat × Operand)} {s : S} {e : Ef} (ho : o.op = .buildSlice t len parts) (hA : Eqv σ D A ρ) (hD : n < e.n' n → ¬ D n) (h : aBs P A n t len parts = some (s, e)) (hs : Sat σ D (rst (tb e.F) H) w) : AOK P ρ o σ D w H n s e := by
  unfold aBs at h
  split at h
  · rename_i el ps ht h1
    split at h
    · rename_i k z0 z hk hz0
      split at h
      · rename_i hc
        rw [Option.map_eq_some_iff] at h
        obtain ⟨r, h4, h5⟩ := h
        cases h5
        obtain ⟨hz, hzr, _⟩ := zeroOf_ok (σ := σ) (D := D) hz0
        obtain ⟨m', g1, g2⟩ := fill_ok (absP_ok hA h1) (zeros_ok (n := len * (k + 1)) hz hc.1) h4
        refine newrow_ok (v := .slice (some ⟨w.heap.size, 0, none⟩) len len) hs (hD (Nat.lt_succ_self n)) g1 (fun σ' D' hd he => ⟨hd, by unfold adr; rw [he]⟩) ?_
        unfold execOp; rw [ho]
        have hfill : Instr.fill (fun i => some (i * (k + 1), k + 1)) ((Array.range (len * (k + 1))).map (z0.cells[· % z0.cells.size]!)) (parts.map fun (i, x) => (i, ρ x)).toList = some m' := by
          rw [Array.toList_map]; exact g2
        by_cases h0 : len * (k + 1) = 0
        · have hl0 : len = 0 := by
            rcases Nat.mul_eq_zero.1 h0 with h | h
            · exact h
            · omega
          subst hl0
          have hfill0 : Instr.fill (fun i => some (i * (k + 1), k + 1)) #[] (parts.map fun (i, x) => (i, ρ x)).toList = some m' := by
            rw [← hfill]; congr 1; simp [Array.range_zero']
          simp [Instr.buildSlice, run_underlying ht, run_sz hk, newRow, Array.range_zero']
          simp only [Array.toList_map] at hfill0
          simp [hfill0]
        · have hc2 : ¬ (16777216 < len * (k + 1)) := by have := hc.2; omega
          simp only [Array.toList_map] at hfill
          simp [Instr.buildSlice, run_underlying ht, run_sz hk, newRow, h0, hc2, hzr, hfill]
      · cases h
    · cases h
  · cases h
def capsOf (A : Operand → Option S) : List Operand → Option (List (Nat × Nat))
  | [] => some []
  | x :: l => match S.c? (A x), capsOf A l with | some (.ptr i off), some m => some ((i, off) :: m) | _, _ => none
theorem capsOf_ok (hA : Eqv σ D A ρ) : ∀ {l : List Operand} {m : List (Nat × Nat)}, capsOf A l = some m → (∀ p ∈ m, D p.1) ∧ l.map ρ = m.map fun p => Value.pointer (some (adr (σ p.1) p.2))
  | [], m, h => by simp only [capsOf, Option.some.injEq] at h; subst h; exact ⟨fun p hp => (by cases hp), rfl⟩
  | x :: l, m, h => by
    simp only [capsOf] at h
    split at h
    · rename_i i off m' h1 h2
      simp only [Option.some.injEq] at h; subst h
      obtain ⟨g1, g2⟩ := capsOf_ok hA h2
      obtain ⟨k1, k2⟩ := hA.c h1
      refine ⟨fun p hp => ?_, by rw [List.map_cons, List.map_cons, k2, g2]⟩
      rcases List.mem_cons.1 hp with rfl | hp
      · exact k1
      · exact g1 p hp
    · cases h
def aMf (A : Operand → Option S) (fn : Fn) (first capt : Array Operand) : Option (S × Ef) := match fn, first.toList with
  | .func f, [] => (capsOf A capt.toList).map fun l => (.v (.c (.fn f l)), .no 0)
  | .func f, [x] => match S.c? (A x), capt.toList with
    | some (.ptr i off), [] => some (.v (.c (.bm f i off)), .no 0)
    | _, _ => none
  | _, _ => none
theorem mf_ok {fn : Fn} {first capt : Array Operand} {s : S} {e : Ef} (ho : o.op = .makeFunc fn first capt) (hA : Eqv σ D A ρ) (h : aMf A fn first capt = some (s, e)) (hs : Sat σ D (rst (tb e.F) H) w) : AOK P ρ o σ D w H n s e := by
  unfold aMf at h
  split at h
  · rename_i f hf
    rw [Option.map_eq_some_iff] at h
    obtain ⟨l, h1, h2⟩ := h
    cases h2
    obtain ⟨g1, g2⟩ := capsOf_ok hA h1
    have hfirst : first = #[] := by
      apply Array.ext'; exact hf
    refine ⟨.value _, .func (.func f) #[] ((l.map fun p => Value.pointer (some (adr (σ p.1) p.2))).toArray), _, _, did_no hs ?_ (.inl rfl) ⟨g1, rfl⟩⟩
    unfold execOp; rw [ho]
    have : capt.map ρ = (l.map fun p => Value.pointer (some (adr (σ p.1) p.2))).toArray := by
      apply Array.ext'
      rw [Array.toList_map, g2]
    simp [Instr.makeFunc, hfirst, this]
  · rename_i f x hf
    split at h
    · rename_i i off hx hc
      cases h
      obtain ⟨hD, hp⟩ := hA.c hx
      have hfirst : first = #[x] := by apply Array.ext'; exact hf
      have hcapt : capt = #[] := by apply Array.ext'; exact hc
      refine ⟨.value _, .func (.func f) #[.pointer (some (adr (σ i) off))] #[], _, _, did_no hs ?_ (.inl rfl) ⟨hD, rfl⟩⟩
      unfold execOp; rw [ho]
      simp [Instr.makeFunc, hfirst, hcapt, hp]
    · cases h
  · cases h
/-! ### The builtins -/
def aMake (P : Program) (A : Operand → Option S) (n : Nat) (t : TypeId) (l c : Operand) : Option (S × Ef) := match P.underlying t, natOf (A l), natOf (A c) with
  | some (.slice el), some a, some b => match P.info? el, zeroOf P el with
    | some i, some (_, z) => if a ≤ b ∧ i.bytes * b ≤ 281474976710656 ∧ b ≤ 1000000 ∧ 0 < z.length ∧ 0 < i.size then some (.v (.c (.sl n 0 a (.ex b))), .new 0 ⟨el, zerosC z (b * i.size), false, .ok⟩) else none
    | _, _ => none
  | _, _, _ => none
theorem make_ok {t : TypeId} {l c : Operand} {s : S} {e : Ef} (ho : o.op = .makeSlice t l c) (hA : Eqv σ D A ρ) (hD : n < e.n' n → ¬ D n) (h : aMake P A n t l c = some (s, e)) (hs : Sat σ D (rst (tb e.F) H) w) : AOK P ρ o σ D w H n s e := by
  unfold aMake at h
  split at h
  · rename_i el a b ht ha hb
    split at h
    · rename_i i z0 z hi hz0
      split at h
      · rename_i hc
        cases h
        obtain ⟨hz, hzr, i', hi', hz'⟩ := zeroOf_ok (σ := σ) (D := D) hz0
        rw [hi] at hi'; cases hi'
        obtain ⟨q1, e1⟩ := natOf_ok hA ha
        obtain ⟨q2, e2⟩ := natOf_ok hA hb
        have hr := run_make (P := P) w t el i z0 ht hi hz' q1 q2 (a : Int) (b : Int) (by omega) (by omega) (by have := hc.2.1; omega) (by omega)
        simp only [Int.toNat_natCast] at hr
        refine newrow_ok (v := .slice (some ⟨w.heap.size, 0, none⟩) a b) hs (hD (Nat.lt_succ_self n)) (zeros_ok (n := b * i.size) hz hc.2.2.2.1) (fun σ' D' hd he => ⟨hd, by unfold adr; rw [he]⟩) ?_
        unfold execOp; rw [ho]
        simp [e1, e2, hr]
      · cases h
    · cases h
  · cases h
def aLen (P : Program) (A : Operand → Option S) (t : TypeId) (x : Operand) : Option (S × Ef) := match S.c? (A x), P.underlying t with
  | some (.sl _ _ len _), some (.slice _) => some (.v (.c (.int .i64 len)), .no 0)
  | some .snil, some (.slice _) => some (.v (.c (.int .i64 0)), .no 0)
  | some .se, some (.slice _) => some (.v (.c (.int .i64 0)), .no 0)
  | some (.sg _ m ex), some (.slice _) => some (.v (.c (if ex then .int .i64 m else .ge m)), .no 0)
  | some (.str b), some .string => some (.v (.c (.int .i64 b.length)), .no 0)
  | some .mapn, some (.map _ _) => some (.v (.c (.int .i64 0)), .no 0)
  | _, _ => none
theorem run_bi {b : Builtin} {ts : Array TypeId} {args : Array Operand} {r : Sem Value} {v : Value} {w' : World} (ho : o.op = .call { callee := .builtin b, args := args, argTypes := ts })
    (hb : ∀ cs, builtin b ts o.type cs (args.map ρ) = (do pure (.value (← r)))) (hr : r.run P w = .ok v w') : (execOp ρ o).run P w = .ok (.value v) w' := by
  unfold execOp; rw [ho]
  simp [resolve, invoke, hb, hr]
theorem len_ok {t : TypeId} {x : Operand} {s : S} {e : Ef} (ho : o.op = .call { callee := .builtin .len, args := #[x], argTypes := #[t] }) (hA : Eqv σ D A ρ) (h : aLen P A t x = some (s, e)) (hs : Sat σ D (rst (tb e.F) H) w) : AOK P ρ o σ D w H n s e := by
  unfold aLen at h
  split at h
  · rename_i i off len cp el hx ht
    cases h
    obtain ⟨_, c, hp⟩ := sl_val (hA.c hx)
    exact ⟨_, .int .i64 len, _, _, did_no hs (run_bi ho (fun _ => rfl) (by simp [Builtin.len_, run_underlying ht, hp, goInt])) (.inl rfl) rfl⟩
  · rename_i el hx ht
    cases h
    have hp : ρ x = .slice none 0 0 := hA.c hx
    exact ⟨_, .int .i64 0, _, _, did_no hs (run_bi ho (fun _ => rfl) (by simp [Builtin.len_, run_underlying ht, hp, goInt])) (.inl rfl) rfl⟩
  · rename_i el hx ht
    cases h
    obtain ⟨a, c, hp⟩ := hA.c hx
    exact ⟨_, .int .i64 0, _, _, did_no hs (run_bi ho (fun _ => rfl) (by simp [Builtin.len_, run_underlying ht, hp, goInt])) (.inl rfl) rfl⟩
  · rename_i i m ex el hx ht
    cases h
    obtain ⟨_, _, len, c, hp, hml, hex⟩ := hA.c hx
    refine ⟨_, .int .i64 len, _, _, did_no hs (run_bi ho (fun _ => rfl) (by simp [Builtin.len_, run_underlying ht, hp, goInt])) (.inl rfl) ?_⟩
    cases ex with
    | true => exact show (_ : Value) = _ by rw [hex rfl]
    | false => exact ⟨len, rfl, by omega⟩
  · rename_i b hx ht
    cases h
    have hp : ρ x = .string ⟨b.toArray⟩ := hA.c hx
    exact ⟨_, .int .i64 b.length, _, _, did_no hs (run_bi ho (fun _ => rfl) (by simp [Builtin.len_, run_underlying ht, hp, goInt, show (ByteArray.mk b.toArray).size = b.length from by simp [← ByteArray.size_data]])) (.inl rfl) rfl⟩
  · rename_i a b hx ht
    cases h
    have hp : ρ x = .map none := hA.c hx
    exact ⟨_, .int .i64 0, _, _, did_no hs (run_bi ho (fun _ => rfl) (by simp [Builtin.len_, run_underlying ht, hp, goInt])) (.inl rfl) rfl⟩
  · cases h
def aCap (P : Program) (A : Operand → Option S) (t : TypeId) (x : Operand) : Option (S × Ef) := match S.c? (A x), P.underlying t with
  | some (.sl _ _ _ (.ex c)), some (.slice _) => some (.v (.c (.int .i64 c)), .no 0)
  | some .snil, some (.slice _) => some (.v (.c (.int .i64 0)), .no 0)
  | _, _ => none
theorem cap_ok {t : TypeId} {x : Operand} {s : S} {e : Ef} (ho : o.op = .call { callee := .builtin .cap, args := #[x], argTypes := #[t] }) (hA : Eqv σ D A ρ) (h : aCap P A t x = some (s, e)) (hs : Sat σ D (rst (tb e.F) H) w) : AOK P ρ o σ D w H n s e := by
  unfold aCap at h
  split at h
  · rename_i i off len c el hx ht
    cases h
    have hp := (hA.c hx).2
    exact ⟨_, .int .i64 c, _, _, did_no hs (run_bi ho (fun _ => rfl) (by simp [Builtin.cap_, run_underlying ht, hp, goInt])) (.inl rfl) rfl⟩
  · rename_i el hx ht
    cases h
    have hp : ρ x = .slice none 0 0 := hA.c hx
    exact ⟨_, .int .i64 0, _, _, did_no hs (run_bi ho (fun _ => rfl) (by simp [Builtin.cap_, run_underlying ht, hp, goInt])) (.inl rfl) rfl⟩
  · cases h
def aMax (A : Operand → Option S) (x y : Operand) : Option (S × Ef) := match S.c? (A x), S.c? (A y) with
  | some (.int k a), some (.int _ b) => some (.v (.c (.int k (if b > a then b else a))), .no 0)
  | _, _ => none
theorem max_ok {ts : Array TypeId} {x y : Operand} {s : S} {e : Ef} (ho : o.op = .call { callee := .builtin .max, args := #[x, y], argTypes := ts }) (hA : Eqv σ D A ρ) (h : aMax A x y = some (s, e)) (hs : Sat σ D (rst (tb e.F) H) w) : AOK P ρ o σ D w H n s e := by
  unfold aMax at h
  split at h
  · rename_i k a k2 b hx hy
    cases h
    have hp : ρ x = .int k a := hA.c hx
    have hq : ρ y = .int k2 b := hA.c hy
    exact ⟨_, .int k (if b > a then b else a), _, _, did_no hs (run_bi ho (fun _ => rfl) (by simp [Builtin.max_, Builtin.max2, hp, hq])) (.inl rfl) rfl⟩
  · cases h
def aMin (A : Operand → Option S) (x y : Operand) : Option (S × Ef) := match S.c? (A x), S.c? (A y) with
  | some (.int k a), some (.int _ b) => some (.v (.c (.int k (if b < a then b else a))), .no 0)
  | some (.ge m), some (.int .i64 b) => if b ≤ m then some (.v (.c (.int .i64 b)), .no 0) else none
  | _, _ => none
theorem min_ok {ts : Array TypeId} {x y : Operand} {s : S} {e : Ef} (ho : o.op = .call { callee := .builtin .min, args := #[x, y], argTypes := ts }) (hA : Eqv σ D A ρ) (h : aMin A x y = some (s, e)) (hs : Sat σ D (rst (tb e.F) H) w) : AOK P ρ o σ D w H n s e := by
  unfold aMin at h
  split at h
  · rename_i k a k2 b hx hy
    cases h
    have hp : ρ x = .int k a := hA.c hx
    have hq : ρ y = .int k2 b := hA.c hy
    exact ⟨_, .int k (if b < a then b else a), _, _, did_no hs (run_bi ho (fun _ => rfl) (by simp [Builtin.min_, Builtin.min2, hp, hq])) (.inl rfl) rfl⟩
  · rename_i m b hx hy
    split at h
    · rename_i hbm
      cases h
      obtain ⟨z, hp, hmz⟩ := hA.c hx
      have hq : ρ y = .int .i64 b := hA.c hy
      refine ⟨_, .int .i64 (if b < z then b else z), _, _, did_no hs (run_bi ho (fun _ => rfl) (by simp [Builtin.min_, Builtin.min2, hp, hq])) (.inl rfl) ?_⟩
      show (_ : Value) = _
      congr 1
      split <;> omega
    · cases h
  · cases h
end
end Go.Proofs.YtcmlgmiomcegeaaGreat.Ev
namespace Go.Proofs.YtcmlgmiomcegeaaGreat.Ev
open Go Go.RowKit Go.Maps
set_option linter.unusedVariables false
set_option linter.unusedSimpArgs false
set_option linter.unusedSectionVars false
variable [Env]

section
variable {P : Program} {ρ : Operand → Value} {o : Oper} {σ : Nat → Blk} {D : Nat → Prop} {w : World} {H : Heap} {n : Nat} {A : Operand → Option S}
/-- What a slice or a text brings: how many, which cells, which object. -/
def aSrc (H : Heap) (sz : Nat) (m : Nat) : C → Option (List C × Nat)
  | .sl j off _ _ => match H j with
    | some ob => (ldC ob off (m * sz)).map fun l => (l, one j)
    | none => none
  | .snil => some ([], 0)
  | .se => if m = 0 then some ([], 0) else none
  | .str b => if sz = 1 then some ((b.take m).map fun u => C.int .u8 u.toNat, 0) else none
  | _ => none
def aLenC : C → Option Nat | .sl _ _ len _ => some len | .snil => some 0 | .se => some 0 | .str b => some b.length | _ => none
theorem lenC_ok {c : C} {v : Value} {k : Nat} (h : aLenC c = some k) (hv : RC σ D c v) : (Builtin.lenOf v).run P w = .ok k w := by
  unfold aLenC at h
  split at h <;> first | (cases h; done) | skip
  · cases h; obtain ⟨_, c, rfl⟩ := sl_val hv; rfl
  · cases h; cases hv; rfl
  · cases h; obtain ⟨_, _, rfl⟩ := hv; rfl
  · cases h; cases hv; simp [Builtin.lenOf, ← ByteArray.size_data]
theorem src_ok {F sz m k : Nat} {c : C} {v : Value} {l : List C} (hs : Sat σ D (rst (tb F) H) w) (h : aSrc H sz m c = some (l, k)) (hF : ∀ j, tb k j = true → tb F j = true) (hv : RC σ D c v) (hm : ∀ q, aLenC c = some q → m ≤ q) :
    ∃ vs : List Value, RL σ D l vs ∧ vs.length = m * sz ∧ (Builtin.firstCells sz m v).run P w = .ok vs.toArray w := by
  unfold aSrc at h
  split at h <;> first | (cases h; done) | skip
  · rename_i j off q cp
    split at h
    · rename_i ob hob
      rw [Option.map_eq_some_iff] at h
      obtain ⟨l', h1, h2⟩ := h
      cases h2
      obtain ⟨_, c, rfl⟩ := sl_val hv
      obtain ⟨vs, g1, g2, g3⟩ := ldC_ok (obj_of hs (hF j tb_one) hob).2 h1
      refine ⟨vs, g2, g1, ?_⟩
      have := run_loadCells_list (P := P) w (adr (σ j) off) vs g3
      rw [g1] at this
      simp [Builtin.firstCells, this]
    · cases h
  · cases h; cases hv
    have := hm 0 rfl
    obtain rfl : m = 0 := by omega
    exact ⟨[], trivial, by simp, by simp [Builtin.firstCells]⟩
  · split at h
    · rename_i h0
      cases h; subst h0
      obtain ⟨a, c, rfl⟩ := hv
      refine ⟨[], trivial, by simp, ?_⟩
      cases a <;> simp [Builtin.firstCells, loadCells, loadCellsFrom]
    · cases h
  · rename_i b
    split at h
    · rename_i h0
      cases h; subst h0; cases hv
      have hm' := hm b.length rfl
      refine ⟨(b.take m).map fun u => .int .u8 u.toNat, ?_, by simp; omega, ?_⟩
      · generalize b.take m = z
        induction z with
        | nil => trivial
        | cons a r ih => exact ⟨rfl, ih⟩
      · have : ((ByteArray.mk b.toArray).extract 0 m).data = (b.take m).toArray := by
          rw [ByteArray.data_extract]; simp [List.extract_eq_take_drop]
        simp [Builtin.firstCells, this]
    · cases h
def aCopy (P : Program) (H : Heap) (A : Operand → Option S) (dT : TypeId) (d x : Operand) : Option (S × Ef) := match P.underlying dT, S.c? (A d), S.c? (A x) with
  | some (.slice el), some (.sl i off dLen cp), some c => match szOf P el, aLenC c, H i with
    | some sz, some q, some ob => match aSrc H sz (min q dLen) c with
      | some (l, k) => (wrC ob off l).map fun ob' => (.v (.c (.int .i64 ((min q dLen : Nat) : Int))), .set (one i ||| k) i ob')
      | none => none
    | _, _, _ => none
  | some (.slice el), some .snil, some c => match szOf P el, aLenC c with
    | some sz, some q => match aSrc H sz 0 c with
      | some (l, k) => some (.v (.c (.int .i64 0)), .no k)
      | none => none
    | _, _ => none
  | _, _, _ => none
theorem copy_ok {dT sT : TypeId} {d x : Operand} {s : S} {e : Ef} (ho : o.op = .call { callee := .builtin .copy, args := #[d, x], argTypes := #[dT, sT] }) (hA : Eqv σ D A ρ) (h : aCopy P H A dT d x = some (s, e)) (hs : Sat σ D (rst (tb e.F) H) w) : AOK P ρ o σ D w H n s e := by
  unfold aCopy at h
  split at h
  · rename_i el i off dLen cp c ht hd hx
    split at h
    · rename_i sz q ob hsz hq hob
      split at h
      · rename_i l k hsrc
        rw [Option.map_eq_some_iff] at h
        obtain ⟨ob', h1, h2⟩ := h
        cases h2
        have hF1 : tb (one i ||| k) i = true := by rw [tb_or, tb_one]; rfl
        obtain ⟨vs, g1, g2, g3⟩ := src_ok (P := P) hs hsrc (fun j hj => by show tb (one i ||| k) j = true; rw [tb_or, hj, Bool.or_true]) (hA.c hx) (fun q' hq' => by rw [hq] at hq'; cases hq'; exact Nat.min_le_left q dLen)
        obtain ⟨_, cc, hp⟩ := sl_val (hA.c hd)
        obtain ⟨w', k1, k2, k3⟩ := wrC_ok (P := P) (obj_of hs hF1 hob).2 h1 g1
        have hl := lenC_ok (P := P) (w := w) hq (hA.c hx)
        refine ⟨_, .int .i64 ((min q dLen : Nat) : Int), _, _, did_set hs hF1 (by rw [hob]; rfl) (run_bi ho (fun _ => rfl) (v := .int .i64 ((min q dLen : Nat) : Int)) (w' := w') ?_) (.inl rfl) rfl k3 k2⟩
        have hmin : Nat.min q dLen = min q dLen := rfl
        simp [Builtin.copy_, run_underlying ht, hp, hl, run_sz hsz, hmin, g3, k1, goInt]
      · cases h
    · cases h
  · rename_i el c ht hd hx
    split at h
    · rename_i sz q hsz hq
      split at h
      · rename_i l k hsrc
        cases h
        obtain ⟨vs, g1, g2, g3⟩ := src_ok (P := P) hs hsrc (fun j hj => hj) (hA.c hx) (fun q' hq' => Nat.zero_le _)
        have hp : ρ d = .slice none 0 0 := hA.c hd
        have hl := lenC_ok (P := P) (w := w) hq (hA.c hx)
        refine ⟨_, .int .i64 0, _, _, did_no hs (run_bi ho (fun _ => rfl) (v := .int .i64 0) ?_) (.inl rfl) rfl⟩
        have hmin : Nat.min q 0 = 0 := Nat.min_zero _
        simp [Builtin.copy_, run_underlying ht, hp, hl, run_sz hsz, hmin, g3, goInt]
      · cases h
    · cases h
  · cases h
def aClear (P : Program) (H : Heap) (A : Operand → Option S) (t : TypeId) (x : Operand) : Option (S × Ef) := match P.underlying t, S.c? (A x) with
  | some (.slice el), some (.sl i off (len + 1) cp) => match zeroOf P el, H i with
    | some (_, z), some ob => if 0 < z.length then (wrC ob off (zerosC z ((len + 1) * z.length))).map fun ob' => (.tup [], .set (one i) i ob') else none
    | _, _ => none
  | some (.slice el), some (.sl i off 0 cp) => some (.tup [], .no 0)
  | some (.slice el), some .snil => some (.tup [], .no 0)
  | some (.slice el), some .se => some (.tup [], .no 0)
  | _, _ => none
theorem clear_ok {t : TypeId} {x : Operand} {s : S} {e : Ef} (ho : o.op = .call { callee := .builtin .clear, args := #[x], argTypes := #[t] }) (hA : Eqv σ D A ρ) (h : aClear P H A t x = some (s, e)) (hs : Sat σ D (rst (tb e.F) H) w) : AOK P ρ o σ D w H n s e := by
  unfold aClear at h
  split at h
  · rename_i el i off len cp ht hx
    split at h
    · rename_i z0 z ob hz0 hob
      split at h
      · rename_i hzl
        rw [Option.map_eq_some_iff] at h
        obtain ⟨ob', h1, h2⟩ := h
        cases h2
        obtain ⟨hz, hzr, _⟩ := zeroOf_ok (σ := σ) (D := D) hz0
        obtain ⟨_, cc, hp⟩ := sl_val (hA.c hx)
        have hzs := zeros_ok (n := (len + 1) * z.length) hz hzl
        obtain ⟨w', k1, k2, k3⟩ := wrC_ok (P := P) (obj_of hs tb_one hob).2 h1 hzs
        have hzl2 := hz.length
        rw [Array.length_toList] at hzl2
        refine ⟨_, .tuple #[], _, _, did_set hs tb_one (by rw [hob]; rfl) (run_bi ho (fun _ => rfl) (v := .tuple #[]) (w' := w') ?_) (.inl rfl) ⟨[], trivial, rfl⟩ k3 k2⟩
        simp [Builtin.clear_, run_underlying ht, hp, hzr, zeroCells_eq, hzl2, k1]
      · cases h
    · cases h
  · rename_i el i off cp ht hx
    cases h
    obtain ⟨_, cc, hp⟩ := sl_val (hA.c hx)
    exact ⟨_, .tuple #[], _, _, did_no hs (run_bi ho (fun _ => rfl) (v := .tuple #[]) (by simp [Builtin.clear_, run_underlying ht, hp])) (.inl rfl) ⟨[], trivial, rfl⟩⟩
  · rename_i el ht hx
    cases h
    have hp : ρ x = .slice none 0 0 := hA.c hx
    exact ⟨_, .tuple #[], _, _, did_no hs (run_bi ho (fun _ => rfl) (v := .tuple #[]) (by simp [Builtin.clear_, run_underlying ht, hp])) (.inl rfl) ⟨[], trivial, rfl⟩⟩
  · rename_i el ht hx
    cases h
    obtain ⟨a, c, hp⟩ := hA.c hx
    exact ⟨_, .tuple #[], _, _, did_no hs (run_bi ho (fun _ => rfl) (v := .tuple #[]) (by cases a <;> simp [Builtin.clear_, run_underlying ht, hp])) (.inl rfl) ⟨[], trivial, rfl⟩⟩
  · cases h
theorem Sat.drew {σ : Nat → Blk} {D : Nat → Prop} {h : Heap} {w : World} (hs : Sat σ D h w) : Sat σ D h w.drew :=
  ⟨fun i o e => ⟨(hs.obj i o e).1, (hs.obj i o e).2.ext rfl rfl (fun _ _ => rfl) (fun _ h => h)⟩, hs.inj⟩
def noInt : TypeDesc → Bool | .slice _ => true | .string => true | _ => false
/-- append, where there is no room. -/
theorem run_app_grow {t t2 ty e : TypeId} {d2 : TypeDesc} {i : TypeInfo} {z : Value} (ht : P.underlying t = some (.slice e)) (ht2 : P.underlying t2 = some d2) (hn : noInt d2 = true) (hi : P.info? e = some i) (hz : i.zero = some z)
    {base : Option Addr} {sLen sCap m : Nat} {x : Value} {olds news : List Value} (hlx : ∀ w, (Builtin.lenOf x).run P w = .ok m w) (hold : (Builtin.firstCells i.size sLen (.slice base sLen sCap)).run P w.drew = .ok olds.toArray w.drew)
    (hnew : (Builtin.firstCells i.size m x).run P w.drew = .ok news.toArray w.drew) (hg : sCap < sLen + m) (h63 : ((sLen + m : Nat) : Int) ≤ 9223372036854775807) (hfit : Builtin.nextslicecap (sLen + m) sCap * i.bytes ≤ 281474976710656) :
    (Builtin.append_ #[t, t2] ty #[.slice base sLen sCap, x]).run P w = .ok (.slice (some ⟨w.heap.size, 0, none⟩) (sLen + m) (grownCap w (sLen + m) sCap e))
        (w.drew.alloc (.cells ((olds ++ news).toArray ++ Builtin.zeroCells z.cells (grownCap w (sLen + m) sCap e - (sLen + m))) e)) := by
  have hap : ∀ q : Array Value, olds.toArray ++ (news.toArray ++ q) = (olds ++ news).toArray ++ q := fun q => by apply Array.ext'; simp
  have hn1 : ¬ (sLen + m ≤ sCap) := by omega
  have h63' : ¬ (9223372036854775807 < ((sLen : Int) + (m : Int))) := by omega
  have h48' : ¬ (281474976710656 < Builtin.nextslicecap (sLen + m) sCap * i.bytes) := by omega
  cases d2 <;> first | (cases hn; done) | simp [Builtin.append_, run_underlying ht, run_underlying ht2, sizeOf, typeInfo, zeroValue, hi, hz, hlx, hn1, h63', h48', Question.forced, hold, hnew, newRow, grownCap, hap]
theorem run_app_room {t t2 ty e : TypeId} {d2 : TypeDesc} {i : TypeInfo} (ht : P.underlying t = some (.slice e)) (ht2 : P.underlying t2 = some d2) (hn : noInt d2 = true) (hi : P.info? e = some i)
    {a : Addr} {sLen sCap m : Nat} {x : Value} {news : List Value} {w' : World} (hlx : ∀ w, (Builtin.lenOf x).run P w = .ok m w) (hnew : (Builtin.firstCells i.size m x).run P w = .ok news.toArray w) (hroom : sLen + m ≤ sCap)
    (hst : (storeCells (a.add (sLen * i.size)) news).run P w = .ok () w') : (Builtin.append_ #[t, t2] ty #[.slice (some a) sLen sCap, x]).run P w = .ok (.slice (some a) (sLen + m) sCap) w' := by
  cases d2 <;> first | (cases hn; done) | simp [Builtin.append_, run_underlying ht, run_underlying ht2, sizeOf, typeInfo, hi, hlx, hroom, hnew, hst]
theorem run_app_none {t t2 ty e : TypeId} {d2 : TypeDesc} {i : TypeInfo} (ht : P.underlying t = some (.slice e)) (ht2 : P.underlying t2 = some d2) (hn : noInt d2 = true) (hi : P.info? e = some i)
    {a : Option Addr} {sLen sCap : Nat} {x : Value} (hlx : ∀ w, (Builtin.lenOf x).run P w = .ok 0 w) (hnew : (Builtin.firstCells i.size 0 x).run P w = .ok #[] w) (hroom : sLen ≤ sCap) :
    (Builtin.append_ #[t, t2] ty #[.slice a sLen sCap, x]).run P w = .ok (.slice a sLen sCap) w := by
  cases d2 <;> first | (cases hn; done) | (cases a <;> simp [Builtin.append_, run_underlying ht, run_underlying ht2, sizeOf, typeInfo, hi, hlx, hroom, hnew, storeCells])
/-- What is told of an append's types. -/
structure AppT (P : Program) (t t2 el : TypeId) (inf : TypeInfo) (z : Value) : Prop where
  ht : P.underlying t = some (.slice el)
  d2 : ∃ d, P.underlying t2 = some d ∧ noInt d = true
  hi : P.info? el = some inf
  hz : inf.zero = some z
  hzl : z.cells.size = inf.size
  hsz : 0 < inf.size
  hb : inf.bytes ≤ 1000000
theorem cells_of {i : Nat} {ob : AO} {cur : Array Value} (h5 : ∀ (j : Nat) (c : C), ob.cs[j]? = some c → ∃ v, cur[j]? = some v ∧ RC σ D c v) (h3 : ob.cs.length ≤ cur.size) : RL σ D ob.cs (cur.toList.take ob.cs.length) :=
  RL.of (by simp; omega) (fun j c e => by
    obtain ⟨v, a1, a2⟩ := h5 j c e
    exact ⟨v, by rw [List.getElem?_take, if_pos (List.getElem?_eq_some_iff.1 e).1, Array.getElem?_toList]; exact a1, a2⟩)
/-- A row that has grown: what it holds. -/
theorem grown_obj {i : Nat} {σ' : Nat → Blk} {D' : Nat → Prop} {el : TypeId} {inf : TypeInfo} {z : Value} {need cap : Nat} {l : List C} {vs : List Value} {w' : World} (hl : RL σ' D' l vs) (hlen : vs.length = need * inf.size) (hzl : z.cells.size = inf.size) (hcap : need ≤ cap) (hi : σ' i = ⟨w'.heap.size, cap * inf.size⟩) :
    ObjAt σ' D' i ⟨el, l, true, .ok⟩ (w'.alloc (.cells (vs.toArray ++ Builtin.zeroCells z.cells (cap - need)) el)) := by
  have hll := hl.length
  have hm := Nat.mul_le_mul_right inf.size hcap
  refine ⟨_, (0, 0), by rw [hi]; exact heap_alloc_new w' _, fun _ => rfl, ?_, ?_, (fun h => by cases h), fun j c e => ?_⟩
  · rw [hi, Array.size_append, size_zeroCells, hzl, List.size_toArray, hlen, ← Nat.add_mul]
    congr 1; omega
  · rw [hi]; show l.length ≤ cap * inf.size; omega
  · obtain ⟨v, a1, a2⟩ := hl.get e
    refine ⟨v, ?_, a2⟩
    have hlt := (List.getElem?_eq_some_iff.1 a1).1
    rw [Array.getElem?_append_left (by simpa using hlt)]
    simpa using a1
/-- append: s has no more room, or may have none: it goes, a new object comes. -/
theorem grow_ok {t t2 el : TypeId} {F i k len c m : Nat} {inf : TypeInfo} {z : Value} {ob : AO} {l : List C} {x : Operand} {s : Operand} {src : C} (ho : o.op = .call { callee := .builtin .append, args := #[s, x], argTypes := #[t, t2] })
    (hT : AppT P t t2 el inf z) (hs : Sat σ D (rst (tb F) H) w) (hD : ¬ D n) (hF1 : tb F i = true) (hF2 : ∀ j, tb k j = true → tb F j = true)
    (hob : H i = some ob) (hfz : ob.fz = false) (hty : ob.ty = el) (hlen : len * inf.size ≤ ob.cs.length) (hc : c * inf.size = (σ i).t) (hlc : len ≤ c) (hcm : c ≤ maxLen)
    (hp : ρ s = .slice (some (adr (σ i) 0)) len c) (hsrc : aSrc H inf.size m src = some (l, k)) (hv : RC σ D src (ρ x)) (hq : aLenC src = some m) (hlm : len + m ≤ 1000000) :
    AOK P ρ o σ D w H n (.v (.c (.sl n 0 (len + m) (.op inf.size)))) (.mv F i ⟨el, ob.cs.take (len * inf.size) ++ l, true, .ok⟩) := by
  obtain ⟨d2, hd2, hni⟩ := hT.d2
  obtain ⟨hDi, hO⟩ := obj_of hs hF1 hob
  obtain ⟨cur, fr, h1, h0, h2, h3, h4, h5⟩ := hO.ok hfz
  have hfr := h0 hfz
  subst hfr
  have hty' := hty
  subst hty'
  have hlx := fun w => lenC_ok (P := P) (w := w) hq hv
  have hold := cells_of (i := i) h5 (by omega)
  have hcut : (cur.toList.take ob.cs.length).take (len * inf.size) = cur.toList.take (len * inf.size) := by rw [List.take_take, Nat.min_eq_left hlen]
  have hold2 := hold.take (len * inf.size)
  rw [hcut] at hold2
  by_cases hroom : len + m ≤ c
  · -- in its place
    obtain ⟨vs, g1, g2, g3⟩ := src_ok (P := P) hs hsrc hF2 hv (fun q hq' => by rw [hq] at hq'; cases hq'; exact Nat.le_refl _)
    have hfit : len * inf.size + vs.length ≤ cur.size := by
      rw [g2, ← Nat.add_mul, h2, ← hc]; exact Nat.mul_le_mul_right _ hroom
    have hst := run_storeCells_at P (σ i).b (len * inf.size) ob.ty vs 0 cur w h1 (by omega) g1.ones
    simp only [Nat.add_zero] at hst
    have hr := run_app_room (ty := o.type) hT.ht hd2 hni hT.hi (a := adr (σ i) 0) hlx g3 hroom (by rw [adr_add, Nat.zero_add]; exact hst)
    have hsm : ∀ i, D i → at_ σ n (σ i) i = σ i := fun i hi => at_other (fun e => by subst e; exact hD hi)
    have hsm' : ∀ j, D j → at_ σ n (σ i) j = σ j := fun j hj => at_other (fun e => by subst e; exact hD hj)
    refine ⟨_, .slice (some (adr (σ i) 0)) (len + m) c, _, _, did_mv (k := σ i) hs hD hF1 (by rw [hob]; rfl) (run_bi ho (fun _ => rfl) (w' := w.setRow (σ i).b (cur.toList.take (len * inf.size) ++ vs ++ cur.toList.drop (len * inf.size + vs.length)).toArray) ?_) (.inl rfl) ?_ ⟨rfl, rfl, rfl, by simp, fun k hk hn => setRow_other w _ k _ hn⟩ (.inr rfl) ?_⟩
    · simp only [List.map_toArray, List.map_cons, List.map_nil, hp]; exact hr
    · exact ⟨.inr ⟨Nat.le_refl _, Nat.lt_succ_self _⟩, c, by rw [at_same], hroom, hcm, by rw [at_same, Nat.zero_add]; exact hc⟩
    · have hnew := hold2.append g1
      refine ⟨_, (0, 0), by rw [at_same]; exact setRow_heap w _ cur _ ob.ty _ h1, fun _ => rfl, ?_, ?_, (fun h => by cases h), fun j cc e => ?_⟩
      · rw [at_same]; simp; omega
      · rw [at_same]
        have hl2 := g1.length
        simp only [List.length_append, List.length_take]
        rw [Nat.min_eq_left hlen]
        omega
      · obtain ⟨v, a1, a2⟩ := hnew.get e
        refine ⟨v, ?_, a2.ext hsm' (fun _ h => .inl h)⟩
        rw [List.getElem?_toArray, List.getElem?_append_left (List.getElem?_eq_some_iff.1 a1).1]
        exact a1
  · -- elsewhere
    obtain ⟨vs, g1, g2, g3⟩ := src_ok (P := P) hs.drew hsrc hF2 hv (fun q hq' => by rw [hq] at hq'; cases hq'; exact Nat.le_refl _)
    have hfirst : (Builtin.firstCells inf.size len (.slice (some (adr (σ i) 0)) len c)).run P w.drew = .ok (cur.toList.take (len * inf.size)).toArray w.drew := by
      have := run_loadCells_list (P := P) w.drew (adr (σ i) 0) (cur.toList.take (len * inf.size)) (fun j v e => by
        rw [List.getElem?_take] at e
        split at e
        · unfold adr
          rw [addr_add, cell_of_row w.drew _ _ cur ob.ty (0, 0) h1]
          simpa using e
        · cases e)
      have hl : (cur.toList.take (len * inf.size)).length = len * inf.size := by simp; omega
      rw [hl] at this
      simp [Builtin.firstCells, this]
    have hg' : c < len + m := by omega
    have hr := run_app_grow (ty := o.type) (w := w) hT.ht hd2 hni hT.hi hT.hz hlx hfirst g3 hg' (by omega) (growslice_fits hg' (by have := Nat.mul_le_mul hlm hT.hb; omega))
    have hcap := grownCap_ge w (len + m) c ob.ty
    have hcle := grownCap_le_maxLen w (len + m) c ob.ty (by unfold maxLen; omega)
    refine ⟨_, .slice (some ⟨w.heap.size, 0, none⟩) (len + m) (grownCap w (len + m) c ob.ty), _, _, did_mv (k := ⟨w.heap.size, grownCap w (len + m) c ob.ty * inf.size⟩) (w' := w.drew.alloc (.cells ((cur.toList.take (len * inf.size) ++ vs).toArray ++ Builtin.zeroCells z.cells (grownCap w (len + m) c ob.ty - (len + m))) ob.ty)) hs hD hF1 (by rw [hob]; rfl) (run_bi ho (fun _ => rfl) ?_) (.inl rfl) ?_ (((Tch.drew w).trans0 (Tch.alloc _ _)).no) (.inl (Nat.le_refl _)) ?_⟩
    · simp only [List.map_toArray, List.map_cons, List.map_nil, hp]; exact hr
    · exact ⟨.inr ⟨Nat.le_refl _, Nat.lt_succ_self _⟩, _, by rw [at_same]; rfl, hcap, hcle, by rw [at_same, Nat.zero_add]⟩
    · have hsm : ∀ j, D j → at_ σ n ⟨w.heap.size, grownCap w (len + m) c ob.ty * inf.size⟩ j = σ j := fun j hj => at_other (fun e => by subst e; exact hD hj)
      have hnew := RL.ext (D' := more D n (n + 1)) (hold2.append g1) hsm (fun _ h => .inl h)
      have := grown_obj (i := n) (el := ob.ty) (inf := inf) (z := z) (need := len + m) (cap := grownCap w (len + m) c ob.ty) (w' := w.drew) hnew (by rw [List.length_append, g2, Nat.add_mul]; simp; omega) hT.hzl hcap at_same
      simpa using this
/-- Nothing is appended. -/
def app0 : C → Option (S × Ef)
  | .snil => some (.v (.c .snil), .no 0)
  | .sl i off len (.ex c) => if len ≤ c then some (.v (.c (.sl i off len (.ex c))), .no 0) else none
  | .sl i off len (.op s1) => some (.v (.c (.sl i off len (.op s1))), .no 0)
  | _ => none
theorem app0_ok {t t2 el : TypeId} {inf : TypeInfo} {z : Value} {s x : Operand} {sv xv : C} {s' : S} {e : Ef} (ho : o.op = .call { callee := .builtin .append, args := #[s, x], argTypes := #[t, t2] }) (hT : AppT P t t2 el inf z)
    (hsv : RC σ D sv (ρ s)) (hxv : RC σ D xv (ρ x)) (hx : aLenC xv = some 0) (h : app0 sv = some (s', e)) (hs : Sat σ D (rst (tb e.F) H) w) : AOK P ρ o σ D w H n s' e := by
  obtain ⟨d2, hd2, hni⟩ := hT.d2
  have hlx := fun w => lenC_ok (P := P) (w := w) hx hxv
  have hfx : (Builtin.firstCells inf.size 0 (ρ x)).run P w = .ok #[] w := by
    unfold aLenC at hx
    split at hx <;> first | (cases hx; done) | skip
    · obtain ⟨_, c, e⟩ := sl_val hxv; rw [e]; simp [Builtin.firstCells, loadCells, loadCellsFrom]
    · rw [show ρ x = .slice none 0 0 from hxv]; simp [Builtin.firstCells]
    · obtain ⟨a, c, e⟩ := hxv; rw [e]; cases a <;> simp [Builtin.firstCells, loadCells, loadCellsFrom]
    · rename_i b
      rw [show ρ x = .string ⟨b.toArray⟩ from hxv]
      have : ((ByteArray.mk b.toArray).extract 0 0).data = #[] := by rw [ByteArray.data_extract]; simp
      simp [Builtin.firstCells, this]
  have key : ∀ a len c, ρ s = .slice a len c → len ≤ c → (execOp ρ o).run P w = .ok (.value (ρ s)) w := fun a len c e hle => by
    refine run_bi ho (fun _ => rfl) ?_
    simp only [List.map_toArray, List.map_cons, List.map_nil, e]
    exact run_app_none hT.ht hd2 hni hT.hi hlx hfx hle
  unfold app0 at h
  split at h
  · cases h
    exact ⟨_, ρ s, _, _, did_no hs (key none 0 0 hsv (Nat.le_refl _)) (.inl rfl) hsv⟩
  · rename_i i off len c
    split at h
    · rename_i hle
      cases h
      exact ⟨_, ρ s, _, _, did_no hs (key _ _ _ hsv.2 hle) (.inl rfl) hsv⟩
    · cases h
  · rename_i i off len s1
    cases h
    obtain ⟨_, c, e, hle, _⟩ := id hsv
    exact ⟨_, ρ s, _, _, did_no hs (key _ _ _ e hle) (.inl rfl) hsv⟩
  · cases h
/-- Some cells are appended. -/
def appS (H : Heap) (n : Nat) (el : TypeId) (sz m : Nat) (l : List C) (k : Nat) : C → Option (S × Ef)
  | .snil => some (.v (.c (.sl n 0 m (.op sz))), .new k ⟨el, l, true, .ok⟩)
  | .sl i off len cp => match H i with
    | some ob => if off = 0 ∧ ob.fz = false ∧ ob.ty = el ∧ len * sz ≤ ob.cs.length ∧ len + m ≤ 1000000 then
        match cp with
        | .ex c => if len ≤ c ∧ c ≤ maxLen ∧ ob.opn = false ∧ c * sz = ob.cs.length then
            (if len + m ≤ c then (wrC ob (len * sz) l).map fun ob' => (.v (.c (.sl i 0 (len + m) (.ex c))), .set (one i ||| k) i ob')
             else some (.v (.c (.sl n 0 (len + m) (.op sz))), .mv (one i ||| k) i ⟨el, ob.cs.take (len * sz) ++ l, true, .ok⟩)) else none
        | .op s1 => if s1 = sz then
            (if (len + m) * sz ≤ ob.cs.length then (wrC ob (len * sz) l).map fun ob' => (.v (.c (.sl i 0 (len + m) (.op sz))), .set (one i ||| k) i ob')
             else some (.v (.c (.sl n 0 (len + m) (.op sz))), .mv (one i ||| k) i ⟨el, ob.cs.take (len * sz) ++ l, true, .ok⟩)) else none
      else none
    | none => none
  | _ => none
theorem room_ok {t t2 el : TypeId} {F i k len c m : Nat} {inf : TypeInfo} {z : Value} {ob ob' : AO} {l : List C} {s x : Operand} {src : C} {cp : Cp} (ho : o.op = .call { callee := .builtin .append, args := #[s, x], argTypes := #[t, t2] })
    (hT : AppT P t t2 el inf z) (hs : Sat σ D (rst (tb F) H) w) (hF1 : tb F i = true) (hF2 : ∀ j, tb k j = true → tb F j = true)
    (hob : H i = some ob) (hp : ρ s = .slice (some (adr (σ i) 0)) len c) (hroom : len + m ≤ c) (hsrc : aSrc H inf.size m src = some (l, k)) (hq : aLenC src = some m) (hv : RC σ D src (ρ x)) (hw : wrC ob (len * inf.size) l = some ob')
    (hres : RC σ D (.sl i 0 (len + m) cp) (.slice (some (adr (σ i) 0)) (len + m) c)) : AOK P ρ o σ D w H n (.v (.c (.sl i 0 (len + m) cp))) (.set F i ob') := by
  obtain ⟨d2, hd2, hni⟩ := hT.d2
  obtain ⟨vs, g1, g2, g3⟩ := src_ok (P := P) hs hsrc hF2 hv (fun q hq' => by rw [hq] at hq'; cases hq'; exact Nat.le_refl _)
  obtain ⟨w', k1, k2, k3⟩ := wrC_ok (P := P) (obj_of hs hF1 hob).2 hw g1
  have hlx := fun w => lenC_ok (P := P) (w := w) hq hv
  refine ⟨_, .slice (some (adr (σ i) 0)) (len + m) c, _, _, did_set hs hF1 (by rw [hob]; rfl) (run_bi ho (fun _ => rfl) (w' := w') ?_) (.inl rfl) hres k3 k2⟩
  simp only [List.map_toArray, List.map_cons, List.map_nil, hp]
  exact run_app_room hT.ht hd2 hni hT.hi hlx g3 hroom (by rw [adr_add, Nat.zero_add]; exact k1)
theorem appS_ok {t t2 el : TypeId} {m k : Nat} {inf : TypeInfo} {z : Value} {l : List C} {s x : Operand} {sv src : C} {s' : S} {e : Ef} (ho : o.op = .call { callee := .builtin .append, args := #[s, x], argTypes := #[t, t2] }) (hD : n < e.n' n → ¬ D n)
    (hT : AppT P t t2 el inf z) (hsv : RC σ D sv (ρ s)) (hv : RC σ D src (ρ x)) (hm : 0 < m) (hsrc : aSrc H inf.size m src = some (l, k)) (hq : aLenC src = some m) (hm1 : m ≤ 1000000) (h : appS H n el inf.size m l k sv = some (s', e)) (hs : Sat σ D (rst (tb e.F) H) w) : AOK P ρ o σ D w H n s' e := by
  obtain ⟨d2, hd2, hni⟩ := hT.d2
  unfold appS at h
  split at h
  · cases h
    have hD' : ¬ D n := hD (Nat.lt_succ_self n)
    have hp : ρ s = .slice none 0 0 := hsv
    have hlx := fun w => lenC_ok (P := P) (w := w) hq hv
    obtain ⟨vs, g1, g2, g3⟩ := src_ok (P := P) hs.drew hsrc (fun j hj => hj) hv (fun q hq' => by rw [hq] at hq'; cases hq'; exact Nat.le_refl _)
    have hg' : 0 < 0 + m := by omega
    have hr := run_app_grow (ty := o.type) (w := w) (base := none) (sLen := 0) (sCap := 0) (olds := []) hT.ht hd2 hni hT.hi hT.hz hlx (by simp [Builtin.firstCells]) g3 hg' (by omega) (growslice_fits hg' (by rw [Nat.zero_add]; have := Nat.mul_le_mul hm1 hT.hb; omega))
    simp only [Nat.zero_add, List.nil_append] at hr
    have hcap := grownCap_ge w m 0 el
    have hcle := grownCap_le_maxLen w m 0 el (by unfold maxLen; omega)
    have hsm : ∀ j, D j → at_ σ n ⟨w.heap.size, grownCap w m 0 el * inf.size⟩ j = σ j := fun j hj => at_other (fun e => by subst e; exact hD' hj)
    refine ⟨_, .slice (some ⟨w.heap.size, 0, none⟩) m (grownCap w m 0 el), _, _, did_new (k := ⟨w.heap.size, grownCap w m 0 el * inf.size⟩) hs hD' (run_bi ho (fun _ => rfl) (w' := w.drew.alloc (.cells (vs.toArray ++ Builtin.zeroCells z.cells (grownCap w m 0 el - m)) el)) ?_) (.inl rfl) ?_ ((Tch.drew w).trans0 (Tch.alloc _ _)) (Nat.le_refl _) ?_⟩
    · simp only [List.map_toArray, List.map_cons, List.map_nil, hp]; simpa using hr
    · exact ⟨.inr ⟨Nat.le_refl _, Nat.lt_succ_self _⟩, _, by rw [at_same]; rfl, hcap, hcle, by rw [at_same, Nat.zero_add]⟩
    · exact grown_obj (inf := inf) (w' := w.drew) (g1.ext hsm (fun _ h => .inl h)) g2 hT.hzl hcap at_same
  · rename_i i off len cp
    split at h
    · rename_i ob hob
      split at h
      · rename_i hc
        obtain ⟨rfl, hfz, hty, hlen, hlm⟩ := hc
        have hF1 : ∀ {a}, tb (one i ||| a) i = true := by intro a; rw [tb_or, tb_one]; rfl
        have hF2 : ∀ j, tb k j = true → tb (one i ||| k) j = true := fun j hj => by rw [tb_or, hj, Bool.or_true]
        split at h
        · rename_i c
          split at h
          · rename_i hc2
            obtain ⟨hlc, hcm, hopn, hcs⟩ := hc2
            have ht0 : ∀ {F}, Sat σ D (rst (tb F) H) w → tb F i = true → c * inf.size = (σ i).t := fun hs hF => by
              obtain ⟨cur, fr, h1, h0, h2, h3, h4, h5⟩ := (obj_of hs hF hob).2.ok hfz
              rw [hcs]; exact h4 hopn
            split at h
            · rename_i hroom
              rw [Option.map_eq_some_iff] at h
              obtain ⟨ob', h1, h2⟩ := h
              cases h2
              exact room_ok ho hT hs hF1 hF2 hob hsv.2 hroom hsrc hq hv h1 ⟨hsv.1, rfl⟩
            · cases h
              have hs' : Sat σ D (rst (tb (one i ||| k)) H) w := hs
              exact grow_ok ho hT hs' (hD (Nat.lt_succ_self n)) hF1 hF2 hob hfz hty hlen (ht0 hs' hF1) hlc hcm hsv.2 hsrc hv hq hlm
          · cases h
        · rename_i s1
          split at h
          · rename_i hs1
            subst hs1
            obtain ⟨hDi, c, hp, hlc, hcm, hct⟩ := id hsv
            rw [Nat.zero_add] at hct
            split at h
            · rename_i hfit
              rw [Option.map_eq_some_iff] at h
              obtain ⟨ob', h1, h2⟩ := h
              cases h2
              have hs' : Sat σ D (rst (tb (one i ||| k)) H) w := hs
              have hroom : len + m ≤ c := by
                obtain ⟨cur, fr, h1, h0, h2, h3, h4, h5⟩ := (obj_of hs' hF1 hob).2.ok hfz
                have := Nat.le_trans hfit h3
                rw [← hct] at this
                exact Nat.le_of_mul_le_mul_right this hT.hsz
              exact room_ok ho hT hs' hF1 hF2 hob hp hroom hsrc hq hv h1 ⟨hDi, c, rfl, hroom, hcm, by rw [Nat.zero_add]; exact hct⟩
            · cases h
              have hs' : Sat σ D (rst (tb (one i ||| k)) H) w := hs
              exact grow_ok ho hT hs' (hD (Nat.lt_succ_self n)) hF1 hF2 hob hfz hty hlen hct hlc hcm hp hsrc hv hq hlm
          · cases h
      · cases h
    · cases h
  · cases h
/-- Zeros are appended to nothing. -/
def appZ (P : Program) (n : Nat) (el : TypeId) (inf : TypeInfo) (z : List C) (t2 : TypeId) (sv xv : C) : Option (S × Ef) := match sv, xv, P.underlying t2 with
  | .snil, .int _ (.ofNat (m + 1)), some (.int _) => if m + 1 ≤ 1000000 ∧ inf.bytes ≤ 1000000 then some (.v (.c (.sl n 0 (m + 1) (.op inf.size))), .new 0 ⟨el, zerosC z ((m + 1) * z.length), true, .ok⟩) else none
  | _, _, _ => none
theorem appZ_ok {t t2 el : TypeId} {inf : TypeInfo} {z : Value} {zl : List C} {s x : Operand} {sv xv : C} {s' : S} {e : Ef} (ho : o.op = .call { callee := .builtin .append, args := #[s, x], argTypes := #[t, t2] }) (hD : n < e.n' n → ¬ D n)
    (ht : P.underlying t = some (.slice el)) (hi : P.info? el = some inf) (hz : inf.zero = some z) (hzr : RL σ D zl z.cells.toList) (hzl : zl.length = inf.size) (hsz : 0 < inf.size)
    (hsv : RC σ D sv (ρ s)) (hxv : RC σ D xv (ρ x)) (h : appZ P n el inf zl t2 sv xv = some (s', e)) (hs : Sat σ D (rst (tb e.F) H) w) : AOK P ρ o σ D w H n s' e := by
  unfold appZ at h
  split at h
  · rename_i q m kn ht2
    split at h
    · rename_i hc
      cases h
      have hD' : ¬ D n := hD (Nat.lt_succ_self n)
      have hp : ρ s = .slice none 0 0 := hsv
      have hpx : ρ x = .int q ((m + 1 : Nat) : Int) := hxv
      have hbb : (m + 1) * inf.bytes ≤ 281474976710656 := by have := Nat.mul_le_mul hc.1 hc.2; omega
      have hr := Go.Lib.run_append_nil_zeros (P := P) w t t2 o.type el inf z q kn ht ht2 hi hz (m + 1) (Nat.succ_pos _) hsz (by omega) hbb
      have hge : m + 1 ≤ grownCap w (m + 1) 0 el := grownCap_ge w (m + 1) 0 el
      have hle : grownCap w (m + 1) 0 el ≤ maxLen := grownCap_le_maxLen w (m + 1) 0 el (by unfold maxLen; omega)
      have hzc : z.cells.size = inf.size := by rw [← hzl]; have := hzr.length; rwa [Array.length_toList] at this
      have hsm : ∀ i, D i → at_ σ n ⟨w.heap.size, grownCap w (m + 1) 0 el * inf.size⟩ i = σ i := fun i hi => at_other (fun e => by subst e; exact hD' hi)
      have hz0 := zeros_ok (n := (m + 1) * zl.length) hzr (by omega)
      refine ⟨_, .slice (some ⟨w.heap.size, 0, none⟩) (m + 1) (grownCap w (m + 1) 0 el), _, _, did_new (k := ⟨w.heap.size, grownCap w (m + 1) 0 el * inf.size⟩) hs hD' (run_bi ho (fun _ => rfl) (w' := w.drew.alloc (.cells (Builtin.zeroCells z.cells (m + 1) ++ Builtin.zeroCells z.cells (grownCap w (m + 1) 0 el - (m + 1))) el)) ?_) (.inl rfl) ?_ ?_ (Nat.le_refl _) ?_⟩
      · simp only [List.map_toArray, List.map_cons, List.map_nil, hp, hpx]; exact hr
      · exact ⟨.inr ⟨Nat.le_refl _, Nat.lt_succ_self _⟩, _, by rw [at_same]; rfl, hge, hle, by rw [at_same, Nat.zero_add]⟩
      · exact (Tch.drew w).trans0 (Tch.alloc _ _)
      · have := grown_obj (i := n) (el := el) (inf := inf) (z := z) (need := m + 1) (cap := grownCap w (m + 1) 0 el) (w' := w.drew) (RL.ext (D' := more D n (n + 1)) hz0 hsm (fun _ h => .inl h)) (by rw [hzl]; simp [madeCells]) hzc hge at_same
        have e : Builtin.zeroCells z.cells (m + 1) = madeCells z.cells ((m + 1) * zl.length) := by rw [zeroCells_eq, hzc, hzl]
        rw [e]
        simpa using this
    · cases h
  · cases h
def aApp (P : Program) (H : Heap) (A : Operand → Option S) (n : Nat) (t t2 : TypeId) (s x : Operand) : Option (S × Ef) := match P.underlying t, S.c? (A s), S.c? (A x) with
  | some (.slice el), some sv, some xv => match P.info? el, zeroOf P el with
    | some inf, some (_, z) => if z.length = inf.size ∧ 0 < inf.size ∧ inf.bytes ≤ 1000000 then
        match aLenC xv with
        | none => appZ P n el inf z t2 sv xv
        | some m => match P.underlying t2 with
          | some d2 => if noInt d2 = true ∧ m ≤ 1000000 then (match m with
            | 0 => app0 sv
            | m + 1 => match aSrc H inf.size (m + 1) xv with
              | some (l, k) => appS H n el inf.size (m + 1) l k sv
              | none => none) else none
          | none => none
      else none
    | _, _ => none
  | _, _, _ => none
theorem app_ok {t t2 : TypeId} {s x : Operand} {s' : S} {e : Ef} (ho : o.op = .call { callee := .builtin .append, args := #[s, x], argTypes := #[t, t2] }) (hA : Eqv σ D A ρ) (hD : n < e.n' n → ¬ D n) (h : aApp P H A n t t2 s x = some (s', e)) (hs : Sat σ D (rst (tb e.F) H) w) : AOK P ρ o σ D w H n s' e := by
  unfold aApp at h
  split at h
  · rename_i el sv xv ht hsv hxv
    split at h
    · rename_i inf z0 z hi hz0
      split at h
      · rename_i hc
        obtain ⟨hzl, hsz, hb⟩ := hc
        obtain ⟨hz, hzr, i', hi', hz'⟩ := zeroOf_ok (σ := σ) (D := D) hz0
        rw [hi] at hi'; cases hi'
        have hzc : z0.cells.size = inf.size := by rw [← hzl]; have := hz.length; rwa [Array.length_toList] at this
        have hS := hA.c hsv
        have hX := hA.c hxv
        split at h
        · exact appZ_ok ho hD ht hi hz' hz hzl hsz hS hX h hs
        · rename_i m hq
          split at h
          · rename_i d2 hd2
            split at h
            · rename_i hc2
              have hT : AppT P t t2 el inf z0 := ⟨ht, ⟨d2, hd2, hc2.1⟩, hi, hz', hzc, hsz, hb⟩
              split at h
              · exact app0_ok ho hT hS hX hq h hs
              · rename_i m
                split at h
                · rename_i l k hsrc
                  exact appS_ok ho hD hT hS hX (Nat.succ_pos _) hsrc hq hc2.2 h hs
                · cases h
            · cases h
          · cases h
      · cases h
    · cases h
  · cases h
end
end Go.Proofs.YtcmlgmiomcegeaaGreat.Ev
namespace Go.Proofs.YtcmlgmiomcegeaaGreat.Ev
open Go Go.RowKit Go.Maps
set_option linter.unusedVariables false
set_option linter.unusedSimpArgs false
set_option linter.unusedSectionVars false
variable [Env]

/-- Are two keys the same? None: that is not told. -/
def eqK (d : TypeDesc) (a b : C) : Option Bool := match d, a, b with
  | .int _, .int k x, .int k' y => if k = k' then some (x == y) else none
  | .string, .str x, .str y => some (x == y)
  | .bool, .bool x, .bool y => some (x == y)
  | _, _, _ => none
/-- .. or what is told of values from outside. -/
def eqX (d : TypeDesc) (a b : C) : Option Bool := match eqK d a b with
  | some r => some r
  | none => match d, a, b with
    | .int _, .ext i, .ext j => if Nat.beq i j && Env.num i then some true else none
    | .int _, .ext i, .int .i64 y => if Env.nei i y then some false else none
    | .int _, .int .i64 y, .ext i => if Env.nei i y then some false else none
    | _, _, _ => none
def findK (d : TypeDesc) (k : C) : List (C × V × Nat) → Nat → Option (Option (Nat × V × Nat))
  | [], _ => some none
  | e :: es, i => match eqX d k e.1 with
    | some true => some (some (i, e.2))
    | some false => findK d k es (i + 1)
    | none => none
theorem str_beq (x y : List UInt8) : (ByteArray.mk x.toArray == ByteArray.mk y.toArray) = (x == y) := by
  have e : (ByteArray.mk x.toArray == ByteArray.mk y.toArray) = (x.toArray == y.toArray) := rfl
  rw [e]; simp
section
variable {P : Program} {ρ : Operand → Value} {o : Oper} {σ : Nat → Blk} {D : Nat → Prop} {w : World} {H : Heap} {n : Nat} {A : Operand → Option S}
theorem eqK_ok {d : TypeDesc} {a b : C} {r : Bool} {x y : Value} (h : eqK d a b = some r) (hx : RC σ D a x) (hy : RC σ D b y) : Instr.sameNow d x y = some r := by
  unfold eqK at h
  split at h
  · cases hx; cases hy
    simpa [Instr.sameNow] using h
  · cases hx; cases hy
    simp only [Instr.sameNow, str_beq]; exact h
  · cases hx; cases hy
    simpa [Instr.sameNow] using h
  · cases h
theorem eqX_ok {d : TypeDesc} {a b : C} {r : Bool} {x y : Value} (h : eqX d a b = some r) (hx : RC σ D a x) (hy : RC σ D b y) : Instr.sameNow d x y = some r := by
  unfold eqX at h
  split at h
  · rename_i r' hr
    cases h
    exact eqK_ok hr hx hy
  · rename_i he0
    clear he0
    split at h
    · rename_i i j
      split at h
      · rename_i hc
        simp only [Bool.and_eq_true] at hc
        have hij := Nat.eq_of_beq_eq_true hc.1
        subst hij
        obtain ⟨n, hn⟩ := Env.isNum i hc.2
        cases h
        rw [show x = .int .i64 n from (show x = Env.val i from hx).trans hn, show y = .int .i64 n from (show y = Env.val i from hy).trans hn]
        simp [Instr.sameNow]
      · cases h
    · rename_i i q
      split at h
      · rename_i hc
        obtain ⟨n, hn, hne⟩ := Env.isNei i q hc
        cases h
        rw [show x = .int .i64 n from (show x = Env.val i from hx).trans hn, show y = .int .i64 q from hy]
        simp [Instr.sameNow, hne]
      · cases h
    · rename_i q i
      split at h
      · rename_i hc
        obtain ⟨n, hn, hne⟩ := Env.isNei i q hc
        cases h
        rw [show y = .int .i64 n from (show y = Env.val i from hy).trans hn, show x = .int .i64 q from hx]
        simp [Instr.sameNow, Ne.symm hne]
      · cases h
    · cases h
theorem findK_ok {d : TypeDesc} {k : C} {x : Value} (hk : RC σ D k x) : ∀ {es : List (C × V × Nat)} {m : List MapEntry} {i : Nat} {r : Option (Nat × V × Nat)}, findK d k es i = some r → RM σ D es m →
    match r with
    | none => Instr.findNow d x m i = some none
    | some (j, v, b) => ∃ u, Instr.findNow d x m i = some (some (j, u)) ∧ RV σ D v u ∧ i ≤ j ∧ ∃ e q, es[j - i]? = some e ∧ m[j - i]? = some q ∧ RC σ D e.1 q.key ∧ eqX d k e.1 = some true ∧ q.born = b ∧ q.val = u
  | [], [], i, r, h, _ => by
    simp only [findK, Option.some.injEq] at h; subst h; rfl
  | e :: es, q :: m, i, r, h, hm => by
    simp only [findK] at h
    split at h
    · rename_i he
      simp only [Option.some.injEq] at h; subst h
      have := eqX_ok he hk hm.1.1
      exact ⟨q.val, by simp only [Instr.findNow, this], hm.1.2.1, Nat.le_refl _, e, q, by simp, by simp, hm.1.1, he, hm.1.2.2, rfl⟩
    · rename_i he
      have h1 := eqX_ok he hk hm.1.1
      have ih := findK_ok hk h hm.2
      cases r with
      | none => simp only at ih ⊢; simp only [Instr.findNow, h1]; exact ih
      | some jv =>
        obtain ⟨j, v, b⟩ := jv
        obtain ⟨u, g1, g2, g3, e', q', g4, g5, g6, g7⟩ := ih
        refine ⟨u, by simp only [Instr.findNow, h1]; exact g1, g2, by omega, e', q', ?_, ?_, g6, g7⟩
        · obtain ⟨p, hp⟩ : ∃ p, j - i = p + 1 := ⟨j - i - 1, by omega⟩
          rw [hp, List.getElem?_cons_succ, show p = j - (i + 1) by omega]; exact g4
        · obtain ⟨p, hp⟩ : ∃ p, j - i = p + 1 := ⟨j - i - 1, by omega⟩
          rw [hp, List.getElem?_cons_succ, show p = j - (i + 1) by omega]; exact g5
    · cases h
/-- A kind of key that is compared at once. -/
def keyD : TypeDesc → Bool | .int _ => true | .string => true | .bool => true | _ => false
theorem run_checkKey {kt : TypeId} {d : TypeDesc} (h : P.underlying kt = some d) (hd : keyD d = true) (b : Bool) (v : Value) (w : World) : (Instr.checkKey b 10000 kt v).run P w = .ok () w := by
  show (Instr.checkKey b (9999 + 1) kt v).run P w = .ok () w
  unfold Instr.checkKey
  rw [Sem.run_bind, run_underlying h w]
  cases d <;> first | (cases hd; done) | rfl
theorem run_findKey {kt : TypeId} {d : TypeDesc} {x : Value} {m : List MapEntry} {r : Option (Nat × Value)} (h : P.underlying kt = some d) (hf : Instr.findNow d x m 0 = some r) (w : World) : (Instr.findKey kt x m).run P w = .ok r w := by
  unfold Instr.findKey
  rw [Sem.run_bind, run_underlying h w]
  simp only [Result.andThen_ok, hf]
  rfl
theorem map_of {F i : Nat} {ob : AO} {es : List (C × V × Nat)} {cl : Nat} (hs : Sat σ D (rst (tb F) H) w) (hF : tb F i = true) (ho : H i = some ob) (hk : ob.k = .mp es cl) : D i ∧ ObjMap σ D i es cl w := by
  obtain ⟨h1, h2⟩ := obj_of hs hF ho
  unfold ObjAt at h2
  rw [hk] at h2
  exact ⟨h1, h2.2⟩
def aMm (n : Nat) (t : TypeId) (r : Option Operand) : Option (S × Ef) := match r with
  | none => some (.v (.c (.map n)), .new 0 ⟨t, [], false, .mp [] 0⟩)
  | some _ => none
theorem mm_ok {t : TypeId} {r : Option Operand} {s : S} {e : Ef} (ho : o.op = .makeMap t r) (hD : n < e.n' n → ¬ D n) (h : aMm n t r = some (s, e)) (hs : Sat σ D (rst (tb e.F) H) w) : AOK P ρ o σ D w H n s e := by
  unfold aMm at h
  split at h
  · cases h
    have hD' := hD (Nat.lt_succ_self n)
    refine ⟨_, .map (some w.heap.size), _, _, did_new (k := ⟨w.heap.size, 0⟩) (w' := w.alloc (.map #[] 0)) hs hD' ?_ (.inl rfl) ⟨.inr ⟨Nat.le_refl _, Nat.lt_succ_self _⟩, by rw [at_same]⟩ (Tch.alloc _ _) (Nat.le_refl _) ?_⟩
    · unfold execOp; rw [ho]; simp [Instr.makeMap]
    · exact ⟨rfl, #[], by rw [at_same]; exact heap_alloc_new _ _, trivial⟩
  · cases h
def aLk (P : Program) (H : Heap) (A : Operand → Option S) (t : TypeId) (x y : Operand) (ok : Bool) : Option (S × Ef) := match P.underlying t, S.c? (A x), S.c? (A y) with
  | some (.map kt et), some (.map i), some k => match P.underlying kt, H i with
    | some d, some ob => match ob.k with
      | .mp es _ => if keyD d = true then (match findK d k es 0 with
        | some (some (_, v, _)) => some (if ok then .tup [v, .c (.bool true)] else .v v, .no (one i))
        | some none => match (P.info? et).bind (·.zero) with
          | some z => (absV z).map fun v => (if ok then .tup [v, .c (.bool false)] else .v v, .no (one i))
          | none => none
        | none => none) else none
      | _ => none
    | _, _ => none
  | _, _, _ => none
theorem lk_ok {t : TypeId} {x y : Operand} {ok : Bool} {s : S} {e : Ef} (ho : o.op = .lookup t x y ok) (hA : Eqv σ D A ρ) (h : aLk P H A t x y ok = some (s, e)) (hs : Sat σ D (rst (tb e.F) H) w) : AOK P ρ o σ D w H n s e := by
  unfold aLk at h
  split at h
  · rename_i kt et i k ht hx hy
    split at h
    · rename_i d ob hd hob
      split at h
      · rename_i es cl hes
        split at h
        · rename_i hkd
          have fin : ∀ (v : V) (b : Bool) (u : Value), RV σ D v u → Sat σ D (rst (tb (one i)) H) w → (Instr.lookup t (ρ x) (ρ y) ok).run P w = .ok (if ok then .tuple #[u, .bool b] else u) w → AOK P ρ o σ D w H n (if ok then .tup [v, .c (.bool b)] else .v v) (.no (one i)) := fun v b u hv hs hr => by
            refine ⟨.value _, if ok then .tuple #[u, .bool b] else u, _, _, did_no hs ?_ (.inl rfl) ?_⟩
            · unfold execOp; rw [ho]; simp [hr]
            · cases ok
              · exact hv
              · exact ⟨[u, .bool b], ⟨hv, rfl, trivial⟩, rfl⟩
          split at h
          · rename_i j v b hf
            cases h
            obtain ⟨hDi, m, hm1, hm2⟩ := map_of hs tb_one hob hes
            have hp := (hA.c hx).2
            obtain ⟨u, g1, g2, _⟩ := findK_ok (hA.c hy) hf hm2
            refine fin v true u g2 hs ?_
            have hk := fun b v w => run_checkKey (P := P) hd hkd b v w
            have hfk := fun w => run_findKey (P := P) hd g1 w
            cases ok <;> simp [Instr.lookup, run_underlying ht, hp, getObj, Sem.run, hm1, hk, hfk]
          · rename_i hf
            split at h
            · rename_i z hz
              rw [Option.map_eq_some_iff] at h
              obtain ⟨v, h1, h2⟩ := h
              cases h2
              obtain ⟨hDi, m, hm1, hm2⟩ := map_of hs tb_one hob hes
              have hp := (hA.c hx).2
              have g1 := findK_ok (hA.c hy) hf hm2
              simp only at g1
              refine fin v false z (absV_ok h1) hs ?_
              have hk := fun b v w => run_checkKey (P := P) hd hkd b v w
              have hfk := fun w => run_findKey (P := P) hd g1 w
              have hzv : ∀ w, (zeroValue et).run P w = .ok z w := fun w => by
                cases hi : P.info? et with
                | none => rw [hi] at hz; cases hz
                | some inf =>
                  rw [hi] at hz
                  have hz' : inf.zero = some z := hz
                  simp [zeroValue, typeInfo, hi, hz']
              cases ok <;> simp [Instr.lookup, run_underlying ht, hp, getObj, Sem.run, hm1, hk, hfk, hzv]
            · cases h
          · cases h
        · cases h
      · cases h
    · cases h
  · cases h
/-- An entry is written. -/
def putK (d : TypeDesc) (k : C) (v : V) (es : List (C × V × Nat)) (cl : Nat) : Option (List (C × V × Nat) × Nat) := match findK d k es 0 with
  | some (some (j, _, b)) => some (es.set j (k, v, b), cl)
  | some none => some (es ++ [(k, v, cl)], cl + 1)
  | none => none
def aMu (P : Program) (H : Heap) (A : Operand → Option S) (t : TypeId) (x y z : Operand) : Option (S × Ef) := match P.underlying t, S.c? (A x), S.c? (A y), S.v? (A z) with
  | some (.map kt et), some (.map i), some k, some v => match P.underlying kt, H i with
    | some d, some ob => match ob.k with
      | .mp es cl => if keyD d = true then (putK d k v es cl).map fun es' => (.un, .set (one i) i ⟨ob.ty, [], ob.opn, .mp es'.1 es'.2⟩) else none
      | _ => none
    | _, _ => none
  | _, _, _, _ => none
theorem RM.set {σ : Nat → Blk} {D : Nat → Prop} : ∀ {es : List (C × V × Nat)} {m : List MapEntry} {j : Nat} {e : C × V × Nat} {q : MapEntry}, RM σ D es m → RC σ D e.1 q.key → RV σ D e.2.1 q.val → q.born = e.2.2 → RM σ D (es.set j e) (m.set j q)
  | [], [], _, _, _, _, _, _, _ => trivial
  | _ :: _, _ :: _, 0, _, _, h, h1, h2, h3 => ⟨⟨h1, h2, h3⟩, h.2⟩
  | _ :: _, _ :: _, j + 1, _, _, h, h1, h2, h3 => ⟨h.1, RM.set h.2 h1 h2 h3⟩
theorem RM.push {σ : Nat → Blk} {D : Nat → Prop} : ∀ {es : List (C × V × Nat)} {m : List MapEntry} {e : C × V × Nat} {q : MapEntry}, RM σ D es m → RC σ D e.1 q.key → RV σ D e.2.1 q.val → q.born = e.2.2 → RM σ D (es ++ [e]) (m ++ [q])
  | [], [], _, _, _, h1, h2, h3 => ⟨⟨h1, h2, h3⟩, trivial⟩
  | _ :: _, _ :: _, _, _, h, h1, h2, h3 => ⟨h.1, RM.push h.2 h1 h2 h3⟩
theorem run_staysK {d : TypeDesc} {k k' : C} {x y : Value} (h : eqK d k k' = some true) (hx : RC σ D k x) (hy : RC σ D k' y) (w : World) : (Instr.keyThatStays y x).run P w = .ok x w := by
  unfold eqK at h
  split at h
  · cases hx; cases hy
    split at h
    · rename_i hk
      subst hk
      simp at h; subst h
      simp [Instr.keyThatStays, Instr.sameBits]
    · cases h
  · cases hx; cases hy
    simp at h; subst h
    simp [Instr.keyThatStays, Instr.sameBits, str_beq]
  · cases hx; cases hy
    simp at h; subst h
    simp [Instr.keyThatStays, Instr.sameBits]
  · cases h
theorem run_stays {d : TypeDesc} {k k' : C} {x y : Value} (h : eqX d k k' = some true) (hx : RC σ D k x) (hy : RC σ D k' y) (w : World) : (Instr.keyThatStays y x).run P w = .ok x w := by
  unfold eqX at h
  split at h
  · rename_i r hr
    cases h
    exact run_staysK hr hx hy w
  · rename_i he0
    clear he0
    split at h
    · rename_i i j
      split at h
      · rename_i hc
        simp only [Bool.and_eq_true] at hc
        have hij := Nat.eq_of_beq_eq_true hc.1
        subst hij
        obtain ⟨n, hn⟩ := Env.isNum i hc.2
        rw [show x = .int .i64 n from (show x = Env.val i from hx).trans hn, show y = .int .i64 n from (show y = Env.val i from hy).trans hn]
        simp [Instr.keyThatStays, Instr.sameBits]
      · cases h
    · split at h <;> cases h
    · split at h <;> cases h
    · cases h
theorem heap_set_tch {w : World} {b : Nat} {ob : Obj} : Tch (fun k => k = b) w { w with heap := w.heap.setIfInBounds b ob } :=
  ⟨rfl, rfl, rfl, by simp, fun k hk hn => by
    show (w.heap.setIfInBounds b ob)[k]? = w.heap[k]?
    rw [Array.getElem?_setIfInBounds_ne (fun e => hn e.symm)]⟩
theorem mu_ok {t : TypeId} {x y z : Operand} {s : S} {e : Ef} (ho : o.op = .mapUpdate t x y z) (hA : Eqv σ D A ρ) (h : aMu P H A t x y z = some (s, e)) (hs : Sat σ D (rst (tb e.F) H) w) : AOK P ρ o σ D w H n s e := by
  unfold aMu at h
  split at h
  · rename_i kt et i k v ht hx hy hz
    split at h
    · rename_i d ob hd hob
      split at h
      · rename_i es cl hes
        split at h
        · rename_i hkd
          rw [Option.map_eq_some_iff] at h
          obtain ⟨⟨es', cl'⟩, h1, h2⟩ := h
          cases h2
          obtain ⟨hDi, m, hm1, hm2⟩ := map_of hs tb_one hob hes
          have hp := (hA.c hx).2
          have hkk := hA.c hy
          have hvv := hA.v hz
          have hlt : (σ i).b < w.heap.size := (Array.getElem?_eq_some_iff.1 hm1).1
          have hck := fun b v w => run_checkKey (P := P) hd hkd b v w
          have fin : ∀ (m' : Array MapEntry), RM σ D es' m'.toList → (Instr.mapUpdate t (ρ x) (ρ y) (ρ z)).run P w = .ok () { w with heap := w.heap.setIfInBounds (σ i).b (.map m' cl') } → AOK P ρ o σ D w H n .un (.set (one i) i ⟨ob.ty, [], ob.opn, .mp es' cl'⟩) := fun m' hm hr => by
            refine ⟨.skip, undef, _, _, did_set (w' := { w with heap := w.heap.setIfInBounds (σ i).b (.map m' cl') }) hs tb_one (by rw [hob]; rfl) ?_ (.inr ⟨rfl, rfl⟩) rfl heap_set_tch ?_⟩
            · unfold execOp; rw [ho]; simp [hr]
            · exact ⟨rfl, m', by show (w.heap.setIfInBounds (σ i).b _)[(σ i).b]? = _; simp [hlt], hm⟩
          unfold putK at h1
          split at h1
          · rename_i j v0 b hf
            simp only [Option.some.injEq, Prod.mk.injEq] at h1
            obtain ⟨rfl, rfl⟩ := h1
            obtain ⟨u, g1, g2, g3, e', q, g4, g5, g6, g7, g8, g9⟩ := findK_ok hkk hf hm2
            rw [Nat.sub_zero] at g4 g5
            have hfk := fun w => run_findKey (P := P) hd g1 w
            have hst := fun w => run_stays (P := P) g7 hkk g6 w
            have hqa : m[j]? = some q := by rw [← Array.getElem?_toList]; exact g5
            refine fin (m.modify j fun e => { e with key := ρ y, val := ρ z }) ?_ ?_
            · have hmod : (m.modify j fun e => { e with key := ρ y, val := ρ z }).toList = m.toList.set j { q with key := ρ y, val := ρ z } := by
                apply List.ext_getElem?
                intro p
                rw [Array.getElem?_toList, Array.getElem?_modify, List.getElem?_set, Array.getElem?_toList]
                by_cases e : j = p
                · subst e
                  obtain ⟨hlt2, hq2⟩ := Array.getElem?_eq_some_iff.1 hqa
                  simp [hlt2, hq2]
                · simp [e]
              rw [hmod]
              exact hm2.set hkk hvv g8
            · simp [Instr.mapUpdate, run_underlying ht, hp, getObj, setObj, Sem.run, hm1, hck, hfk, hqa, hst]
          · rename_i hf
            simp only [Option.some.injEq, Prod.mk.injEq] at h1
            obtain ⟨rfl, rfl⟩ := h1
            have g1 := findK_ok hkk hf hm2
            simp only at g1
            have hfk := fun w => run_findKey (P := P) hd g1 w
            refine fin (m.push { key := ρ y, val := ρ z, born := cl }) ?_ ?_
            · rw [Array.toList_push]; exact hm2.push hkk hvv rfl
            · simp [Instr.mapUpdate, run_underlying ht, hp, getObj, setObj, Sem.run, hm1, hck, hfk]
          · cases h1
        · cases h
      · cases h
    · cases h
  · cases h
/-! ### Structs of numbers, texts, truths: the same? -/
def eqFs (P : Program) (xs ys : List C) : List Field → Option Bool
  | [] => some true
  | f :: fs => if f.name = "_" then none else match P.underlying f.type, xs[f.offset]?, ys[f.offset]? with
    | some d, some a, some b => if keyD d = true then (match eqK d a b with
      | some true => eqFs P xs ys fs
      | some false => some false
      | none => none) else none
    | _, _, _ => none
def aBinS (P : Program) (A : Operand → Option S) (op : BinOp) (t : TypeId) (x y : Operand) : Option (S × Ef) := match S.v? (A x), S.v? (A y), P.underlying t with
  | some (.agg xs), some (.agg ys), some (.struct fs) => if P.stoodInHeld t = false ∧ Program.eqGuardType P P.depth t = false then
      (match eqFs P xs ys fs.toList with
      | some b => (eqC op b).map fun c => (.v (.c c), .no 0)
      | none => none) else none
  | _, _, _ => none
theorem part_key {ft : TypeId} {d : TypeDesc} (hd : P.underlying ft = some d) (hk : keyD d = true) {m : List Value} {off : Nat} {v : Value} (h : m[off]? = some v) : (part ft m.toArray off).run P w = .ok v w := by
  have : isAg P ft = some false := by
    unfold isAg; rw [hd]
    cases d <;> first | rfl | cases hk
  simp [part, run_isAg this, h]
theorem eqK_eq {d : TypeDesc} {ft : TypeId} {a b : C} {r : Bool} {x y : Value} (hd : P.underlying ft = some d) (h : eqK d a b = some r) (hx : RC σ D a x) (hy : RC σ D b y) (q : Nat) : (Op.equalIn (q + 1) ft x y).run P w = .ok r w := by
  unfold eqK at h
  split at h
  · cases hx; cases hy
    split at h
    · rename_i hk
      subst hk
      cases h
      exact run_equalIn_int w q ft _ _ _ _ hd
    · cases h
  · cases hx; cases hy
    cases h
    have := fun (a b : ByteArray) => (show (Op.equalIn (q + 1) ft (.string a) (.string b)).run P w = .ok (a == b) w by simp only [Op.equalIn, Sem.run_bind, run_underlying hd, Result.andThen_ok]; rfl)
    rw [this, str_beq]
  · cases hx; cases hy
    cases h
    exact run_equalIn_bool w q ft _ _ hd
  · cases h
theorem eqFs_ok {xs ys : List C} {m m' : List Value} (hx : RL σ D xs m) (hy : RL σ D ys m') (q : Nat) : ∀ {fs : List Field} {b : Bool}, eqFs P xs ys fs = some b → (Op.eqFields (q + 1) m.toArray m'.toArray fs).run P w = .ok b w
  | [], b, h => by simp only [eqFs, Option.some.injEq] at h; subst h; rfl
  | f :: fs, b, h => by
    simp only [eqFs] at h
    split at h
    · cases h
    · rename_i hn
      split at h
      · rename_i d a c hd ha hc
        split at h
        · rename_i hk
          obtain ⟨v, v1, v2⟩ := hx.get ha
          obtain ⟨u, u1, u2⟩ := hy.get hc
          have p1 := fun w => part_key (P := P) (w := w) hd hk v1
          have p2 := fun w => part_key (P := P) (w := w) hd hk u1
          simp only [Op.eqFields, hn, ne_eq, not_false_eq_true, if_true, Sem.run_bind, p1, p2, Result.andThen_ok]
          split at h
          · rename_i he
            rw [eqK_eq hd he v2 u2 q]
            simp only [Result.andThen_ok, Bool.not_true, Bool.false_eq_true, if_false]
            exact eqFs_ok hx hy q h
          · rename_i he
            cases h
            rw [eqK_eq hd he v2 u2 q]
            rfl
          · cases h
        · cases h
      · cases h
theorem binS_ok {op : BinOp} {t ty : TypeId} {x y : Operand} {s : S} {e : Ef} (ho : o.op = .binOp op t x y ty) (hA : Eqv σ D A ρ) (h : aBinS P A op t x y = some (s, e)) (hs : Sat σ D (rst (tb e.F) H) w) : AOK P ρ o σ D w H n s e := by
  unfold aBinS at h
  split at h
  · rename_i xs ys fs hx hy ht
    split at h
    · rename_i hc
      split at h
      · rename_i b hb
        rw [Option.map_eq_some_iff] at h
        obtain ⟨c, h1, h2⟩ := h
        cases h2
        obtain ⟨m, m1, m2⟩ := hA.v hx
        obtain ⟨m', n1, n2⟩ := hA.v hy
        have hfo : P.fieldsOf t = fs := by unfold Program.fieldsOf; rw [ht]
        have heq : (Op.equal t (ρ x) (ρ y)).run P w = .ok b w := by
          rw [m2, n2]
          show (Op.equalIn (9999 + 1) t _ _).run P w = _
          rw [run_equalIn_struct w 9999 t _ _ (by rw [hfo]; exact ht) hc.1, hfo]
          exact eqFs_ok m1 n1 9998 hb
        obtain ⟨v, g1, g2⟩ := eqC_ok (σ := σ) (D := D) h1 (t := t) (x := ρ x) (y := ρ y) (fun op' ho => by rw [m2, n2]; rcases ho with rfl | rfl <;> rfl) heq
        have hgd : (eqGuard op t x y (ρ x) (ρ y)).run P w = .ok () w := by
          rw [m2, n2]
          unfold eqGuard
          cases op <;> first | rfl | simp [hc.2]
        refine ⟨.value v, v, _, _, did_no hs ?_ (.inl rfl) g1⟩
        unfold execOp; rw [ho]
        simp [hgd, g2]
      · cases h
    · cases h
  · cases h
def aBin2 (P : Program) (A : Operand → Option S) (op : BinOp) (t : TypeId) (x y : Operand) : Option (S × Ef) := match aBin P A op t x y with
  | some r => some r
  | none => aBinS P A op t x y
theorem bin2_ok {op : BinOp} {t ty : TypeId} {x y : Operand} {s : S} {e : Ef} (ho : o.op = .binOp op t x y ty) (hA : Eqv σ D A ρ) (h : aBin2 P A op t x y = some (s, e)) (hs : Sat σ D (rst (tb e.F) H) w) : AOK P ρ o σ D w H n s e := by
  unfold aBin2 at h
  split at h
  · rename_i r hr
    cases h
    exact bin_ok ho hA hr hs
  · exact binS_ok ho hA h hs
end
end Go.Proofs.YtcmlgmiomcegeaaGreat.Ev
namespace Go.Proofs.YtcmlgmiomcegeaaGreat.Ev
open Go Go.RowKit Go.Maps
set_option linter.unusedVariables false
set_option linter.unusedSimpArgs false
set_option linter.unusedSectionVars false
variable [Env]

section
variable {P : Program} {ρ : Operand → Value} {o : Oper} {σ : Nat → Blk} {D : Nat → Prop} {w : World} {H : Heap} {n : Nat} {A : Operand → Option S}
theorem RM.length {σ : Nat → Blk} {D : Nat → Prop} : ∀ {es : List (C × V × Nat)} {m : List MapEntry}, RM σ D es m → m.length = es.length
  | [], [], _ => rfl
  | _ :: _, _ :: _, h => by rw [List.length_cons, List.length_cons, h.2.length]
theorem rvl_length {σ : Nat → Blk} {D : Nat → Prop} : ∀ {l : List V} {m : List Value}, RVL σ D l m → m.length = l.length
  | [], [], _ => rfl
  | _ :: _, _ :: _, h => by rw [List.length_cons, List.length_cons, rvl_length h.2]
theorem RM.get {σ : Nat → Blk} {D : Nat → Prop} : ∀ {es : List (C × V × Nat)} {m : List MapEntry} {j : Nat} {e : C × V × Nat}, RM σ D es m → es[j]? = some e → ∃ q, m[j]? = some q ∧ RC σ D e.1 q.key ∧ RV σ D e.2.1 q.val ∧ q.born = e.2.2
  | [], [], _, _, _, h => by simp at h
  | a :: l, b :: m, 0, e, h, he => by
    simp only [List.getElem?_cons_zero, Option.some.injEq] at he
    subst he
    exact ⟨b, rfl, h.1⟩
  | a :: l, b :: m, j + 1, e, h, he => by
    obtain ⟨q, h1, h2⟩ := h.2.get (by simpa using he)
    exact ⟨q, by simpa using h1, h2⟩
theorem RM.erase {σ : Nat → Blk} {D : Nat → Prop} : ∀ {es : List (C × V × Nat)} {m : List MapEntry} (j : Nat), RM σ D es m → RM σ D (es.eraseIdx j) (m.eraseIdx j)
  | [], [], _, _ => trivial
  | _ :: _, _ :: _, 0, h => h.2
  | _ :: _, _ :: _, j + 1, h => ⟨h.1, RM.erase j h.2⟩
def aLenM (P : Program) (H : Heap) (A : Operand → Option S) (t : TypeId) (x : Operand) : Option (S × Ef) := match S.c? (A x), P.underlying t with
  | some (.map i), some (.map _ _) => match H i with
    | some ob => match ob.k with
      | .mp es _ => some (.v (.c (.int .i64 es.length)), .no (one i))
      | _ => none
    | none => none
  | some (.ch i), some (.chan _ _) => match H i with
    | some ob => match ob.k with
      | .ch _ buf => some (.v (.c (.int .i64 buf.length)), .no (one i))
      | _ => none
    | none => none
  | _, _ => none
theorem chan_of {F i : Nat} {ob : AO} {room : Nat} {buf : List V} (hs : Sat σ D (rst (tb F) H) w) (hF : tb F i = true) (ho : H i = some ob) (hk : ob.k = .ch room buf) : D i ∧ ObjChan σ D i room buf w := by
  obtain ⟨h1, h2⟩ := obj_of hs hF ho
  unfold ObjAt at h2
  rw [hk] at h2
  exact ⟨h1, h2.2⟩
theorem iter_of {F i : Nat} {ob : AO} {m since last : Nat} {seen : List Nat} (hs : Sat σ D (rst (tb F) H) w) (hF : tb F i = true) (ho : H i = some ob) (hk : ob.k = .it m since seen last) : D i ∧ ObjIter σ D i m since seen last w := by
  obtain ⟨h1, h2⟩ := obj_of hs hF ho
  unfold ObjAt at h2
  rw [hk] at h2
  exact ⟨h1, h2.2⟩
theorem lenM_ok {t : TypeId} {x : Operand} {s : S} {e : Ef} (ho : o.op = .call { callee := .builtin .len, args := #[x], argTypes := #[t] }) (hA : Eqv σ D A ρ) (h : aLenM P H A t x = some (s, e)) (hs : Sat σ D (rst (tb e.F) H) w) : AOK P ρ o σ D w H n s e := by
  unfold aLenM at h
  split at h
  · rename_i i kt et hx ht
    split at h
    · rename_i ob hob
      split at h
      · rename_i es cl hk
        cases h
        obtain ⟨_, m, h1, h2⟩ := map_of hs tb_one hob hk
        have hp := (hA.c hx).2
        have hl := h2.length
        rw [Array.length_toList] at hl
        exact ⟨_, .int .i64 es.length, _, _, did_no hs (run_bi ho (fun _ => rfl) (by simp [Builtin.len_, run_underlying ht, hp, goInt, getObj, Sem.run, h1, hl])) (.inl rfl) rfl⟩
      · cases h
    · cases h
  · rename_i i d et hx ht
    split at h
    · rename_i ob hob
      split at h
      · rename_i room buf hk
        cases h
        obtain ⟨_, vs, s', r, h1, h2⟩ := chan_of hs tb_one hob hk
        have hp := (hA.c hx).2
        have hl := rvl_length h2
        exact ⟨_, .int .i64 buf.length, _, _, did_no hs (run_bi ho (fun _ => rfl) (by simp [Builtin.len_, run_underlying ht, hp, goInt, getObj, Sem.run, h1, hl])) (.inl rfl) rfl⟩
      · cases h
    · cases h
  · cases h
/-- An entry goes. -/
def aDel (P : Program) (H : Heap) (A : Operand → Option S) (t : TypeId) (x y : Operand) : Option (S × Ef) := match P.underlying t, S.c? (A x), S.c? (A y) with
  | some (.map kt _), some (.map i), some k => match P.underlying kt, H i with
    | some d, some ob => match ob.k with
      | .mp es cl => if keyD d = true then (match findK d k es 0 with
        | some (some (j, _)) => some (.tup [], .set (one i) i ⟨ob.ty, [], ob.opn, .mp (es.eraseIdx j) cl⟩)
        | some none => some (.tup [], .set (one i) i ⟨ob.ty, [], ob.opn, .mp es cl⟩)
        | none => none) else none
      | _ => none
    | _, _ => none
  | _, _, _ => none
theorem del_ok {t t2 : TypeId} {x y : Operand} {s : S} {e : Ef} (ho : o.op = .call { callee := .builtin .delete, args := #[x, y], argTypes := #[t, t2] }) (hA : Eqv σ D A ρ) (h : aDel P H A t x y = some (s, e)) (hs : Sat σ D (rst (tb e.F) H) w) : AOK P ρ o σ D w H n s e := by
  unfold aDel at h
  split at h
  · rename_i kt et i k ht hx hy
    split at h
    · rename_i d ob hd hob
      split at h
      · rename_i es cl hes
        split at h
        · rename_i hkd
          have fin : ∀ (es' : List (C × V × Nat)) (m' : Array MapEntry), Sat σ D (rst (tb (one i)) H) w → (σ i).b < w.heap.size → RM σ D es' m'.toList → (Builtin.delete_ #[t, t2] o.type #[ρ x, ρ y]).run P w = .ok (.tuple #[]) { w with heap := w.heap.setIfInBounds (σ i).b (.map m' cl) } → AOK P ρ o σ D w H n (.tup []) (.set (one i) i ⟨ob.ty, [], ob.opn, .mp es' cl⟩) := fun es' m' hs hlt hm hr => by
            refine ⟨.value (.tuple #[]), .tuple #[], _, _, did_set (w' := { w with heap := w.heap.setIfInBounds (σ i).b (.map m' cl) }) hs tb_one (by rw [hob]; rfl) ?_ (.inl rfl) ⟨[], trivial, rfl⟩ heap_set_tch ?_⟩
            · exact run_bi ho (fun _ => rfl) (by simpa using hr)
            · exact ⟨rfl, m', by show (w.heap.setIfInBounds (σ i).b _)[(σ i).b]? = _; simp [hlt], hm⟩
          have hck := fun b v w => run_checkKey (P := P) hd hkd b v w
          split at h
          · rename_i j vb hf
            cases h
            obtain ⟨hDi, m, hm1, hm2⟩ := map_of hs tb_one hob hes
            have hp := (hA.c hx).2
            have hlt : (σ i).b < w.heap.size := (Array.getElem?_eq_some_iff.1 hm1).1
            obtain ⟨v, b⟩ := vb
            obtain ⟨u, g1, g2, g3, e', q, g4, g5, g6, g7, g8, g9⟩ := findK_ok (hA.c hy) hf hm2
            have hfk := fun w => run_findKey (P := P) hd g1 w
            rw [Nat.sub_zero] at g5
            have hjl : j < m.size := by rw [← Array.length_toList]; exact (List.getElem?_eq_some_iff.1 g5).1
            refine fin (es.eraseIdx j) (m.eraseIdxIfInBounds j) hs hlt ?_ ?_
            · have : (m.eraseIdxIfInBounds j).toList = m.toList.eraseIdx j := by
                unfold Array.eraseIdxIfInBounds
                rw [dif_pos hjl]
                simp
              rw [this]
              exact hm2.erase j
            · simp [Builtin.delete_, run_underlying ht, hp, getObj, setObj, Sem.run, hm1, hck, hfk]
          · rename_i hf
            cases h
            obtain ⟨hDi, m, hm1, hm2⟩ := map_of hs tb_one hob hes
            have hp := (hA.c hx).2
            have hlt : (σ i).b < w.heap.size := (Array.getElem?_eq_some_iff.1 hm1).1
            have g1 := findK_ok (hA.c hy) hf hm2
            simp only at g1
            have hfk := fun w => run_findKey (P := P) hd g1 w
            refine fin es m hs hlt hm2 ?_
            simp [Builtin.delete_, run_underlying ht, hp, getObj, setObj, Sem.run, hm1, hck, hfk]
          · cases h
        · cases h
      · cases h
    · cases h
  · cases h
/-- What a look at an entry that is to be written yields: what stands there, and its stamp. -/
def aMe (P : Program) (H : Heap) (A : Operand → Option S) (t : TypeId) (x y : Operand) : Option (S × Ef) := match P.underlying t, S.c? (A x), S.c? (A y) with
  | some (.map kt et), some (.map i), some k => match P.underlying kt, H i with
    | some d, some ob => match ob.k with
      | .mp es cl => if keyD d = true then (match findK d k es 0 with
        | some (some (j, v, b)) => some (.tup [v, .c (.int .i64 (b : Nat))], .set (one i) i ⟨ob.ty, [], ob.opn, .mp (es.set j (k, v, b)) cl⟩)
        | some none => match (P.info? et).bind (·.zero) with
          | some z => (absV z).map fun v => (.tup [v, .c (.int .i64 (cl : Nat))], .set (one i) i ⟨ob.ty, [], ob.opn, .mp (es ++ [(k, v, cl)]) (cl + 1)⟩)
          | none => none
        | none => none) else none
      | _ => none
    | _, _ => none
  | _, _, _ => none
theorem me_ok {t : TypeId} {x y : Operand} {s : S} {e : Ef} (ho : o.op = .mapEntry t x y) (hA : Eqv σ D A ρ) (h : aMe P H A t x y = some (s, e)) (hs : Sat σ D (rst (tb e.F) H) w) : AOK P ρ o σ D w H n s e := by
  unfold aMe at h
  split at h
  · rename_i kt et i k ht hx hy
    split at h
    · rename_i d ob hd hob
      split at h
      · rename_i es cl hes
        split at h
        · rename_i hkd
          have fin : ∀ (es' : List (C × V × Nat)) (m' : Array MapEntry) (cl' : Nat) (v : V) (u : Value) (b : Nat), Sat σ D (rst (tb (one i)) H) w → (σ i).b < w.heap.size → RM σ D es' m'.toList → RV σ D v u → (Instr.mapEntry t (ρ x) (ρ y)).run P w = .ok (.tuple #[u, .int .i64 (b : Nat)]) { w with heap := w.heap.setIfInBounds (σ i).b (.map m' cl') } → AOK P ρ o σ D w H n (.tup [v, .c (.int .i64 (b : Nat))]) (.set (one i) i ⟨ob.ty, [], ob.opn, .mp es' cl'⟩) := fun es' m' cl' v u b hs hlt hm hv hr => by
            refine ⟨.value _, .tuple #[u, .int .i64 (b : Nat)], _, _, did_set (w' := { w with heap := w.heap.setIfInBounds (σ i).b (.map m' cl') }) hs tb_one (by rw [hob]; rfl) ?_ (.inl rfl) ⟨[u, .int .i64 (b : Nat)], ⟨hv, rfl, trivial⟩, rfl⟩ heap_set_tch ?_⟩
            · unfold execOp; rw [ho]; simp [hr]
            · exact ⟨rfl, m', by show (w.heap.setIfInBounds (σ i).b _)[(σ i).b]? = _; simp [hlt], hm⟩
          have hck := fun b v w => run_checkKey (P := P) hd hkd b v w
          split at h
          · rename_i j v b hf
            cases h
            obtain ⟨hDi, m, hm1, hm2⟩ := map_of hs tb_one hob hes
            have hp := (hA.c hx).2
            have hkk := hA.c hy
            have hlt : (σ i).b < w.heap.size := (Array.getElem?_eq_some_iff.1 hm1).1
            obtain ⟨u, g1, g2, g3, e', q, g4, g5, g6, g7, g8, g9⟩ := findK_ok hkk hf hm2
            rw [Nat.sub_zero] at g4 g5
            have hfk := fun w => run_findKey (P := P) hd g1 w
            have hst := fun w => run_stays (P := P) g7 hkk g6 w
            have hqa : m[j]? = some q := by rw [← Array.getElem?_toList]; exact g5
            refine fin (es.set j (k, v, b)) (m.modify j fun e => { e with key := ρ y }) cl v u b hs hlt ?_ g2 ?_
            · have hmod : (m.modify j fun e => { e with key := ρ y }).toList = m.toList.set j { q with key := ρ y } := by
                apply List.ext_getElem?
                intro p
                rw [Array.getElem?_toList, Array.getElem?_modify, List.getElem?_set, Array.getElem?_toList]
                by_cases e : j = p
                · subst e
                  obtain ⟨hlt2, hq2⟩ := Array.getElem?_eq_some_iff.1 hqa
                  simp [hlt2, hq2]
                · simp [e]
              rw [hmod]
              exact hm2.set hkk (by rw [g9]; exact g2) g8
            · simp [Instr.mapEntry, run_underlying ht, hp, getObj, setObj, Sem.run, hm1, hck, hfk, hqa, hst, goInt, g8]
          · rename_i hf
            split at h
            · rename_i z hz
              rw [Option.map_eq_some_iff] at h
              obtain ⟨v, h1, h2⟩ := h
              cases h2
              obtain ⟨hDi, m, hm1, hm2⟩ := map_of hs tb_one hob hes
              have hp := (hA.c hx).2
              have hkk := hA.c hy
              have hlt : (σ i).b < w.heap.size := (Array.getElem?_eq_some_iff.1 hm1).1
              have g1 := findK_ok hkk hf hm2
              simp only at g1
              have hfk := fun w => run_findKey (P := P) hd g1 w
              have hzv : ∀ w, (zeroValue et).run P w = .ok z w := fun w => by
                cases hi : P.info? et with
                | none => rw [hi] at hz; cases hz
                | some inf =>
                  rw [hi] at hz
                  have hz' : inf.zero = some z := hz
                  simp [zeroValue, typeInfo, hi, hz']
              refine fin (es ++ [(k, v, cl)]) (m.push { key := ρ y, val := z, born := cl }) (cl + 1) v z cl hs hlt ?_ (absV_ok h1) ?_
              · rw [Array.toList_push]; exact hm2.push hkk (absV_ok h1) rfl
              · simp [Instr.mapEntry, run_underlying ht, hp, getObj, setObj, Sem.run, hm1, hck, hfk, hzv, goInt]
            · cases h
          · cases h
        · cases h
      · cases h
    · cases h
  · cases h
/-- Where the entry of a stamp stands. -/
def bornAt (b : Int) : List (C × V × Nat) → Nat → Option (Nat × C)
  | [], _ => none
  | e :: es, j => if (e.2.2 : Int) == b then some (j, e.1) else bornAt b es (j + 1)
theorem bornAt_ok {b : Int} : ∀ {es : List (C × V × Nat)} {m : List MapEntry} {i j : Nat} {k : C}, bornAt b es i = some (j, k) → RM σ D es m → i ≤ j ∧ m.findIdx? (fun e => (e.born : Int) == b) = some (j - i) ∧ ∃ v bb q, es[j - i]? = some (k, v, bb) ∧ m[j - i]? = some q ∧ RC σ D k q.key ∧ q.born = bb
  | [], _, _, _, _, h, _ => by cases h
  | e :: es, q :: m, i, j, k, h, hm => by
    unfold bornAt at h
    by_cases c : ((e.2.2 : Int) == b) = true
    · rw [if_pos c] at h
      simp only [Option.some.injEq, Prod.mk.injEq] at h
      obtain ⟨rfl, rfl⟩ := h
      refine ⟨Nat.le_refl _, ?_, e.2.1, e.2.2, q, by simp, by simp, hm.1.1, hm.1.2.2⟩
      rw [List.findIdx?_cons, hm.1.2.2, c]; simp
    · rw [if_neg c] at h
      obtain ⟨g1, g2, v, bb, q', g3, g4, g5⟩ := bornAt_ok h hm.2
      obtain ⟨p, hp⟩ : ∃ p, j - i = p + 1 := ⟨j - i - 1, by omega⟩
      have hp2 : j - (i + 1) = p := by omega
      rw [hp2] at g2 g3 g4
      refine ⟨by omega, ?_, v, bb, q', ?_, ?_, g5⟩
      · rw [List.findIdx?_cons, hm.1.2.2, if_neg c, g2, hp]; rfl
      · rw [hp, List.getElem?_cons_succ]; exact g3
      · rw [hp, List.getElem?_cons_succ]; exact g4
def aEs (H : Heap) (A : Operand → Option S) (x y z : Operand) : Option (S × Ef) := match S.c? (A x), S.c? (A y), S.v? (A z) with
  | some (.map i), some (.int _ b), some v => match H i with
    | some ob => match ob.k with
      | .mp es cl => match bornAt b es 0 with
        | some (j, k) => match es[j]? with
          | some e => some (.un, .set (one i) i ⟨ob.ty, [], ob.opn, .mp (es.set j (k, v, e.2.2)) cl⟩)
          | none => none
        | none => none
      | _ => none
    | none => none
  | _, _, _ => none
theorem es_ok {t : TypeId} {x y z : Operand} {s : S} {e : Ef} (ho : o.op = .entryStore t x y z) (hA : Eqv σ D A ρ) (h : aEs H A x y z = some (s, e)) (hs : Sat σ D (rst (tb e.F) H) w) : AOK P ρ o σ D w H n s e := by
  unfold aEs at h
  split at h
  · rename_i i kd b v hx hy hz
    split at h
    · rename_i ob hob
      split at h
      · rename_i es cl hes
        split at h
        · rename_i j k hb
          split at h
          · rename_i e0 he0
            cases h
            obtain ⟨hDi, m, hm1, hm2⟩ := map_of hs tb_one hob hes
            have hp := (hA.c hx).2
            have hpb : ρ y = .int kd b := hA.c hy
            have hvv := hA.v hz
            have hlt : (σ i).b < w.heap.size := (Array.getElem?_eq_some_iff.1 hm1).1
            obtain ⟨_, g2, v0, bb, q, g3, g4, g5, g6⟩ := bornAt_ok hb hm2
            rw [Nat.sub_zero] at g2 g3 g4
            rw [g3] at he0
            cases he0
            have hqa : m[j]? = some q := by rw [← Array.getElem?_toList]; exact g4
            have hfi : m.findIdx? (fun e => (e.born : Int) == b) = some j := by rw [← List.findIdx?_toArray] at g2; simpa using g2
            refine ⟨.skip, undef, _, _, did_set (w' := { w with heap := w.heap.setIfInBounds (σ i).b (.map (m.modify j fun e => { e with val := ρ z }) cl) }) hs tb_one (by rw [hob]; rfl) ?_ (.inr ⟨rfl, rfl⟩) rfl heap_set_tch ?_⟩
            · unfold execOp; rw [ho]
              simp [Instr.entryStore, hp, hpb, getObj, setObj, Sem.run, hm1, asInt, asIntOf, hfi]
            · refine ⟨rfl, _, by show (w.heap.setIfInBounds (σ i).b _)[(σ i).b]? = _; simp [hlt]; rfl, ?_⟩
              have hmod : (m.modify j fun e => { e with val := ρ z }).toList = m.toList.set j { q with val := ρ z } := by
                apply List.ext_getElem?
                intro p
                rw [Array.getElem?_toList, Array.getElem?_modify, List.getElem?_set, Array.getElem?_toList]
                by_cases e : j = p
                · subst e
                  obtain ⟨hlt2, hq2⟩ := Array.getElem?_eq_some_iff.1 hqa
                  simp [hlt2, hq2]
                · simp [e]
              rw [hmod]
              exact hm2.set g5 hvv g6
          · cases h
        · cases h
      · cases h
    · cases h
  · cases h
/-! ### A channel is made -/
def aMc (P : Program) (A : Operand → Option S) (n : Nat) (t : TypeId) (x : Operand) : Option (S × Ef) := match natOf (A x), P.underlying t with
  | some k, some (.chan _ el) => match P.info? el with
    | some inf => if k ≤ 1000000 ∧ inf.bytes ≤ 1000000 then some (.v (.c (.ch n)), .new 0 ⟨0, [], false, .ch k []⟩) else none
    | none => none
  | _, _ => none
theorem mc_ok {t : TypeId} {x : Operand} {s : S} {e : Ef} (ho : o.op = .makeChan t x) (hA : Eqv σ D A ρ) (hD : n < e.n' n → ¬ D n) (h : aMc P A n t x = some (s, e)) (hs : Sat σ D (rst (tb e.F) H) w) : AOK P ρ o σ D w H n s e := by
  unfold aMc at h
  split at h
  · rename_i k d el hk ht
    split at h
    · rename_i inf hi
      split at h
      · rename_i hb
        cases h
        obtain ⟨q, hq⟩ := natOf_ok hA hk
        have hDn := hD (Nat.lt_succ_self n)
        refine ⟨_, .chan (some w.heap.size), _, _, did_new (k := ⟨w.heap.size, 0⟩) (w' := w.alloc (.chan k #[] false 0 0 false)) hs hDn ?_ (.inl rfl) ⟨.inr ⟨Nat.le_refl _, Nat.lt_succ_self _⟩, by rw [at_same]⟩ (Tch.alloc _ _) (Nat.le_refl _) ?_⟩
        · unfold execOp; rw [ho]
          have hm : inf.bytes * k ≤ 1000000000000 := Nat.le_trans (Nat.mul_le_mul hb.2 hb.1) (by decide)
          have hm2 : (inf.bytes : Int) * k ≤ 281474976710544 := by
            have h4 : ((inf.bytes * k : Nat) : Int) ≤ ((1000000000000 : Nat) : Int) := Int.ofNat_le.2 hm
            rw [Int.natCast_mul] at h4
            omega
          have n1 : ¬ ((k : Int) < 0) := by omega
          have n2 : ¬ (9223372036854775807 < (k : Int)) := by omega
          have n3 : ¬ (281474976710544 < (inf.bytes : Int) * k) := by omega
          simp only [hq]
          have h2 : (Instr.makeChan t (.int q k)).run P w = .ok (.chan (some w.heap.size)) (w.alloc (.chan k #[] false 0 0 false)) := by
            simp [Instr.makeChan, asInt, asIntOf, run_underlying ht, typeInfo, hi, n1, n2, n3, IntKind.max, IntKind.bits, IntKind.signed]
          rw [Sem.run_bind]
          rw [h2]; rfl
        · exact ⟨rfl, [], 0, 0, by rw [at_same]; exact heap_alloc_new _ _, trivial⟩
      · cases h
    · cases h
  · cases h
/-! ### Slices once more: with three bounds; to what is known behind the length -/
theorem bounds3_ok {lo : Option Operand} {x3 y3 : Operand} {len cap l hh m : Nat} (hA : Eqv σ D A ρ) (hl : lowOf A lo = some l) (hh1 : natOf (A x3) = some hh) (hm : natOf (A y3) = some m) (h1 : l ≤ hh) (h2 : hh ≤ m) (h3 : m ≤ cap) :
    (Instr.sliceBounds true len cap (lo.map ρ) (some (ρ x3)) (some (ρ y3))).run P w = .ok (l, hh, m) w := by
  obtain ⟨q2, e2⟩ := natOf_ok hA hh1
  obtain ⟨q3, e3⟩ := natOf_ok hA hm
  cases lo with
  | none =>
    simp only [lowOf, Option.some.injEq] at hl; subst hl
    simp [Instr.sliceBounds, Instr.sliceBound, e2, e3, asIntOf, h2, h3]
  | some x =>
    obtain ⟨q, e⟩ := natOf_ok hA hl
    simp [Instr.sliceBounds, Instr.sliceBound, e, e2, e3, asIntOf, h1, h2, h3]
def capC (len : Nat) : Cp → Nat | .ex c => c | .op _ => len
def aSl2 (P : Program) (H : Heap) (A : Operand → Option S) (t : TypeId) (x : Operand) (lo hi mx : Option Operand) : Option (S × Ef) := match S.c? (A x), P.underlying t with
  | some (.sl i off len cp), some (.slice el) => match mx, hi with
    | some y3, some x3 => match lowOf A lo, natOf (A x3), natOf (A y3), szOf P el with
      | some l, some h, some m, some sz => if l ≤ h ∧ h ≤ m ∧ m ≤ capC len cp then some (.v (.c (if m = l then .se else .sl i (off + l * sz) (h - l) (.ex (m - l)))), .no 0) else none
      | _, _, _, _ => none
    | none, _ => match cp, lowOf A lo, highOf A len hi, szOf P el, H i with
      | .op s1, some l, some h, some sz, some ob => if l < h ∧ off + h * sz ≤ ob.cs.length ∧ s1 = sz ∧ 0 < sz then some (.v (.c (.sl i (off + l * sz) (h - l) (.op sz))), .no (one i)) else none
      | _, _, _, _, _ => none
    | _, _ => none
  | _, _ => none
theorem sl2_ok {t : TypeId} {x : Operand} {lo hi mx : Option Operand} {s : S} {e : Ef} (ho : o.op = .slice t x lo hi mx) (hA : Eqv σ D A ρ) (h : aSl2 P H A t x lo hi mx = some (s, e)) (hs : Sat σ D (rst (tb e.F) H) w) : AOK P ρ o σ D w H n s e := by
  unfold aSl2 at h
  split at h
  · rename_i i off len cp el hx ht
    split at h
    · rename_i y3 x3
      split at h
      · rename_i l hh m sz hl hh1 hm hsz
        split at h
        · rename_i hb
          cases h
          obtain ⟨hb1, hb2, hb3⟩ := hb
          obtain ⟨hD, c, hp, hcc⟩ : D i ∧ ∃ c, ρ x = .slice (some (adr (σ i) off)) len c ∧ capC len cp ≤ c := by
            have h1 := hA.c hx
            cases cp with
            | ex c => exact ⟨h1.1, c, h1.2, Nat.le_refl _⟩
            | op s1 => obtain ⟨a1, c, a2, a3, _⟩ := h1; exact ⟨a1, c, a2, a3⟩
          have hbd := bounds3_ok (P := P) (w := w) (len := len) (cap := c) hA hl hh1 hm hb1 hb2 (Nat.le_trans hb3 hcc)
          by_cases hml : m = l
          · rw [if_pos hml]
            refine ⟨.value _, .slice (some (adr (σ i) off)) 0 (m - l), _, _, did_no hs ?_ (.inl rfl) ⟨_, _, rfl⟩⟩
            unfold execOp; rw [ho]
            simp [hp, Instr.sliceAt, Instr.slice, run_underlying ht, hbd, run_sz hsz, hml]
            omega
          · rw [if_neg hml]
            refine ⟨.value _, .slice (some (adr (σ i) (off + l * sz))) (hh - l) (m - l), _, _, did_no hs ?_ (.inl rfl) ⟨hD, rfl⟩⟩
            unfold execOp; rw [ho]
            simp [hp, Instr.sliceAt, Instr.slice, run_underlying ht, hbd, run_sz hsz, hml, adr_add]
        · cases h
      · cases h
    · rename_i hi
      split at h
      · rename_i s1 l hh sz ob hl hh1 hsz hob
        split at h
        · rename_i hb
          cases h
          obtain ⟨hb1, hb2, rfl, hb4⟩ := hb
          obtain ⟨hD, c, hp, hc1, hc2, hc3⟩ := hA.c hx
          obtain ⟨_, hO⟩ := obj_of hs tb_one hob
          have hle : off + hh * s1 ≤ (σ i).t := by
            rcases hO.either with h0 | h0
            · rw [h0] at hb2
              have : hh * s1 = 0 := by simp at hb2; omega
              rcases Nat.mul_eq_zero.1 this with h1 | h1 <;> omega
            · obtain ⟨cur, fr, _, _, _, h3, _⟩ := h0
              exact Nat.le_trans hb2 h3
          have hhc : hh ≤ c := by
            have : hh * s1 ≤ c * s1 := by omega
            exact Nat.le_of_mul_le_mul_right this hb4
          have hbd := bounds_ok (P := P) (w := w) (b := true) hA hl hh1 (Nat.le_of_lt hb1) hhc
          have hne : ¬ c = l := by omega
          refine ⟨.value _, .slice (some (adr (σ i) (off + l * s1))) (hh - l) (c - l), _, _, did_no hs ?_ (.inl rfl) ?_⟩
          · unfold execOp; rw [ho]
            simp [hp, Instr.sliceAt, Instr.slice, run_underlying ht, hbd, run_sz hsz, hne, adr_add]
          · refine ⟨hD, c - l, rfl, by omega, by omega, ?_⟩
            have := Nat.mul_le_mul_right s1 (show l ≤ c by omega)
            rw [← hc3, Nat.sub_mul]
            omega
        · cases h
      · cases h
    · cases h
  · cases h
/-! ### Going over a map -/
def aRange (P : Program) (H : Heap) (A : Operand → Option S) (n : Nat) (t : TypeId) (x : Operand) : Option (S × Ef) := match S.c? (A x), P.underlying t with
  | some (.map i), some (.map _ _) => match H i with
    | some ob => match ob.k with
      | .mp es cl => some (.v (.c (.ptr n 0)), .new (one i) ⟨0, [], false, .it i cl [] cl⟩)
      | _ => none
    | none => none
  | _, _ => none
theorem range_ok {t : TypeId} {x : Operand} {s : S} {e : Ef} (ho : o.op = .range t x) (hA : Eqv σ D A ρ) (hD : n < e.n' n → ¬ D n) (h : aRange P H A n t x = some (s, e)) (hs : Sat σ D (rst (tb e.F) H) w) : AOK P ρ o σ D w H n s e := by
  unfold aRange at h
  split at h
  · rename_i i kt et hx ht
    split at h
    · rename_i ob hob
      split at h
      · rename_i es cl hes
        cases h
        obtain ⟨hDi, m, hm1, hm2⟩ := map_of hs tb_one hob hes
        have hp := (hA.c hx).2
        have hDn := hD (Nat.lt_succ_self n)
        have hin : i ≠ n := fun e => hDn (e ▸ hDi)
        refine ⟨_, _, _, _, did_new (k := ⟨w.heap.size, 0⟩) (w' := w.alloc (.mapIter (some (σ i).b) cl #[] cl)) hs hDn (v := .pointer (some ⟨w.heap.size, 0, none⟩)) ?_ (.inl rfl) ⟨.inr ⟨Nat.le_refl _, Nat.lt_succ_self _⟩, by rw [at_same]; rfl⟩ (Tch.alloc _ _) (Nat.le_refl _) ?_⟩
        · unfold execOp; rw [ho]; simp [Instr.range, run_underlying ht, hp, getObj, newObj, Sem.run, hm1]
        · exact ⟨rfl, .inl hDi, by rw [at_same, at_other hin]; exact heap_alloc_new _ _⟩
      · cases h
    · cases h
  · cases h
/-- What is left to go over: nothing, or one that was there at the beginning. -/
def leftOf (seen : List Nat) (es : List (C × V × Nat)) : List (C × V × Nat) := es.filter fun e => !seen.contains e.2.2
def aNext (H : Heap) (A : Operand → Option S) (x : Operand) (str : Bool) : Option (S × Ef) := match str, S.c? (A x) with
  | false, some (.ptr i 0) => match H i with
    | some ob => match ob.k with
      | .it m since seen last => match H m with
        | some mo => match mo.k with
          | .mp es cl => if (!seen.isEmpty && !es.isEmpty && es.all (fun e => decide (last ≤ e.2.2))) = true then none else
            (match leftOf seen es with
            | [] => some (.tup [.c (.bool false)], .no (one i ||| one m))
            | [e] => if e.2.2 < since then some (.tup [.c (.bool true), .c e.1, e.2.1], .set (one i ||| one m) i ⟨ob.ty, [], ob.opn, .it m since (seen ++ [e.2.2]) cl⟩) else none
            | _ => none)
          | _ => none
        | none => none
      | _ => none
    | none => none
  | _, _ => none
theorem RM.filter {σ : Nat → Blk} {D : Nat → Prop} (p : Nat → Bool) : ∀ {es : List (C × V × Nat)} {m : List MapEntry}, RM σ D es m → RM σ D (es.filter fun e => p e.2.2) (m.filter fun q => p q.born)
  | [], [], _ => trivial
  | a :: es, b :: m, h => by
    have hb := h.1.2.2
    have ih := RM.filter p h.2
    cases c : p a.2.2 with
    | true =>
      have e1 : (a :: es).filter (fun e => p e.2.2) = a :: es.filter (fun e => p e.2.2) := by rw [List.filter_cons]; simp [c]
      have e2 : (b :: m).filter (fun q => p q.born) = b :: m.filter (fun q => p q.born) := by rw [List.filter_cons]; simp [hb, c]
      rw [e1, e2]
      exact ⟨h.1, ih⟩
    | false =>
      have e1 : (a :: es).filter (fun e => p e.2.2) = es.filter (fun e => p e.2.2) := by rw [List.filter_cons]; simp [c]
      have e2 : (b :: m).filter (fun q => p q.born) = m.filter (fun q => p q.born) := by rw [List.filter_cons]; simp [hb, c]
      rw [e1, e2]
      exact ih
theorem RM.all {σ : Nat → Blk} {D : Nat → Prop} (p : Nat → Bool) : ∀ {es : List (C × V × Nat)} {m : List MapEntry}, RM σ D es m → m.all (fun q => p q.born) = es.all (fun e => p e.2.2)
  | [], [], _ => rfl
  | a :: es, b :: m, h => by rw [List.all_cons, List.all_cons, RM.all p h.2, h.1.2.2]
theorem RM.nil {σ : Nat → Blk} {D : Nat → Prop} : ∀ {es : List (C × V × Nat)} {m : List MapEntry}, RM σ D es m → m.isEmpty = es.isEmpty
  | [], [], _ => rfl
  | _ :: _, _ :: _, _ => rfl
theorem tb_or_l {F G i : Nat} (h : tb F i = true) : tb (F ||| G) i = true := by unfold tb at h ⊢; rw [Nat.testBit_or, h]; rfl
theorem tb_or_r {F G i : Nat} (h : tb G i = true) : tb (F ||| G) i = true := by unfold tb at h ⊢; rw [Nat.testBit_or, h, Bool.or_true]
theorem run_next0 {P : Program} {w : World} {r mb since last cl : Nat} {seen : Array Nat} {ma : Array MapEntry} (hi1 : w.heap[r]? = some (.mapIter (some mb) since seen last)) (hm1 : w.heap[mb]? = some (.map ma cl))
    (e1 : (!seen.isEmpty && !ma.isEmpty && ma.all (fun q => decide (q.born ≥ last))) = false) (e2 : ma.filter (fun q => !seen.contains q.born) = #[]) (t : TypeId) :
    (Instr.next (.pointer (some ⟨r, 0, none⟩)) false t).run P w = .ok (.tuple #[.bool false]) w := by
  unfold Instr.next
  simp only [Sem.run_bind, getObj, Sem.run, hi1, hm1, Result.andThen_ok, e1, e2]
  rw [if_neg Bool.false_ne_true]
  simp [choose, Sem.run, Question.forced]
theorem run_next1 {P : Program} {w : World} {r mb since last cl : Nat} {seen : Array Nat} {ma : Array MapEntry} {q : MapEntry} (hi1 : w.heap[r]? = some (.mapIter (some mb) since seen last)) (hm1 : w.heap[mb]? = some (.map ma cl))
    (e1 : (!seen.isEmpty && !ma.isEmpty && ma.all (fun q => decide (q.born ≥ last))) = false) (e2 : ma.filter (fun q => !seen.contains q.born) = #[q]) (hb : q.born < since) (t : TypeId) :
    (Instr.next (.pointer (some ⟨r, 0, none⟩)) false t).run P w = .ok (.tuple #[.bool true, q.key, q.val]) { w with heap := w.heap.setIfInBounds r (.mapIter (some mb) since (seen.push q.born) cl) } := by
  have h1 : #[q].filter (fun q => decide (q.born < since)) = #[q] := by simp [hb]
  have h2 : #[q].filter (fun q => decide (q.born ≥ since)) = #[] := by simp; omega
  unfold Instr.next
  simp only [Sem.run_bind, getObj, Sem.run, hi1, hm1, Result.andThen_ok, e1, e2, h1, h2]
  rw [if_neg Bool.false_ne_true]
  simp [choose, setObj, Sem.run, Question.forced, hi1]
theorem next_ok {x : Operand} {str : Bool} {s : S} {e : Ef} (ho : o.op = .next x str) (hA : Eqv σ D A ρ) (h : aNext H A x str = some (s, e)) (hs : Sat σ D (rst (tb e.F) H) w) : AOK P ρ o σ D w H n s e := by
  unfold aNext at h
  split at h
  · rename_i i hx
    split at h
    · rename_i ob hob
      split at h
      · rename_i m since seen last hk
        split at h
        · rename_i mo hmo
          split at h
          · rename_i es cl hkm
            split at h
            · cases h
            · rename_i hcond
              have hp : ρ x = .pointer (some ⟨(σ i).b, 0, none⟩) := (hA.c hx).2
              split at h
              · rename_i hl
                cases h
                obtain ⟨hDi, hDm, hi1⟩ := iter_of hs (tb_or_l tb_one) hob hk
                obtain ⟨_, ma, hm1, hm2⟩ := map_of hs (tb_or_r tb_one) hmo hkm
                have e1 : (!seen.toArray.isEmpty && !ma.isEmpty && ma.all (fun q => decide (q.born ≥ last))) = false := by
                  have a1 : ma.isEmpty = es.isEmpty := by rw [← RM.nil hm2]; simp
                  have a2 : ma.all (fun q => decide (q.born ≥ last)) = es.all (fun e => decide (last ≤ e.2.2)) := by
                    rw [← RM.all (fun b => decide (last ≤ b)) hm2]; simp
                  rw [a1, a2, List.isEmpty_toArray]
                  cases hq : (!seen.isEmpty && !es.isEmpty && es.all (fun e => decide (last ≤ e.2.2))) with
                  | true => exact (hcond hq).elim
                  | false => rfl
                have e2 : ma.filter (fun q => !seen.toArray.contains q.born) = #[] := by
                  have := RM.filter (fun b => !seen.contains b) hm2
                  unfold leftOf at hl
                  rw [hl] at this
                  have l0 := this.length
                  apply Array.ext'
                  rw [Array.toList_filter]
                  simpa using l0
                refine ⟨_, .tuple #[.bool false], _, _, did_no hs ?_ (.inl rfl) ⟨[.bool false], ⟨rfl, trivial⟩, rfl⟩⟩
                unfold execOp; rw [ho]
                simp only [hp]
                rw [Sem.run_bind, run_next0 hi1 hm1 e1 e2]; rfl
              · rename_i e0 hl
                split at h
                · rename_i hb
                  cases h
                  obtain ⟨hDi, hDm, hi1⟩ := iter_of hs (tb_or_l tb_one) hob hk
                  obtain ⟨_, ma, hm1, hm2⟩ := map_of hs (tb_or_r tb_one) hmo hkm
                  have e1 : (!seen.toArray.isEmpty && !ma.isEmpty && ma.all (fun q => decide (q.born ≥ last))) = false := by
                    have a1 : ma.isEmpty = es.isEmpty := by rw [← RM.nil hm2]; simp
                    have a2 : ma.all (fun q => decide (q.born ≥ last)) = es.all (fun e => decide (last ≤ e.2.2)) := by
                      rw [← RM.all (fun b => decide (last ≤ b)) hm2]; simp
                    rw [a1, a2, List.isEmpty_toArray]
                    cases hq : (!seen.isEmpty && !es.isEmpty && es.all (fun e => decide (last ≤ e.2.2))) with
                    | true => exact (hcond hq).elim
                    | false => rfl
                  have hfl := RM.filter (fun b => !seen.contains b) hm2
                  unfold leftOf at hl
                  rw [hl] at hfl
                  obtain ⟨q, hq⟩ : ∃ q, ma.toList.filter (fun q => !seen.contains q.born) = [q] := List.length_eq_one_iff.1 hfl.length
                  rw [hq] at hfl
                  obtain ⟨⟨k1, k2, k3⟩, _⟩ := hfl
                  have e2 : ma.filter (fun q => !seen.toArray.contains q.born) = #[q] := by
                    apply Array.ext'
                    rw [Array.toList_filter]
                    simpa using hq
                  have hlt : (σ i).b < w.heap.size := (Array.getElem?_eq_some_iff.1 hi1).1
                  have hold : q.born < since := by rw [k3]; exact hb
                  have hnew : ¬ since ≤ q.born := by omega
                  refine ⟨_, .tuple #[.bool true, q.key, q.val], _, _, did_set (w' := { w with heap := w.heap.setIfInBounds (σ i).b (.mapIter (some (σ m).b) since (seen.toArray.push q.born) cl) }) hs (tb_or_l tb_one) (by rw [hob]; rfl) ?_ (.inl rfl) ⟨[.bool true, q.key, q.val], ⟨rfl, k1, k2, trivial⟩, rfl⟩ heap_set_tch ?_⟩
                  · unfold execOp; rw [ho]
                    simp only [hp]
                    rw [Sem.run_bind, run_next1 hi1 hm1 e1 e2 hold]; rfl
                  · refine ⟨rfl, hDm, ?_⟩
                    show (w.heap.setIfInBounds (σ i).b _)[(σ i).b]? = _
                    simp [hlt, k3]
                · cases h
              · cases h
          · cases h
        · cases h
      · cases h
    · cases h
  · cases h
/-- The entry that it stands at. -/
def aEntry (H : Heap) (A : Operand → Option S) (x : Operand) : Option (S × Ef) := match S.c? (A x) with
  | some (.ptr i 0) => match H i with
    | some ob => match ob.k with
      | .it m since seen last => match H m, seen.getLast? with
        | some mo, some b => match mo.k with
          | .mp es cl => if cl = last then
              (match es.find? (fun e => e.2.2 == b) with
              | some e => some (.tup [.c e.1, e.2.1], .no (one i ||| one m))
              | none => none) else none
          | _ => none
        | _, _ => none
      | _ => none
    | none => none
  | _ => none
theorem RM.find {σ : Nat → Blk} {D : Nat → Prop} (b : Nat) : ∀ {es : List (C × V × Nat)} {m : List MapEntry} {e : C × V × Nat}, RM σ D es m → es.find? (fun e => e.2.2 == b) = some e → ∃ q, m.find? (fun q => q.born == b) = some q ∧ RC σ D e.1 q.key ∧ RV σ D e.2.1 q.val
  | [], _, _, _, h => by cases h
  | a :: es, q :: m, e, hm, h => by
    rw [List.find?_cons] at h ⊢
    rw [hm.1.2.2]
    cases c : a.2.2 == b with
    | true =>
      rw [c] at h
      simp only [Option.some.injEq] at h
      subst h
      exact ⟨q, rfl, hm.1.1, hm.1.2.1⟩
    | false =>
      rw [c] at h
      exact RM.find b hm.2 h
theorem entry_ok {x : Operand} {s : S} {e : Ef} (ho : o.op = .entry x) (hA : Eqv σ D A ρ) (h : aEntry H A x = some (s, e)) (hs : Sat σ D (rst (tb e.F) H) w) : AOK P ρ o σ D w H n s e := by
  unfold aEntry at h
  split at h
  · rename_i i hx
    split at h
    · rename_i ob hob
      split at h
      · rename_i m since seen last hk
        split at h
        · rename_i mo b hmo hb
          split at h
          · rename_i es cl hkm
            split at h
            · rename_i hcl
              split at h
              · rename_i e0 hf
                cases h
                subst hcl
                have hp : ρ x = .pointer (some ⟨(σ i).b, 0, none⟩) := (hA.c hx).2
                obtain ⟨hDi, hDm, hi1⟩ := iter_of hs (tb_or_l tb_one) hob hk
                obtain ⟨_, ma, hm1, hm2⟩ := map_of hs (tb_or_r tb_one) hmo hkm
                obtain ⟨q, g1, g2, g3⟩ := RM.find b hm2 hf
                have g1' : ma.find? (fun q => q.born == b) = some q := by rw [← Array.find?_toList]; exact g1
                have hbk : seen.toArray.back? = some b := by rw [List.back?_toArray]; exact hb
                refine ⟨_, .tuple #[q.key, q.val], _, _, did_no hs ?_ (.inl rfl) ⟨[q.key, q.val], ⟨g2, g3, trivial⟩, rfl⟩⟩
                unfold execOp; rw [ho]
                simp only [hp]
                simp [Instr.entry, getObj, Sem.run, hi1, hm1, hbk, g1']
              · cases h
            · cases h
          · cases h
        · cases h
      · cases h
    · cases h
  · cases h
end
end Go.Proofs.YtcmlgmiomcegeaaGreat.Ev
