/- Part 15 of what the proof of OrderCounts rests on. No condition. -/
import Derived.ChangeSame
import Derived.Deep.Fields
import Derived.Deep.Slices
import Derived.SizedLaws
import Derived.Test.YtelaljoebdpicaaGreatPOrderCounts14
namespace Go.Proofs.YtelaljoebdpicaaGreat
set_option maxRecDepth 100000
set_option maxHeartbeats 60000000
set_option linter.unusedVariables false
set_option linter.unusedSimpArgs false
set_option linter.unusedSectionVars false
section
open Go.RowKit Go.Maps Go.ChangeShapes Go.WideShapes Go.Deep
def CellsL (w : World) (v : Value) (n size : Nat) (cs : List Value) : Prop :=
 cs.length = n * size /\ ((v = .slice none 0 0 /\ n = 0) ∨ ∃ a cap, v = .slice (some a) n cap /\ n <= cap /\ cap <= maxLen /\ ∀ j x, cs[j]? = some x -> w.cell? (a.add j) = some x)
theorem cell_lt9 {w : World} {a : Addr} {v : Value} (h : w.cell? a = some v) : a.block < w.heap.size := by
 unfold World.cell? at h
 by_cases hb : a.block < w.heap.size
 ·exact hb
 ·rw [Array.getElem?_eq_none (by omega)] at h; cases h
theorem CellsL.keep {w w' : World} {v : Value} {n size : Nat} {cs : List Value} (h : CellsL w v n size cs) (t : Tch No w w') : CellsL w' v n size cs := by
 refine ⟨h.1, ?_⟩
 rcases h.2 with h2 | ⟨a, cap, h2, h3, h4, h6⟩
 ·exact .inl h2
 ·exact .inr ⟨a, cap, h2, h3, h4, fun j x hx => t.cell (h6 j x hx) (fun h => h)⟩
theorem CellsL.at {w : World} {v : Value} {n size : Nat} {cs : List Value} (h : CellsL w v n size cs) (hp : 0 < n * size) : CellsAt w v n size cs := by
 refine ⟨h.1, ?_⟩
 rcases h.2 with h2 | ⟨⟨b, o, s⟩, cap, h2, h3, h4, h6⟩
 ·exact .inl h2
 ·have hl : 0 < cs.length := by rw [h.1]; exact hp
  have h0 := h6 0 cs[0] (by simp)
  have hs : s = none := by have := World.cell?_spot h0; simpa [Addr.add] using this
  subst hs
  have hb := cell_lt9 h0
  rw [addr_add] at hb
  exact .inr ⟨b, o, cap, h2, h3, h4, hb, fun j x hx => by have := h6 j x hx; rwa [addr_add] at this⟩
theorem CellsL.shape {w : World} {v : Value} {n size : Nat} {cs : List Value} (h : CellsL w v n size cs) : ∃ a cap, v = .slice a n cap /\ n <= cap /\ cap <= maxLen := by
 rcases h.2 with ⟨rfl, rfl⟩ | ⟨a, cap, h2, h3, h4, _⟩
 ·exact ⟨none, 0, rfl, Nat.le_refl _, by simp [maxLen]⟩
 ·exact ⟨_, cap, h2, h3, h4⟩
theorem CellsL.one {w : World} {v : Value} {n size : Nat} {cs : List Value} (h : CellsL w v n size cs) : v.oneCell' = true := by
 obtain ⟨a, cap, rfl, _⟩ := h.shape
 rfl
theorem CellsL.nil (w : World) (size : Nat) : CellsL w (.slice none 0 0) 0 size [] := ⟨by simp, .inl ⟨rfl, rfl⟩⟩
theorem CellsL.take {w : World} {a : Option Addr} {n c size : Nat} {cs : List Value} (h : CellsL w (.slice a n c) n size cs) {k : Nat} (hk : k <= n) : CellsL w (.slice a k c) k size (cs.take (k * size)) := by
 have hl : k * size <= n * size := Nat.mul_le_mul_right _ hk
 refine ⟨by rw [List.length_take, h.1]; omega, ?_⟩
 rcases h.2 with ⟨h2, h3⟩ | ⟨b, cap, h2, h3, h4, h6⟩
 ·injection h2 with e1 e2 e3
  exact .inl ⟨by rw [e1, e3]; congr 1; omega, by omega⟩
 ·injection h2 with e1 e2 e3
  subst e1; subst e3
  exact .inr ⟨b, c, rfl, by omega, h4, fun j x hx => h6 j x (by rw [List.getElem?_take] at hx; split at hx; exact hx; cases hx)⟩
section
variable {H : Type} {enc : TypeId × Value -> H} {P : Program} {w : World} {base : Nat}
theorem open_fieldsW {t : TypeId} {fs : Array Field} {fuel : Nat} {cs : List Value} {x : DataW H × List MemPlace}
  (he : P.underlying t = some (.struct fs)) (hone : oneCellFields P fs = true) (hC : P.cellsOf t = fs.size) (h : DataW.trod enc P w base (fun _ => true) true fuel t cs = some x) :
  cs.length = fs.size /\ ∀ (j : Nat) (f : Field), fs[j]? = some f -> ∃ c m y, cs[j]? = some c /\ DataW.trod enc P w base (fun _ => true) true m f.type [c] = some y /\ ∀ n ∈ y.1.weights P f.type, n ∈ x.1.weights P t := by
 obtain ⟨ys, n, _, hx, hlen, hyl, hf⟩ := DataW.trod_struct he h
 refine ⟨by omega, ?_⟩
 intro j f hj
 have h1 := hf j f hj
 obtain ⟨ho, hk⟩ := Go.Deep.hone_of hone j f hj
 have hjl := (Array.getElem?_eq_some_iff.1 hj).1
 have hys : j < ys.length := by omega
 rw [ho, hk, List.getElem?_eq_getElem hys] at h1
 have hjc : j < cs.length := by omega
 rw [Go.Deep.take1_drop _ j undef hjc] at h1
 refine ⟨cs.getD j undef, n, _, by simp [List.getD, List.getElem?_eq_getElem hjc], h1, fun k hk2 => ?_⟩
 subst hx
 simp only [DataW.weights, he]
 refine DataW.weights_mem_each (j := j) (t := f.type) (d := ys[j].1) ?_ ?_ k hk2
 ·rw [List.getElem?_map, Array.getElem?_toList, hj]; rfl
 ·rw [List.getElem?_map, List.getElem?_eq_getElem hys]; rfl
theorem open_listW {α : Type} {e1 : α -> List Value} {ok : α -> Prop} {size bytes : Nat} {t e : TypeId} {fuel : Nat} {cs : List Value} {x : DataW H × List MemPlace} (ht : P.underlying t = some (.slice e)) (hc : P.cellsOf e = size) (hb : P.bytesOf e = bytes) (hs : 0 < size)
  (he : ∀ x, (e1 x).length = size) (h : DataW.trod enc P w base (fun _ => true) true fuel t cs = some x) (hw : ∀ n ∈ x.1.weights P t, n <= reachBytes)
  (one : ∀ m cs y, DataW.trod enc P w base (fun _ => true) true m e cs = some y -> ∃ x, cs = e1 x /\ ok x) :
  ∃ v, ∃ l : List α, cs = [v] /\ CellsL w v l.length size (l.flatMap e1) /\ (∀ x ∈ l, ok x) /\ l.length * bytes <= 140737488351232 := by
 rcases open_slice ht h with ⟨rfl, rfl⟩ | ⟨a, len, cap, m, n, D, Pl, rfl, hbs, hl, hm, hmm, rfl, hi⟩
 ·exact ⟨_, [], rfl, CellsL.nil _ _, fun x hx => (by cases hx), by simp⟩
 ·have him : m = cap := by rw [hmm]; simp
  subst him
  have key : ∀ k, k <= len -> ∃ l : List α, l.length = k /\ (∀ x ∈ l, ok x) /\ ∀ i (h : i < l.length), w.cells? base (a.add (i * size)) size = some (e1 l[i]) := by
   intro k
   induction k with
   | zero => intro _; exact ⟨[], rfl, fun x hx => (by cases hx), fun i h => absurd h (Nat.not_lt_zero _)⟩
   | succ k ih =>
    intro hk
    obtain ⟨l, h1, h2, h3⟩ := ih (by omega)
    obtain ⟨cs', g1, g2⟩ := hi k (by omega)
    obtain ⟨x, rfl, hx⟩ := one _ _ _ g2
    rw [hc] at g1
    refine ⟨l ++ [x], by simp [h1], fun y hy => ?_, fun i hi2 => ?_⟩
    ·rcases List.mem_append.1 hy with hy | hy
     ·exact h2 y hy
     ·simp at hy; subst hy; exact hx
    ·by_cases hil : i < l.length
     ·rw [List.getElem_append_left hil]; exact h3 i hil
     ·have : i = k := by simp [h1] at hi2; omega
      subst this
      rw [List.getElem_append_right (by omega)]
      simpa [h1] using g1
  obtain ⟨l, h1, h2, h3⟩ := key len (Nat.le_refl _)
  refine ⟨_, l, rfl, ⟨flat_len e1 size he l, .inr ⟨a, m, by rw [h1], by omega, hm, fun j x hx => ?_⟩⟩, h2, ?_⟩
  ·have hj : j < l.length * size := by have := (List.getElem?_eq_some_iff.1 hx).1; rwa [flat_len e1 size he] at this
   have hjd : j = j / size * size + j % size := by rw [Nat.mul_comm]; exact (Nat.div_add_mod j size).symm
   have hil : j / size < l.length := Nat.div_lt_of_lt_mul (by rw [Nat.mul_comm]; exact hj)
   have hk := Nat.mod_lt j hs
   obtain ⟨_, _, hat⟩ := World.cells?_some (h3 _ hil)
   have g := hat _ hk
   rw [add_add, <- hjd] at g
   rw [hjd, flat_get e1 size he l _ _ hil hk] at hx
   rw [g, hx]
  ·have := hw ((((List.range len).map D).length + ((List.range (m - len)).map fun j => D (len + j)).length) * bytes) (by simp only [DataW.weights, ht, hb]; exact List.mem_cons_self)
   simp only [List.length_map, List.length_range, reachBytes] at this
   have h5 : len * bytes <= (len + (m - len)) * bytes := Nat.mul_le_mul_right _ (by omega)
   rw [h1]
   omega
end
def TxtL (s : Txt) : Prop := s.length <= 9223372036854775807
def LInts (w : World) (v : Value) (l : List Int) : Prop := CellsL w v l.length 1 (l.map (fun x => .int .i64 x))
def LPuts (w : World) (v : Value) (l : List PutM) : Prop := CellsL w v l.length 2 (l.flatMap encPut)
theorem LInts.keep {w w' : World} {v : Value} {l : List Int} (h : LInts w v l) (t : Tch No w w') : LInts w' v l := CellsL.keep h t
theorem LPuts.keep {w w' : World} {v : Value} {l : List PutM} (h : LPuts w v l) (t : Tch No w w') : LPuts w' v l := CellsL.keep h t
def PutL (p : PutM) : Prop := TxtL p.q /\ TxtL p.b
def MsgL (m : MsgM) : Prop := I64 m.id /\ TxtL m.q /\ TxtL m.b /\ I64 m.seq /\ I64 m.cnt /\ I64 m.who
structure ArgRec (w : World) (v : Value) (r : RecM) : Prop where
 ex : ∃ vp vu, v = .agg #[.int .i64 r.kind, .int .i64 r.tid, .int .i64 r.id, .bool r.yes, vp, vu] /\ LInts w vp r.parts /\ LPuts w vu r.puts
 nums : I64 r.kind /\ I64 r.tid /\ I64 r.id
 parts : ∀ x ∈ r.parts, I64 x
 puts : ∀ p ∈ r.puts, PutL p
theorem ArgRec.keep {w w' : World} {v : Value} {r : RecM} (h : ArgRec w v r) (t : Tch No w w') : ArgRec w' v r := by
 obtain ⟨vp, vu, h0, h1, h2⟩ := h.ex
 exact ⟨⟨vp, vu, h0, h1.keep t, h2.keep t⟩, h.nums, h.parts, h.puts⟩
structure ArgS (w : World) (vm vw ve vo vn : Value) (s : StM) (prb : List (BrM × Value)) (pro prn : List (PendM × Value)) : Prop where
 fb : prb.map Prod.fst = s.waits
 fo : pro.map Prod.fst = s.opens
 fn : prn.map Prod.fst = s.noes
 ms : CellsL w vm s.ms.length 6 (s.ms.flatMap encMsg)
 cb : CellsL w vw prb.length 2 (prb.flatMap (encPr fun q : BrM => q.tid))
 ib : ∀ p ∈ prb, LPuts w p.2 p.1.puts
 en : CellsL w ve s.ends.length 2 (s.ends.flatMap encEnd)
 co : CellsL w vo pro.length 2 (pro.flatMap (encPr fun q : PendM => q.tid))
 io : ∀ p ∈ pro, LInts w p.2 p.1.parts
 cn : CellsL w vn prn.length 2 (prn.flatMap (encPr fun q : PendM => q.tid))
 inn : ∀ p ∈ prn, LInts w p.2 p.1.parts
 nums : I64 s.broker /\ I64 s.nid /\ I64 s.nseq /\ I64 s.tx
 okm : ∀ m ∈ s.ms, MsgL m
 okb : ∀ b ∈ s.waits, I64 b.tid /\ ∀ p ∈ b.puts, PutL p
 oke : ∀ e ∈ s.ends, I64 e.tid
 oko : ∀ p ∈ s.opens, I64 p.tid /\ ∀ x ∈ p.parts, I64 x
 okn : ∀ p ∈ s.noes, I64 p.tid /\ ∀ x ∈ p.parts, I64 x
 lm : s.ms.length * 64 <= 140737488351232
 lb : prb.length * 32 <= 140737488351232
 le : s.ends.length * 16 <= 140737488351232
 lo : pro.length * 32 <= 140737488351232
 ln : prn.length * 32 <= 140737488351232
def ArgSt (w : World) (v : Value) (s : StM) : Prop :=
 ∃ vm vw ve vo vn prb pro prn, v = .agg #[.int .i64 s.broker, .int .i64 s.nid, .int .i64 s.nseq, .int .i64 s.tx, vm, vw, ve, vo, vn] /\ ArgS w vm vw ve vo vn s prb pro prn
theorem ArgS.keep {w w' : World} {vm vw ve vo vn : Value} {s : StM} {prb : List (BrM × Value)} {pro prn : List (PendM × Value)} (h : ArgS w vm vw ve vo vn s prb pro prn) (t : Tch No w w') : ArgS w' vm vw ve vo vn s prb pro prn :=
 ⟨h.fb, h.fo, h.fn, h.ms.keep t, h.cb.keep t, fun p hp => (h.ib p hp).keep t, h.en.keep t, h.co.keep t, fun p hp => (h.io p hp).keep t, h.cn.keep t, fun p hp => (h.inn p hp).keep t, h.nums, h.okm, h.okb, h.oke, h.oko, h.okn, h.lm, h.lb, h.le, h.lo, h.ln⟩
theorem ArgSt.keep {w w' : World} {v : Value} {s : StM} (h : ArgSt w v s) (t : Tch No w w') : ArgSt w' v s := by
 obtain ⟨vm, vw, ve, vo, vn, prb, pro, prn, e, h⟩ := h
 exact ⟨vm, vw, ve, vo, vn, prb, pro, prn, e, h.keep t⟩
section
variable {H : Type} {enc : TypeId × Value -> H} {w : World} {base : Nat}
theorem wf_i64 {n : Int} (h : (Lit.int .i64 n).wf = true) : I64 n := by
 simp only [Lit.wf, IntKind.min, IntKind.max, IntKind.signed, IntKind.bits] at h
 simp at h; unfold I64; omega
theorem txt_of {s : ByteArray} (h : s.size <= maxLen) : ∃ q : Txt, Value.string s = strV q /\ TxtL q := by
 refine ⟨s.data.toList, by simp [strV], ?_⟩
 unfold TxtL
 have : s.data.toList.length = s.size := Array.length_toList (xs := s.data)
 rw [this]; unfold maxLen at h; omega
theorem open_i64 {t : TypeId} {m : Nat} {c : Value} {y : DataW H × List MemPlace} (ht : Tryz.prog.underlying t = some (.int .i64)) (h : DataW.trod enc Tryz.prog w base (fun _ => true) true m t [c] = some y) : ∃ n, c = .int .i64 n /\ I64 n := by
 obtain ⟨n, h1, _, h2⟩ := DataW.trod_int ht h
 simp only [List.cons.injEq, and_true] at h1
 exact ⟨n, h1, wf_i64 h2⟩
theorem open_txt {t : TypeId} {m : Nat} {c : Value} {y : DataW H × List MemPlace} (ht : Tryz.prog.underlying t = some .string) (h : DataW.trod enc Tryz.prog w base (fun _ => true) true m t [c] = some y) : ∃ q, c = strV q /\ TxtL q := by
 obtain ⟨s, h1, _, h2⟩ := DataW.trod_string ht h
 simp only [List.cons.injEq, and_true] at h1
 obtain ⟨q, e, hq⟩ := txt_of h2
 exact ⟨q, by rw [h1, e], hq⟩
theorem open_tru {t : TypeId} {m : Nat} {c : Value} {y : DataW H × List MemPlace} (ht : Tryz.prog.underlying t = some .bool) (h : DataW.trod enc Tryz.prog w base (fun _ => true) true m t [c] = some y) : ∃ b, c = .bool b := by
 obtain ⟨b, h1, _⟩ := DataW.trod_bool ht h
 simp only [List.cons.injEq, and_true] at h1
 exact ⟨b, h1⟩
theorem open_intsL {m : Nat} {c : Value} {y : DataW H × List MemPlace} (h : DataW.trod enc Tryz.prog w base (fun _ => true) true m 34 [c] = some y) (hw : ∀ n ∈ y.1.weights Tryz.prog 34, n <= reachBytes) : ∃ l, LInts w c l /\ ∀ x ∈ l, I64 x := by
 obtain ⟨v, l, e, h1, h2, _⟩ := open_listW (e1 := fun x : Int => [.int .i64 x]) (ok := I64) (size := 1) (bytes := 8) Tryz.underlying34 (by kernel_rfl) (by kernel_rfl) (by omega) (fun _ => rfl) h hw (fun m cs y hy => by
  obtain ⟨n, h1, _, h2⟩ := DataW.trod_int Tryz.underlying3 hy
  exact ⟨n, h1, wf_i64 h2⟩)
 simp only [List.cons.injEq, and_true] at e
 subst e
 refine ⟨l, ?_, h2⟩
 have : l.flatMap (fun x : Int => [Value.int .i64 x]) = l.map (fun x => .int .i64 x) := List.map_eq_flatMap.symm
 unfold LInts
 rwa [this] at h1
theorem open_putsL {m : Nat} {c : Value} {y : DataW H × List MemPlace} (h : DataW.trod enc Tryz.prog w base (fun _ => true) true m 35 [c] = some y) (hw : ∀ n ∈ y.1.weights Tryz.prog 35, n <= reachBytes) : ∃ l, LPuts w c l /\ ∀ x ∈ l, PutL x := by
 obtain ⟨v, l, e, h1, h2, _⟩ := open_listW (e1 := encPut) (ok := PutL) (size := 2) (bytes := 32) Tryz.underlying35 (by kernel_rfl) (by kernel_rfl) (by omega) (fun _ => rfl) h hw (fun m cs y hy => by
  obtain ⟨hl, g⟩ := open_fieldsW Tryz.underlying45 (by kernel_rfl) (by kernel_rfl) hy
  obtain ⟨c0, _, _, q0, e0, _⟩ := g 0 _ rfl
  obtain ⟨c1, _, _, q1, e1, _⟩ := g 1 _ rfl
  obtain ⟨a, rfl, ha⟩ := open_txt Tryz.underlying9 e0
  obtain ⟨b, rfl, hb⟩ := open_txt Tryz.underlying9 e1
  match cs, hl with
  | [x0, x1], _ =>
   simp only [List.getElem?_cons_zero, List.getElem?_cons_succ, Option.some.injEq] at q0 q1
   subst q0 q1
   exact ⟨⟨a, b⟩, rfl, ha, hb⟩)
 simp only [List.cons.injEq, and_true] at e
 subst e
 exact ⟨l, h1, h2⟩
theorem open_msgsL {m : Nat} {c : Value} {y : DataW H × List MemPlace} (h : DataW.trod enc Tryz.prog w base (fun _ => true) true m 22 [c] = some y) (hw : ∀ n ∈ y.1.weights Tryz.prog 22, n <= reachBytes) : ∃ l : List MsgM, CellsL w c l.length 6 (l.flatMap encMsg) /\ (∀ x ∈ l, MsgL x) /\ l.length * 64 <= 140737488351232 := by
 obtain ⟨v, l, e, h1, h2, h3⟩ := open_listW (e1 := encMsg) (ok := MsgL) (size := 6) (bytes := 64) Tryz.underlying22 (by kernel_rfl) (by kernel_rfl) (by omega) (fun _ => rfl) h hw (fun m cs y hy => by
  obtain ⟨hl, g⟩ := open_fieldsW Tryz.underlying50 (by kernel_rfl) (by kernel_rfl) hy
  obtain ⟨c0, _, _, q0, e0, _⟩ := g 0 _ rfl
  obtain ⟨c1, _, _, q1, e1, _⟩ := g 1 _ rfl
  obtain ⟨c2, _, _, q2, e2, _⟩ := g 2 _ rfl
  obtain ⟨c3, _, _, q3, e3, _⟩ := g 3 _ rfl
  obtain ⟨c4, _, _, q4, e4, _⟩ := g 4 _ rfl
  obtain ⟨c5, _, _, q5, e5, _⟩ := g 5 _ rfl
  obtain ⟨n0, rfl, h0⟩ := open_i64 Tryz.underlying2 e0
  obtain ⟨n1, rfl, h1⟩ := open_txt Tryz.underlying9 e1
  obtain ⟨n2, rfl, h2⟩ := open_txt Tryz.underlying9 e2
  obtain ⟨n3, rfl, h3⟩ := open_i64 Tryz.underlying2 e3
  obtain ⟨n4, rfl, h4⟩ := open_i64 Tryz.underlying3 e4
  obtain ⟨n5, rfl, h5⟩ := open_i64 Tryz.underlying2 e5
  match cs, hl with
  | [x0, x1, x2, x3, x4, x5], _ =>
   simp only [List.getElem?_cons_zero, List.getElem?_cons_succ, Option.some.injEq] at q0 q1 q2 q3 q4 q5
   subst q0 q1 q2 q3 q4 q5
   exact ⟨⟨n0, n1, n2, n3, n4, n5⟩, rfl, h0, h1, h2, h3, h4, h5⟩)
 simp only [List.cons.injEq, and_true] at e
 subst e
 exact ⟨l, h1, h2, h3⟩
theorem open_endsL {m : Nat} {c : Value} {y : DataW H × List MemPlace} (h : DataW.trod enc Tryz.prog w base (fun _ => true) true m 24 [c] = some y) (hw : ∀ n ∈ y.1.weights Tryz.prog 24, n <= reachBytes) : ∃ l : List EndM, CellsL w c l.length 2 (l.flatMap encEnd) /\ (∀ x ∈ l, I64 x.tid) /\ l.length * 16 <= 140737488351232 := by
 obtain ⟨v, l, e, h1, h2, h3⟩ := open_listW (e1 := encEnd) (ok := fun x => I64 x.tid) (size := 2) (bytes := 16) Tryz.underlying24 (by kernel_rfl) (by kernel_rfl) (by omega) (fun _ => rfl) h hw (fun m cs y hy => by
  obtain ⟨hl, g⟩ := open_fieldsW Tryz.underlying57 (by kernel_rfl) (by kernel_rfl) hy
  obtain ⟨c0, _, _, q0, e0, _⟩ := g 0 _ rfl
  obtain ⟨c1, _, _, q1, e1, _⟩ := g 1 _ rfl
  obtain ⟨n0, rfl, h0⟩ := open_i64 Tryz.underlying2 e0
  obtain ⟨n1, rfl⟩ := open_tru Tryz.underlying4 e1
  match cs, hl with
  | [x0, x1], _ =>
   simp only [List.getElem?_cons_zero, List.getElem?_cons_succ, Option.some.injEq] at q0 q1
   subst q0 q1
   exact ⟨⟨n0, n1⟩, rfl, h0⟩)
 simp only [List.cons.injEq, and_true] at e
 subst e
 exact ⟨l, h1, h2, h3⟩
theorem open_listV {P : Program} {α : Type} {e1 : α -> List Value} {ok : α -> Prop} {size bytes : Nat} {t e : TypeId} {fuel : Nat} {cs : List Value} {x : DataW H × List MemPlace} (ht : P.underlying t = some (.slice e)) (hc : P.cellsOf e = size) (hb : P.bytesOf e = bytes) (hs : 0 < size)
  (he : ∀ x, (e1 x).length = size) (h : DataW.trod enc P w base (fun _ => true) true fuel t cs = some x) (hw : ∀ n ∈ x.1.weights P t, n <= reachBytes)
  (one : ∀ m cs y, DataW.trod enc P w base (fun _ => true) true m e cs = some y -> (∀ n ∈ y.1.weights P e, n <= reachBytes) -> ∃ x, cs = e1 x /\ ok x) :
  ∃ v, ∃ l : List α, cs = [v] /\ CellsL w v l.length size (l.flatMap e1) /\ (∀ x ∈ l, ok x) /\ l.length * bytes <= 140737488351232 := by
 rcases open_slice ht h with ⟨rfl, rfl⟩ | ⟨a, len, cap, m, n, D, Pl, rfl, hbs, hl, hm, hmm, rfl, hi⟩
 ·exact ⟨_, [], rfl, CellsL.nil _ _, fun x hx => (by cases hx), by simp⟩
 ·have him : m = cap := by rw [hmm]; simp
  subst him
  have wt : ∀ i, i < len -> ∀ n ∈ (D i).weights P e, n <= reachBytes := by
   intro i hi2 n hn
   refine hw n ?_
   simp only [DataW.weights, ht]
   refine List.mem_cons_of_mem _ (List.mem_append_left _ ?_)
   have mem : ∀ (l : List (DataW H)) (d : DataW H), d ∈ l -> ∀ n ∈ d.weights P e, n ∈ DataW.weightsAll P e l := by
    intro l
    induction l with
    | nil => intro d hd; cases hd
    | cons a r ih =>
     intro d hd n hn
     simp only [DataW.weightsAll, List.mem_append]
     rcases List.mem_cons.1 hd with rfl | hd
     ·exact .inl hn
     ·exact .inr (ih d hd n hn)
   exact mem _ _ (List.mem_map.2 ⟨i, List.mem_range.2 hi2, rfl⟩) n hn
  have key : ∀ k, k <= len -> ∃ l : List α, l.length = k /\ (∀ x ∈ l, ok x) /\ ∀ i (h : i < l.length), w.cells? base (a.add (i * size)) size = some (e1 l[i]) := by
   intro k
   induction k with
   | zero => intro _; exact ⟨[], rfl, fun x hx => (by cases hx), fun i h => absurd h (Nat.not_lt_zero _)⟩
   | succ k ih =>
    intro hk
    obtain ⟨l, h1, h2, h3⟩ := ih (by omega)
    obtain ⟨cs', g1, g2⟩ := hi k (by omega)
    obtain ⟨x, rfl, hx⟩ := one _ _ _ g2 (wt k (by omega))
    rw [hc] at g1
    refine ⟨l ++ [x], by simp [h1], fun y hy => ?_, fun i hi2 => ?_⟩
    ·rcases List.mem_append.1 hy with hy | hy
     ·exact h2 y hy
     ·simp at hy; subst hy; exact hx
    ·by_cases hil : i < l.length
     ·rw [List.getElem_append_left hil]; exact h3 i hil
     ·have : i = k := by simp [h1] at hi2; omega
      subst this
      rw [List.getElem_append_right (by omega)]
      simpa [h1] using g1
  obtain ⟨l, h1, h2, h3⟩ := key len (Nat.le_refl _)
  refine ⟨_, l, rfl, ⟨flat_len e1 size he l, .inr ⟨a, m, by rw [h1], by omega, hm, fun j x hx => ?_⟩⟩, h2, ?_⟩
  ·have hj : j < l.length * size := by have := (List.getElem?_eq_some_iff.1 hx).1; rwa [flat_len e1 size he] at this
   have hjd : j = j / size * size + j % size := by rw [Nat.mul_comm]; exact (Nat.div_add_mod j size).symm
   have hil : j / size < l.length := Nat.div_lt_of_lt_mul (by rw [Nat.mul_comm]; exact hj)
   have hk := Nat.mod_lt j hs
   obtain ⟨_, _, hat⟩ := World.cells?_some (h3 _ hil)
   have g := hat _ hk
   rw [add_add, <- hjd] at g
   rw [hjd, flat_get e1 size he l _ _ hil hk] at hx
   rw [g, hx]
  ·have := hw ((((List.range len).map D).length + ((List.range (m - len)).map fun j => D (len + j)).length) * bytes) (by simp only [DataW.weights, ht, hb]; exact List.mem_cons_self)
   simp only [List.length_map, List.length_range, reachBytes] at this
   have h5 : len * bytes <= (len + (m - len)) * bytes := Nat.mul_le_mul_right _ (by omega)
   rw [h1]
   omega
theorem open_brsL {m : Nat} {c : Value} {y : DataW H × List MemPlace} (h : DataW.trod enc Tryz.prog w base (fun _ => true) true m 23 [c] = some y) (hw : ∀ n ∈ y.1.weights Tryz.prog 23, n <= reachBytes) : ∃ l : List (BrM × Value), CellsL w c l.length 2 (l.flatMap (encPr fun q : BrM => q.tid)) /\ (∀ p ∈ l, LPuts w p.2 p.1.puts /\ I64 p.1.tid /\ ∀ x ∈ p.1.puts, PutL x) /\ l.length * 32 <= 140737488351232 := by
 obtain ⟨v, l, e, h1, h2, h3⟩ := open_listV (e1 := encPr fun q : BrM => q.tid) (ok := fun p => LPuts w p.2 p.1.puts /\ I64 p.1.tid /\ ∀ x ∈ p.1.puts, PutL x) (size := 2) (bytes := 32) Tryz.underlying23 (by kernel_rfl) (by kernel_rfl) (by omega) (fun _ => rfl) h hw (fun m cs y hy hwy => by
  obtain ⟨hl, g⟩ := open_fieldsW Tryz.underlying74 (by kernel_rfl) (by kernel_rfl) hy
  obtain ⟨c0, _, _, q0, e0, _⟩ := g 0 _ rfl
  obtain ⟨c1, _, _, q1, e1, w1⟩ := g 1 _ rfl
  obtain ⟨n0, rfl, h0⟩ := open_i64 Tryz.underlying2 e0
  obtain ⟨ps, h1, h2⟩ := open_putsL e1 (fun n hn => hwy n (w1 n hn))
  match cs, hl with
  | [x0, x1], _ =>
   simp only [List.getElem?_cons_zero, List.getElem?_cons_succ, Option.some.injEq] at q0 q1
   subst q0 q1
   exact ⟨(⟨n0, ps⟩, x1), rfl, h1, h0, h2⟩)
 simp only [List.cons.injEq, and_true] at e
 subst e
 exact ⟨l, h1, h2, h3⟩
theorem open_pendsL {m : Nat} {c : Value} {y : DataW H × List MemPlace} (h : DataW.trod enc Tryz.prog w base (fun _ => true) true m 25 [c] = some y) (hw : ∀ n ∈ y.1.weights Tryz.prog 25, n <= reachBytes) : ∃ l : List (PendM × Value), CellsL w c l.length 2 (l.flatMap (encPr fun q : PendM => q.tid)) /\ (∀ p ∈ l, LInts w p.2 p.1.parts /\ I64 p.1.tid /\ ∀ x ∈ p.1.parts, I64 x) /\ l.length * 32 <= 140737488351232 := by
 obtain ⟨v, l, e, h1, h2, h3⟩ := open_listV (e1 := encPr fun q : PendM => q.tid) (ok := fun p => LInts w p.2 p.1.parts /\ I64 p.1.tid /\ ∀ x ∈ p.1.parts, I64 x) (size := 2) (bytes := 32) Tryz.underlying25 (by kernel_rfl) (by kernel_rfl) (by omega) (fun _ => rfl) h hw (fun m cs y hy hwy => by
  obtain ⟨hl, g⟩ := open_fieldsW Tryz.underlying76 (by kernel_rfl) (by kernel_rfl) hy
  obtain ⟨c0, _, _, q0, e0, _⟩ := g 0 _ rfl
  obtain ⟨c1, _, _, q1, e1, w1⟩ := g 1 _ rfl
  obtain ⟨n0, rfl, h0⟩ := open_i64 Tryz.underlying2 e0
  obtain ⟨ps, h1, h2⟩ := open_intsL e1 (fun n hn => hwy n (w1 n hn))
  match cs, hl with
  | [x0, x1], _ =>
   simp only [List.getElem?_cons_zero, List.getElem?_cons_succ, Option.some.injEq] at q0 q1
   subst q0 q1
   exact ⟨(⟨n0, ps⟩, x1), rfl, h1, h0, h2⟩)
 simp only [List.cons.injEq, and_true] at e
 subst e
 exact ⟨l, h1, h2, h3⟩
theorem open_st {m : Nat} {cs : List Value} {y : DataW H × List MemPlace} (h : DataW.trod enc Tryz.prog w base (fun _ => true) true m 27 cs = some y) (hw : ∀ n ∈ y.1.weights Tryz.prog 27, n <= reachBytes) :
  ∃ s, ArgSt w (.agg cs.toArray) s := by
 obtain ⟨hl, g⟩ := open_fieldsW Tryz.underlying27 (by kernel_rfl) (by kernel_rfl) h
 obtain ⟨c0, _, _, q0, e0, _⟩ := g 0 _ rfl
 obtain ⟨c1, _, _, q1, e1, _⟩ := g 1 _ rfl
 obtain ⟨c2, _, _, q2, e2, _⟩ := g 2 _ rfl
 obtain ⟨c3, _, _, q3, e3, _⟩ := g 3 _ rfl
 obtain ⟨c4, _, _, q4, e4, w4⟩ := g 4 _ rfl
 obtain ⟨c5, _, _, q5, e5, w5⟩ := g 5 _ rfl
 obtain ⟨c6, _, _, q6, e6, w6⟩ := g 6 _ rfl
 obtain ⟨c7, _, _, q7, e7, w7⟩ := g 7 _ rfl
 obtain ⟨c8, _, _, q8, e8, w8⟩ := g 8 _ rfl
 obtain ⟨n0, rfl, h0⟩ := open_i64 Tryz.underlying3 e0
 obtain ⟨n1, rfl, h1⟩ := open_i64 Tryz.underlying2 e1
 obtain ⟨n2, rfl, h2⟩ := open_i64 Tryz.underlying2 e2
 obtain ⟨n3, rfl, h3⟩ := open_i64 Tryz.underlying2 e3
 obtain ⟨lm, hm, km, bm⟩ := open_msgsL e4 (fun n hn => hw n (w4 n hn))
 obtain ⟨lb, hb, kb, bb⟩ := open_brsL e5 (fun n hn => hw n (w5 n hn))
 obtain ⟨le, he, ke, be⟩ := open_endsL e6 (fun n hn => hw n (w6 n hn))
 obtain ⟨lo, ho, ko, bo⟩ := open_pendsL e7 (fun n hn => hw n (w7 n hn))
 obtain ⟨ln, hn, kn, bn⟩ := open_pendsL e8 (fun n hn => hw n (w8 n hn))
 match cs, hl with
 | [x0, x1, x2, x3, x4, x5, x6, x7, x8], _ =>
  simp only [List.getElem?_cons_zero, List.getElem?_cons_succ, Option.some.injEq] at q0 q1 q2 q3 q4 q5 q6 q7 q8
  subst q0 q1 q2 q3 q4 q5 q6 q7 q8
  refine ⟨⟨n0, n1, n2, n3, lm, lb.map Prod.fst, le, lo.map Prod.fst, ln.map Prod.fst⟩, x4, x5, x6, x7, x8, lb, lo, ln, rfl, rfl, rfl, rfl, hm, hb, fun p hp => (kb p hp).1, he, ho, fun p hp => (ko p hp).1, hn, fun p hp => (kn p hp).1, ⟨h0, h1, h2, h3⟩, km, ?_, ke, ?_, ?_, bm, bb, be, bo, bn⟩
  ·intro b hb2
   obtain ⟨p, hp, rfl⟩ := List.mem_map.1 hb2
   exact (kb p hp).2
  ·intro b hb2
   obtain ⟨p, hp, rfl⟩ := List.mem_map.1 hb2
   exact (ko p hp).2
  ·intro b hb2
   obtain ⟨p, hp, rfl⟩ := List.mem_map.1 hb2
   exact (kn p hp).2
end
end
end Go.Proofs.YtelaljoebdpicaaGreat
