/- Part 9 of what the proof of StoreIds rests on. No condition. -/
import Derived.ChangeSame
import Derived.Deep.Fields
import Derived.Deep.Slices
import Derived.SizedLaws
import Derived.Test.YtafndmnbnmlklaaGreatPStoreIds08
namespace Go.Proofs.YtafndmnbnmlklaaGreat
set_option maxRecDepth 100000
set_option maxHeartbeats 60000000
set_option linter.unusedVariables false
set_option linter.unusedSimpArgs false
set_option linter.unusedSectionVars false
section
open Go.RowKit Go.Maps
theorem flat_take {α : Type} {enc : α -> List Value} {m : Nat} (he : ∀ x, (enc x).length = m) : ∀ (l : List α) (k : Nat), (l.flatMap enc).take (k * m) = (l.take k).flatMap enc
 | [], k => by simp
 | a :: r, 0 => by simp
 | a :: r, k + 1 => by
  have e : (k + 1) * m = (enc a).length + k * m := by rw [he, Nat.succ_mul]; omega
  rw [List.flatMap_cons, List.take_succ_cons, List.flatMap_cons, e, List.take_length_add_append, flat_take he r k]
theorem flat_drop {α : Type} {enc : α -> List Value} {m : Nat} (he : ∀ x, (enc x).length = m) : ∀ (l : List α) (k : Nat), (l.flatMap enc).drop (k * m) = (l.drop k).flatMap enc
 | [], k => by simp
 | a :: r, 0 => by simp
 | a :: r, k + 1 => by
  have e : (k + 1) * m = (enc a).length + k * m := by rw [he, Nat.succ_mul]; omega
  rw [List.flatMap_cons, List.drop_succ_cons, e, List.drop_length_add_append, flat_drop he r k]
def IsL {α : Type} (enc : α -> List Value) (m : Nat) (w : World) (v : Value) (l : List α) : Prop := CellsAt w v l.length m (l.flatMap enc)
theorem IsL.keep {α : Type} {enc : α -> List Value} {m : Nat} {w w' : World} {v : Value} {l : List α} (h : IsL enc m w v l) (t : Tch No w w') : IsL enc m w' v l := CellsAt.keep h t
def encPr {α : Type} (f : α -> Int) (p : α × Value) : List Value := [.int .i64 (f p.1), p.2]
theorem zip_flat {α : Type} (f : α -> Int) : ∀ (l : List α) (vs : List Value), vs.length = l.length -> ((l.map f).zip vs).flatMap encTid = (l.zip vs).flatMap (encPr f)
 | [], _, _ => by simp
 | a :: r, [], h => by simp at h
 | a :: r, v :: vs, h => by
  rw [List.map_cons, List.zip_cons_cons, List.zip_cons_cons, List.flatMap_cons, List.flatMap_cons, zip_flat f r vs (by simpa using h)]
  rfl
theorem zip_unzip {α β : Type} : ∀ (l : List (α × β)), l = (l.map Prod.fst).zip (l.map Prod.snd)
 | [] => rfl
 | a :: r => by rw [List.map_cons, List.map_cons, List.zip_cons_cons, <- zip_unzip r]
theorem pends_pairs {w : World} {v : Value} {l : List PendM} : IsPends w v l ↔ ∃ prs : List (PendM × Value), prs.map Prod.fst = l /\ IsL (encPr (·.tid)) 2 w v prs /\ ∀ p ∈ prs, IsInts w p.2 p.1.parts := by
 constructor
 ·rintro ⟨vs, h1, h2, h3⟩
  have hz : (l.zip vs).length = l.length := by rw [List.length_zip, h1, Nat.min_self]
  refine ⟨l.zip vs, List.map_fst_zip (by omega), ?_, fun p hp => ?_⟩
  ·unfold IsL
   rw [hz, <- zip_flat _ l vs h1]
   exact h2
  ·obtain ⟨i, hi, rfl⟩ := List.getElem_of_mem hp
   rw [List.getElem_zip]
   exact h3 i (by omega) (by omega)
 ·rintro ⟨prs, rfl, h2, h3⟩
  refine ⟨prs.map Prod.snd, by simp, ?_, fun i h h' => ?_⟩
  ·have e := zip_unzip prs
   rw [zip_flat _ _ _ (by simp), List.length_map]
   rw [<- e]
   exact h2
  ·rw [List.getElem_map, List.getElem_map]
   exact h3 _ (List.getElem_mem _)
theorem brs_pairs {w : World} {v : Value} {l : List BrM} : IsBrs w v l ↔ ∃ prs : List (BrM × Value), prs.map Prod.fst = l /\ IsL (encPr (·.tid)) 2 w v prs /\ ∀ p ∈ prs, IsPuts w p.2 p.1.puts := by
 constructor
 ·rintro ⟨vs, h1, h2, h3⟩
  have hz : (l.zip vs).length = l.length := by rw [List.length_zip, h1, Nat.min_self]
  refine ⟨l.zip vs, List.map_fst_zip (by omega), ?_, fun p hp => ?_⟩
  ·unfold IsL
   rw [hz, <- zip_flat _ l vs h1]
   exact h2
  ·obtain ⟨i, hi, rfl⟩ := List.getElem_of_mem hp
   rw [List.getElem_zip]
   exact h3 i (by omega) (by omega)
 ·rintro ⟨prs, rfl, h2, h3⟩
  refine ⟨prs.map Prod.snd, by simp, ?_, fun i h h' => ?_⟩
  ·have e := zip_unzip prs
   rw [zip_flat _ _ _ (by simp), List.length_map]
   rw [<- e]
   exact h2
  ·rw [List.getElem_map, List.getElem_map]
   exact h3 _ (List.getElem_mem _)
theorem ones_pr {α : Type} {f : α -> Int} {l : List (α × Value)} (h : ∀ p ∈ l, p.2.oneCell' = true) : Ones (l.flatMap (encPr f)) := fun u hu => by
 obtain ⟨x, hx, hu⟩ := List.mem_flatMap.1 hu
 simp only [encPr, List.mem_cons, List.not_mem_nil, or_false] at hu
 rcases hu with rfl | rfl
 ·rfl
 ·exact h x hx
end
section
open Go.RowKit Go.Maps Go.ChangeShapes Go.WideShapes Go.Deep
def CellsL (w : World) (v : Value) (n size : Nat) (cs : List Value) : Prop :=
 cs.length = n * size /\ ((v = .slice none 0 0 /\ n = 0) ∨ ∃ a cap, v = .slice (some a) n cap /\ n <= cap /\ cap <= maxLen /\ ∀ j x, cs[j]? = some x -> w.cell? (a.add j) = some x)
theorem cell_lt9 {w : World} {a : Addr} {v : Value} (h : w.cell? a = some v) : a.block < w.heap.size := by
 unfold World.cell? at h
 by_cases hb : a.block < w.heap.size
 ·exact hb
 ·rw [Array.getElem?_eq_none (by omega)] at h; cases h
theorem CellsL.keep {w w' : World} {v : Value} {n size : Nat} {cs : List Value} (h : CellsL w v n size cs) (t : Tch No w w') : CellsL w' v n size cs := by
 refine ⟨h.1, ?_⟩
 rcases h.2 with h2 | ⟨a, cap, h2, h3, h4, h6⟩
 ·exact .inl h2
 ·exact .inr ⟨a, cap, h2, h3, h4, fun j x hx => t.cell (h6 j x hx) (fun h => h)⟩
theorem CellsL.at {w : World} {v : Value} {n size : Nat} {cs : List Value} (h : CellsL w v n size cs) (hp : 0 < n * size) : CellsAt w v n size cs := by
 refine ⟨h.1, ?_⟩
 rcases h.2 with h2 | ⟨⟨b, o, s⟩, cap, h2, h3, h4, h6⟩
 ·exact .inl h2
 ·have hl : 0 < cs.length := by rw [h.1]; exact hp
  have h0 := h6 0 cs[0] (by simp)
  have hs : s = none := by have := World.cell?_spot h0; simpa [Addr.add] using this
  subst hs
  have hb := cell_lt9 h0
  rw [addr_add] at hb
  exact .inr ⟨b, o, cap, h2, h3, h4, hb, fun j x hx => by have := h6 j x hx; rwa [addr_add] at this⟩
theorem CellsL.shape {w : World} {v : Value} {n size : Nat} {cs : List Value} (h : CellsL w v n size cs) : ∃ a cap, v = .slice a n cap /\ n <= cap /\ cap <= maxLen := by
 rcases h.2 with ⟨rfl, rfl⟩ | ⟨a, cap, h2, h3, h4, _⟩
 ·exact ⟨none, 0, rfl, Nat.le_refl _, by simp [maxLen]⟩
 ·exact ⟨_, cap, h2, h3, h4⟩
theorem CellsL.one {w : World} {v : Value} {n size : Nat} {cs : List Value} (h : CellsL w v n size cs) : v.oneCell' = true := by
 obtain ⟨a, cap, rfl, _⟩ := h.shape
 rfl
theorem CellsL.nil (w : World) (size : Nat) : CellsL w (.slice none 0 0) 0 size [] := ⟨by simp, .inl ⟨rfl, rfl⟩⟩
theorem CellsL.take {w : World} {a : Option Addr} {n c size : Nat} {cs : List Value} (h : CellsL w (.slice a n c) n size cs) {k : Nat} (hk : k <= n) : CellsL w (.slice a k c) k size (cs.take (k * size)) := by
 have hl : k * size <= n * size := Nat.mul_le_mul_right _ hk
 refine ⟨by rw [List.length_take, h.1]; omega, ?_⟩
 rcases h.2 with ⟨h2, h3⟩ | ⟨b, cap, h2, h3, h4, h6⟩
 ·injection h2 with e1 e2 e3
  exact .inl ⟨by rw [e1, e3]; congr 1; omega, by omega⟩
 ·injection h2 with e1 e2 e3
  subst e1; subst e3
  exact .inr ⟨b, c, rfl, by omega, h4, fun j x hx => h6 j x (by rw [List.getElem?_take] at hx; split at hx; exact hx; cases hx)⟩
section
variable {H : Type} {enc : TypeId × Value -> H} {P : Program} {w : World} {base : Nat}
theorem open_fieldsW {t : TypeId} {fs : Array Field} {fuel : Nat} {cs : List Value} {x : DataW H × List MemPlace}
  (he : P.underlying t = some (.struct fs)) (hone : oneCellFields P fs = true) (hC : P.cellsOf t = fs.size) (h : DataW.trod enc P w base (fun _ => true) true fuel t cs = some x) :
  cs.length = fs.size /\ ∀ (j : Nat) (f : Field), fs[j]? = some f -> ∃ c m y, cs[j]? = some c /\ DataW.trod enc P w base (fun _ => true) true m f.type [c] = some y /\ ∀ n ∈ y.1.weights P f.type, n ∈ x.1.weights P t := by
 obtain ⟨ys, n, _, hx, hlen, hyl, hf⟩ := DataW.trod_struct he h
 refine ⟨by omega, ?_⟩
 intro j f hj
 have h1 := hf j f hj
 obtain ⟨ho, hk⟩ := Go.Deep.hone_of hone j f hj
 have hjl := (Array.getElem?_eq_some_iff.1 hj).1
 have hys : j < ys.length := by omega
 rw [ho, hk, List.getElem?_eq_getElem hys] at h1
 have hjc : j < cs.length := by omega
 rw [Go.Deep.take1_drop _ j undef hjc] at h1
 refine ⟨cs.getD j undef, n, _, by simp [List.getD, List.getElem?_eq_getElem hjc], h1, fun k hk2 => ?_⟩
 subst hx
 simp only [DataW.weights, he]
 refine DataW.weights_mem_each (j := j) (t := f.type) (d := ys[j].1) ?_ ?_ k hk2
 ·rw [List.getElem?_map, Array.getElem?_toList, hj]; rfl
 ·rw [List.getElem?_map, List.getElem?_eq_getElem hys]; rfl
theorem open_listW {α : Type} {e1 : α -> List Value} {ok : α -> Prop} {size bytes : Nat} {t e : TypeId} {fuel : Nat} {cs : List Value} {x : DataW H × List MemPlace} (ht : P.underlying t = some (.slice e)) (hc : P.cellsOf e = size) (hb : P.bytesOf e = bytes) (hs : 0 < size)
  (he : ∀ x, (e1 x).length = size) (h : DataW.trod enc P w base (fun _ => true) true fuel t cs = some x) (hw : ∀ n ∈ x.1.weights P t, n <= reachBytes)
  (one : ∀ m cs y, DataW.trod enc P w base (fun _ => true) true m e cs = some y -> ∃ x, cs = e1 x /\ ok x) :
  ∃ v, ∃ l : List α, cs = [v] /\ CellsL w v l.length size (l.flatMap e1) /\ (∀ x ∈ l, ok x) /\ l.length * bytes <= 140737488351232 := by
 rcases open_slice ht h with ⟨rfl, rfl⟩ | ⟨a, len, cap, m, n, D, Pl, rfl, hbs, hl, hm, hmm, rfl, hi⟩
 ·exact ⟨_, [], rfl, CellsL.nil _ _, fun x hx => (by cases hx), by simp⟩
 ·have him : m = cap := by rw [hmm]; simp
  subst him
  have key : ∀ k, k <= len -> ∃ l : List α, l.length = k /\ (∀ x ∈ l, ok x) /\ ∀ i (h : i < l.length), w.cells? base (a.add (i * size)) size = some (e1 l[i]) := by
   intro k
   induction k with
   | zero => intro _; exact ⟨[], rfl, fun x hx => (by cases hx), fun i h => absurd h (Nat.not_lt_zero _)⟩
   | succ k ih =>
    intro hk
    obtain ⟨l, h1, h2, h3⟩ := ih (by omega)
    obtain ⟨cs', g1, g2⟩ := hi k (by omega)
    obtain ⟨x, rfl, hx⟩ := one _ _ _ g2
    rw [hc] at g1
    refine ⟨l ++ [x], by simp [h1], fun y hy => ?_, fun i hi2 => ?_⟩
    ·rcases List.mem_append.1 hy with hy | hy
     ·exact h2 y hy
     ·simp at hy; subst hy; exact hx
    ·by_cases hil : i < l.length
     ·rw [List.getElem_append_left hil]; exact h3 i hil
     ·have : i = k := by simp [h1] at hi2; omega
      subst this
      rw [List.getElem_append_right (by omega)]
      simpa [h1] using g1
  obtain ⟨l, h1, h2, h3⟩ := key len (Nat.le_refl _)
  refine ⟨_, l, rfl, ⟨flat_len e1 size he l, .inr ⟨a, m, by rw [h1], by omega, hm, fun j x hx => ?_⟩⟩, h2, ?_⟩
  ·have hj : j < l.length * size := by have := (List.getElem?_eq_some_iff.1 hx).1; rwa [flat_len e1 size he] at this
   have hjd : j = j / size * size + j % size := by rw [Nat.mul_comm]; exact (Nat.div_add_mod j size).symm
   have hil : j / size < l.length := Nat.div_lt_of_lt_mul (by rw [Nat.mul_comm]; exact hj)
   have hk := Nat.mod_lt j hs
   obtain ⟨_, _, hat⟩ := World.cells?_some (h3 _ hil)
   have g := hat _ hk
   rw [add_add, <- hjd] at g
   rw [hjd, flat_get e1 size he l _ _ hil hk] at hx
   rw [g, hx]
  ·have := hw ((((List.range len).map D).length + ((List.range (m - len)).map fun j => D (len + j)).length) * bytes) (by simp only [DataW.weights, ht, hb]; exact List.mem_cons_self)
   simp only [List.length_map, List.length_range, reachBytes] at this
   have h5 : len * bytes <= (len + (m - len)) * bytes := Nat.mul_le_mul_right _ (by omega)
   rw [h1]
   omega
end
def TxtL (s : Txt) : Prop := s.length <= 9223372036854775807
def LInts (w : World) (v : Value) (l : List Int) : Prop := CellsL w v l.length 1 (l.map (fun x => .int .i64 x))
def LPuts (w : World) (v : Value) (l : List PutM) : Prop := CellsL w v l.length 2 (l.flatMap encPut)
theorem LInts.keep {w w' : World} {v : Value} {l : List Int} (h : LInts w v l) (t : Tch No w w') : LInts w' v l := CellsL.keep h t
theorem LPuts.keep {w w' : World} {v : Value} {l : List PutM} (h : LPuts w v l) (t : Tch No w w') : LPuts w' v l := CellsL.keep h t
def PutL (p : PutM) : Prop := TxtL p.q /\ TxtL p.b
def MsgL (m : MsgM) : Prop := I64 m.id /\ TxtL m.q /\ TxtL m.b /\ I64 m.seq /\ I64 m.cnt /\ I64 m.who
structure ArgRec (w : World) (v : Value) (r : RecM) : Prop where
 ex : ∃ vp vu, v = .agg #[.int .i64 r.kind, .int .i64 r.tid, .int .i64 r.id, .bool r.yes, vp, vu] /\ LInts w vp r.parts /\ LPuts w vu r.puts
 nums : I64 r.kind /\ I64 r.tid /\ I64 r.id
 parts : ∀ x ∈ r.parts, I64 x
 puts : ∀ p ∈ r.puts, PutL p
theorem ArgRec.keep {w w' : World} {v : Value} {r : RecM} (h : ArgRec w v r) (t : Tch No w w') : ArgRec w' v r := by
 obtain ⟨vp, vu, h0, h1, h2⟩ := h.ex
 exact ⟨⟨vp, vu, h0, h1.keep t, h2.keep t⟩, h.nums, h.parts, h.puts⟩
structure ArgS (w : World) (vm vw ve vo vn : Value) (s : StM) (prb : List (BrM × Value)) (pro prn : List (PendM × Value)) : Prop where
 fb : prb.map Prod.fst = s.waits
 fo : pro.map Prod.fst = s.opens
 fn : prn.map Prod.fst = s.noes
 ms : CellsL w vm s.ms.length 6 (s.ms.flatMap encMsg)
 cb : CellsL w vw prb.length 2 (prb.flatMap (encPr fun q : BrM => q.tid))
 ib : ∀ p ∈ prb, LPuts w p.2 p.1.puts
 en : CellsL w ve s.ends.length 2 (s.ends.flatMap encEnd)
 co : CellsL w vo pro.length 2 (pro.flatMap (encPr fun q : PendM => q.tid))
 io : ∀ p ∈ pro, LInts w p.2 p.1.parts
 cn : CellsL w vn prn.length 2 (prn.flatMap (encPr fun q : PendM => q.tid))
 inn : ∀ p ∈ prn, LInts w p.2 p.1.parts
 nums : I64 s.broker /\ I64 s.nid /\ I64 s.nseq /\ I64 s.tx
 okm : ∀ m ∈ s.ms, MsgL m
 okb : ∀ b ∈ s.waits, I64 b.tid /\ ∀ p ∈ b.puts, PutL p
 oke : ∀ e ∈ s.ends, I64 e.tid
 oko : ∀ p ∈ s.opens, I64 p.tid /\ ∀ x ∈ p.parts, I64 x
 okn : ∀ p ∈ s.noes, I64 p.tid /\ ∀ x ∈ p.parts, I64 x
 lm : s.ms.length * 64 <= 140737488351232
 lb : prb.length * 32 <= 140737488351232
 le : s.ends.length * 16 <= 140737488351232
 lo : pro.length * 32 <= 140737488351232
 ln : prn.length * 32 <= 140737488351232
def ArgSt (w : World) (v : Value) (s : StM) : Prop :=
 ∃ vm vw ve vo vn prb pro prn, v = .agg #[.int .i64 s.broker, .int .i64 s.nid, .int .i64 s.nseq, .int .i64 s.tx, vm, vw, ve, vo, vn] /\ ArgS w vm vw ve vo vn s prb pro prn
theorem ArgS.keep {w w' : World} {vm vw ve vo vn : Value} {s : StM} {prb : List (BrM × Value)} {pro prn : List (PendM × Value)} (h : ArgS w vm vw ve vo vn s prb pro prn) (t : Tch No w w') : ArgS w' vm vw ve vo vn s prb pro prn :=
 ⟨h.fb, h.fo, h.fn, h.ms.keep t, h.cb.keep t, fun p hp => (h.ib p hp).keep t, h.en.keep t, h.co.keep t, fun p hp => (h.io p hp).keep t, h.cn.keep t, fun p hp => (h.inn p hp).keep t, h.nums, h.okm, h.okb, h.oke, h.oko, h.okn, h.lm, h.lb, h.le, h.lo, h.ln⟩
theorem ArgSt.keep {w w' : World} {v : Value} {s : StM} (h : ArgSt w v s) (t : Tch No w w') : ArgSt w' v s := by
 obtain ⟨vm, vw, ve, vo, vn, prb, pro, prn, e, h⟩ := h
 exact ⟨vm, vw, ve, vo, vn, prb, pro, prn, e, h.keep t⟩
def encRp (p : RecM × Value × Value) : List Value := [.int .i64 p.1.kind, .int .i64 p.1.tid, .int .i64 p.1.id, .bool p.1.yes, p.2.1, p.2.2]
def ArgRs (w : World) (v : Value) (l : List RecM) : Prop :=
 ∃ prs : List (RecM × Value × Value), prs.map Prod.fst = l /\ CellsL w v prs.length 6 (prs.flatMap encRp) /\ ∀ p ∈ prs, ArgRec w (.agg #[.int .i64 p.1.kind, .int .i64 p.1.tid, .int .i64 p.1.id, .bool p.1.yes, p.2.1, p.2.2]) p.1
section
variable {H : Type} {enc : TypeId × Value -> H} {w : World} {base : Nat}
theorem wf_i64 {n : Int} (h : (Lit.int .i64 n).wf = true) : I64 n := by
 simp only [Lit.wf, IntKind.min, IntKind.max, IntKind.signed, IntKind.bits] at h
 simp at h; unfold I64; omega
theorem txt_of {s : ByteArray} (h : s.size <= maxLen) : ∃ q : Txt, Value.string s = strV q /\ TxtL q := by
 refine ⟨s.data.toList, by simp [strV], ?_⟩
 unfold TxtL
 have : s.data.toList.length = s.size := Array.length_toList (xs := s.data)
 rw [this]; unfold maxLen at h; omega
theorem open_i64 {t : TypeId} {m : Nat} {c : Value} {y : DataW H × List MemPlace} (ht : Tryz.prog.underlying t = some (.int .i64)) (h : DataW.trod enc Tryz.prog w base (fun _ => true) true m t [c] = some y) : ∃ n, c = .int .i64 n /\ I64 n := by
 obtain ⟨n, h1, _, h2⟩ := DataW.trod_int ht h
 simp only [List.cons.injEq, and_true] at h1
 exact ⟨n, h1, wf_i64 h2⟩
theorem open_txt {t : TypeId} {m : Nat} {c : Value} {y : DataW H × List MemPlace} (ht : Tryz.prog.underlying t = some .string) (h : DataW.trod enc Tryz.prog w base (fun _ => true) true m t [c] = some y) : ∃ q, c = strV q /\ TxtL q := by
 obtain ⟨s, h1, _, h2⟩ := DataW.trod_string ht h
 simp only [List.cons.injEq, and_true] at h1
 obtain ⟨q, e, hq⟩ := txt_of h2
 exact ⟨q, by rw [h1, e], hq⟩
theorem open_tru {t : TypeId} {m : Nat} {c : Value} {y : DataW H × List MemPlace} (ht : Tryz.prog.underlying t = some .bool) (h : DataW.trod enc Tryz.prog w base (fun _ => true) true m t [c] = some y) : ∃ b, c = .bool b := by
 obtain ⟨b, h1, _⟩ := DataW.trod_bool ht h
 simp only [List.cons.injEq, and_true] at h1
 exact ⟨b, h1⟩
theorem open_intsL {m : Nat} {c : Value} {y : DataW H × List MemPlace} (h : DataW.trod enc Tryz.prog w base (fun _ => true) true m 31 [c] = some y) (hw : ∀ n ∈ y.1.weights Tryz.prog 31, n <= reachBytes) : ∃ l, LInts w c l /\ ∀ x ∈ l, I64 x := by
 obtain ⟨v, l, e, h1, h2, _⟩ := open_listW (e1 := fun x : Int => [.int .i64 x]) (ok := I64) (size := 1) (bytes := 8) Tryz.underlying31 (by kernel_rfl) (by kernel_rfl) (by omega) (fun _ => rfl) h hw (fun m cs y hy => by
  obtain ⟨n, h1, _, h2⟩ := DataW.trod_int Tryz.underlying3 hy
  exact ⟨n, h1, wf_i64 h2⟩)
 simp only [List.cons.injEq, and_true] at e
 subst e
 refine ⟨l, ?_, h2⟩
 have : l.flatMap (fun x : Int => [Value.int .i64 x]) = l.map (fun x => .int .i64 x) := List.map_eq_flatMap.symm
 unfold LInts
 rwa [this] at h1
theorem open_putsL {m : Nat} {c : Value} {y : DataW H × List MemPlace} (h : DataW.trod enc Tryz.prog w base (fun _ => true) true m 32 [c] = some y) (hw : ∀ n ∈ y.1.weights Tryz.prog 32, n <= reachBytes) : ∃ l, LPuts w c l /\ ∀ x ∈ l, PutL x := by
 obtain ⟨v, l, e, h1, h2, _⟩ := open_listW (e1 := encPut) (ok := PutL) (size := 2) (bytes := 32) Tryz.underlying32 (by kernel_rfl) (by kernel_rfl) (by omega) (fun _ => rfl) h hw (fun m cs y hy => by
  obtain ⟨hl, g⟩ := open_fieldsW Tryz.underlying45 (by kernel_rfl) (by kernel_rfl) hy
  obtain ⟨c0, _, _, q0, e0, _⟩ := g 0 _ rfl
  obtain ⟨c1, _, _, q1, e1, _⟩ := g 1 _ rfl
  obtain ⟨a, rfl, ha⟩ := open_txt Tryz.underlying9 e0
  obtain ⟨b, rfl, hb⟩ := open_txt Tryz.underlying9 e1
  match cs, hl with
  | [x0, x1], _ =>
   simp only [List.getElem?_cons_zero, List.getElem?_cons_succ, Option.some.injEq] at q0 q1
   subst q0 q1
   exact ⟨⟨a, b⟩, rfl, ha, hb⟩)
 simp only [List.cons.injEq, and_true] at e
 subst e
 exact ⟨l, h1, h2⟩
theorem open_listV {P : Program} {α : Type} {e1 : α -> List Value} {ok : α -> Prop} {size bytes : Nat} {t e : TypeId} {fuel : Nat} {cs : List Value} {x : DataW H × List MemPlace} (ht : P.underlying t = some (.slice e)) (hc : P.cellsOf e = size) (hb : P.bytesOf e = bytes) (hs : 0 < size)
  (he : ∀ x, (e1 x).length = size) (h : DataW.trod enc P w base (fun _ => true) true fuel t cs = some x) (hw : ∀ n ∈ x.1.weights P t, n <= reachBytes)
  (one : ∀ m cs y, DataW.trod enc P w base (fun _ => true) true m e cs = some y -> (∀ n ∈ y.1.weights P e, n <= reachBytes) -> ∃ x, cs = e1 x /\ ok x) :
  ∃ v, ∃ l : List α, cs = [v] /\ CellsL w v l.length size (l.flatMap e1) /\ (∀ x ∈ l, ok x) /\ l.length * bytes <= 140737488351232 := by
 rcases open_slice ht h with ⟨rfl, rfl⟩ | ⟨a, len, cap, m, n, D, Pl, rfl, hbs, hl, hm, hmm, rfl, hi⟩
 ·exact ⟨_, [], rfl, CellsL.nil _ _, fun x hx => (by cases hx), by simp⟩
 ·have him : m = cap := by rw [hmm]; simp
  subst him
  have wt : ∀ i, i < len -> ∀ n ∈ (D i).weights P e, n <= reachBytes := by
   intro i hi2 n hn
   refine hw n ?_
   simp only [DataW.weights, ht]
   refine List.mem_cons_of_mem _ (List.mem_append_left _ ?_)
   have mem : ∀ (l : List (DataW H)) (d : DataW H), d ∈ l -> ∀ n ∈ d.weights P e, n ∈ DataW.weightsAll P e l := by
    intro l
    induction l with
    | nil => intro d hd; cases hd
    | cons a r ih =>
     intro d hd n hn
     simp only [DataW.weightsAll, List.mem_append]
     rcases List.mem_cons.1 hd with rfl | hd
     ·exact .inl hn
     ·exact .inr (ih d hd n hn)
   exact mem _ _ (List.mem_map.2 ⟨i, List.mem_range.2 hi2, rfl⟩) n hn
  have key : ∀ k, k <= len -> ∃ l : List α, l.length = k /\ (∀ x ∈ l, ok x) /\ ∀ i (h : i < l.length), w.cells? base (a.add (i * size)) size = some (e1 l[i]) := by
   intro k
   induction k with
   | zero => intro _; exact ⟨[], rfl, fun x hx => (by cases hx), fun i h => absurd h (Nat.not_lt_zero _)⟩
   | succ k ih =>
    intro hk
    obtain ⟨l, h1, h2, h3⟩ := ih (by omega)
    obtain ⟨cs', g1, g2⟩ := hi k (by omega)
    obtain ⟨x, rfl, hx⟩ := one _ _ _ g2 (wt k (by omega))
    rw [hc] at g1
    refine ⟨l ++ [x], by simp [h1], fun y hy => ?_, fun i hi2 => ?_⟩
    ·rcases List.mem_append.1 hy with hy | hy
     ·exact h2 y hy
     ·simp at hy; subst hy; exact hx
    ·by_cases hil : i < l.length
     ·rw [List.getElem_append_left hil]; exact h3 i hil
     ·have : i = k := by simp [h1] at hi2; omega
      subst this
      rw [List.getElem_append_right (by omega)]
      simpa [h1] using g1
  obtain ⟨l, h1, h2, h3⟩ := key len (Nat.le_refl _)
  refine ⟨_, l, rfl, ⟨flat_len e1 size he l, .inr ⟨a, m, by rw [h1], by omega, hm, fun j x hx => ?_⟩⟩, h2, ?_⟩
  ·have hj : j < l.length * size := by have := (List.getElem?_eq_some_iff.1 hx).1; rwa [flat_len e1 size he] at this
   have hjd : j = j / size * size + j % size := by rw [Nat.mul_comm]; exact (Nat.div_add_mod j size).symm
   have hil : j / size < l.length := Nat.div_lt_of_lt_mul (by rw [Nat.mul_comm]; exact hj)
   have hk := Nat.mod_lt j hs
   obtain ⟨_, _, hat⟩ := World.cells?_some (h3 _ hil)
   have g := hat _ hk
   rw [add_add, <- hjd] at g
   rw [hjd, flat_get e1 size he l _ _ hil hk] at hx
   rw [g, hx]
  ·have := hw ((((List.range len).map D).length + ((List.range (m - len)).map fun j => D (len + j)).length) * bytes) (by simp only [DataW.weights, ht, hb]; exact List.mem_cons_self)
   simp only [List.length_map, List.length_range, reachBytes] at this
   have h5 : len * bytes <= (len + (m - len)) * bytes := Nat.mul_le_mul_right _ (by omega)
   rw [h1]
   omega
theorem open_rec {m : Nat} {cs : List Value} {y : DataW H × List MemPlace} (h : DataW.trod enc Tryz.prog w base (fun _ => true) true m 34 cs = some y) (hw : ∀ n ∈ y.1.weights Tryz.prog 34, n <= reachBytes) :
  ∃ r vp vu, cs = [.int .i64 r.kind, .int .i64 r.tid, .int .i64 r.id, .bool r.yes, vp, vu] /\ ArgRec w (.agg #[.int .i64 r.kind, .int .i64 r.tid, .int .i64 r.id, .bool r.yes, vp, vu]) r := by
 obtain ⟨hl, g⟩ := open_fieldsW Tryz.underlying34 (by kernel_rfl) (by kernel_rfl) h
 obtain ⟨c0, _, _, q0, e0, _⟩ := g 0 _ rfl
 obtain ⟨c1, _, _, q1, e1, _⟩ := g 1 _ rfl
 obtain ⟨c2, _, _, q2, e2, _⟩ := g 2 _ rfl
 obtain ⟨c3, _, _, q3, e3, _⟩ := g 3 _ rfl
 obtain ⟨c4, _, _, q4, e4, w4⟩ := g 4 _ rfl
 obtain ⟨c5, _, _, q5, e5, w5⟩ := g 5 _ rfl
 obtain ⟨n0, rfl, h0⟩ := open_i64 Tryz.underlying3 e0
 obtain ⟨n1, rfl, h1⟩ := open_i64 Tryz.underlying2 e1
 obtain ⟨n2, rfl, h2⟩ := open_i64 Tryz.underlying2 e2
 obtain ⟨n3, rfl⟩ := open_tru Tryz.underlying4 e3
 obtain ⟨l4, h4, k4⟩ := open_intsL e4 (fun n hn => hw n (w4 n hn))
 obtain ⟨l5, h5, k5⟩ := open_putsL e5 (fun n hn => hw n (w5 n hn))
 match cs, hl with
 | [x0, x1, x2, x3, x4, x5], _ =>
  simp only [List.getElem?_cons_zero, List.getElem?_cons_succ, Option.some.injEq] at q0 q1 q2 q3 q4 q5
  subst q0 q1 q2 q3 q4 q5
  exact ⟨⟨n0, n1, n2, n3, l4, l5⟩, x4, x5, rfl, ⟨x4, x5, rfl, h4, h5⟩, ⟨h0, h1, h2⟩, k4, k5⟩
theorem open_recs {m : Nat} {cs : List Value} {y : DataW H × List MemPlace} (h : DataW.trod enc Tryz.prog w base (fun _ => true) true m 22 cs = some y) (hw : ∀ n ∈ y.1.weights Tryz.prog 22, n <= reachBytes) : ∃ v l, cs = [v] /\ ArgRs w v l := by
 obtain ⟨v, l, e, h1, h2, h3⟩ := open_listV (e1 := encRp) (ok := fun p => ArgRec w (.agg #[.int .i64 p.1.kind, .int .i64 p.1.tid, .int .i64 p.1.id, .bool p.1.yes, p.2.1, p.2.2]) p.1) (size := 6) (bytes := 80) Tryz.underlying22 (by kernel_rfl) (by kernel_rfl) (by omega) (fun _ => rfl) h hw (fun m cs y hy hwy => by
  obtain ⟨r, vp, vu, rfl, h1⟩ := open_rec hy hwy
  exact ⟨(r, vp, vu), rfl, h1⟩)
 exact ⟨v, _, e, l, rfl, h1, h2⟩
end
end
section
open Go.RowKit Go.Maps
def stEmpty (br nid nseq : Int) : Value := .agg #[.int .i64 br, .int .i64 nid, .int .i64 nseq, .int .i64 0, .slice none 0 0, .slice none 0 0, .slice none 0 0, .slice none 0 0, .slice none 0 0]
theorem isst_empty (w : World) (br nid nseq : Int) : IsSt w (stEmpty br nid nseq) ⟨br, nid, nseq, 0, [], [], [], [], []⟩ :=
 ⟨_, _, _, _, _, rfl, CellsAt.nil _ _, ⟨[], rfl, CellsAt.nil _ _, fun i h => absurd h (Nat.not_lt_zero _)⟩, CellsAt.nil _ _, ⟨[], rfl, CellsAt.nil _ _, fun i h => absurd h (Nat.not_lt_zero _)⟩, ⟨[], rfl, CellsAt.nil _ _, fun i h => absurd h (Nat.not_lt_zero _)⟩⟩
theorem snew_any (b : Int) (w : World) :
  Calls Tryz.prog 17 #[.int .i64 b] w fun e w' => ∃ v, e = .returned v /\ IsSt w' v (newM b) /\ Tch No w w' := by
 have HB := Lib.hid (fun W => kbroker_any b W)
 have HN : Hid (newM b = if brokerB b = true then ⟨b, 1, 1, 0, [], [], [], [], []⟩ else ⟨0, 0, 0, 0, [], [], [], [], []⟩) := by
  rw [Hid]; unfold newM brokerB; simp
 obtain ⟨x, hx⟩ : ∃ x, brokerB b = x := ⟨_, rfl⟩
 rw [hx] at HB HN
 clear hx
 cases x with
 | true =>
  go_enter Tryz.func17, Tryz.ntmps17
  go_wp2_with (go_at_call 53; refine (HB.out _).mono ?_; rintro e w' ⟨rfl, rfl⟩)
  exact bodyPost_ret (v := stEmpty b 1 1) (by unfold stEmpty; simp [results, Tryz.results17, go_sem]) rfl ⟨_, rfl, by rw [HN.out]; exact isst_empty _ _ _ _, Tch.alloc _ _⟩
 | false =>
  go_enter Tryz.func17, Tryz.ntmps17
  go_wp2_with (go_at_call 53; refine (HB.out _).mono ?_; rintro e w' ⟨rfl, rfl⟩)
  exact bodyPost_ret (v := stEmpty 0 0 0) (by unfold stEmpty; simp [results, Tryz.results17, go_sem]) rfl ⟨_, rfl, by rw [HN.out]; exact isst_empty _ _ _ _, Tch.alloc _ _⟩
end
section
open Go.RowKit Go.Maps
def OwnB (bx : Nat) (e : TypeId) (size n : Nat) (cs : List Value) (v : Value) (W : World) : Prop := W.ownsRow 0 e size v n cs /\ ∀ b, v.ownBlock = some b -> b ≠ bx
theorem OwnB.tch {bx : Nat} {e : TypeId} {size n : Nat} {cs : List Value} {v : Value} {W W' : World} (h : OwnB bx e size n cs v W) (t : Tch (fun k => k = bx) W W') : OwnB bx e size n cs v W' := ⟨own_tch h.1 t (fun k hk e => h.2 k hk e), h.2⟩
end
section
open Go.RowKit Go.Maps
theorem run_appL {t e : TypeId} {size bytes : Nat} (E : ElT t e size bytes) (w : World) (ty : TypeId) (v : Value) (n : Nat) (xs : List Value) (hown : w.ownsRow 0 e size v n xs) (u : Value) (m : Nat) (news : List Value) (hu : CellsL w u m size news) (h1 : Ones news) (hlen : n + m <= 140737488351232) (hby : (n + m) * bytes <= 140737488351232) :
  ∃ v' w', (Builtin.append_ #[t, t] ty #[v, u]).run Tryz.prog w = .ok v' w' /\ AppE e size w v (n + m) (xs ++ news) v' w' := by
 obtain ⟨i0, z, hi0, hz0, hz1, hz2, hzs⟩ := E.info
 have hb := E.byt
 rcases hu.2 with ⟨rfl, rfl⟩ | ⟨a, c, rfl, _, _, hc⟩
 ·have : news = [] := List.eq_nil_of_length_eq_zero (by simpa using hu.1)
  subst this
  have hr := run_append_owned_none (P := Tryz.prog) w 0 t ty e i0 size E.und hi0 v n xs hown
  refine ⟨v, w, hr, by simpa using hown, World.grownBy.refl _ _, .inl rfl, ?_⟩
  rw [Nat.add_zero]
  refine ⟨fun h => ⟨h, ?_⟩, fun h => h.1⟩
  rcases hown.2 with ⟨_, h0⟩ | ⟨g, cap, cur, h2, _⟩
  ·exact h0
  ·rw [h2] at h; cases h
 ·obtain ⟨v', w', hr, q1, q2, q3, q4⟩ := run_append_own_at (P := Tryz.prog) w 0 t ty e i0 z size bytes E.und hi0 hz0 hz1 hz2 hzs E.pos v n xs hown a m c news hu.1 (fun j u hj => hc j u hj) h1 (by simp only [maxLen]; omega) (by omega) (Nat.zero_le _)
  refine ⟨v', w', hr, q1, q2, q4, q3.trans ⟨fun h => ⟨h.1, ?_⟩, fun h => ⟨h.1, by omega⟩⟩⟩
  obtain ⟨h2, h3⟩ := h
  subst h3
  rcases hown.2 with ⟨_, h0⟩ | ⟨g, cap, cur, h4, _⟩
  ·omega
  ·rw [h2] at h4; cases h4
theorem wp_appL {t e : TypeId} {size bytes : Nat} (E : ElT t e size bytes) {o : Oper} {a : Act} {w : World} {K : Act -> World -> Prop} {Q : Exit -> Act -> World -> Prop} (sl x : Operand)
  (ho : o.op = .call { callee := .builtin .append, args := #[sl, x], argTypes := #[t, t] })
  (v : Value) (n : Nat) (xs : List Value) (hs : a.eval sl = v) (hown : w.ownsRow 0 e size v n xs) (u : Value) (m : Nat) (news : List Value) (hx : a.eval x = u) (hu : CellsL w u m size news) (h1 : Ones news) (hlen : n + m <= 140737488351232) (hby : (n + m) * bytes <= 140737488351232)
  (h : ∀ a' n' cap' w', AppE e size w v (n + m) (xs ++ news) (.slice a' n' cap') w' -> Hid (n' = n + m) -> K (a.put o.dst (.slice a' n' cap')) w') :
  Oper.wp Tryz.prog o a w K Q := by
 obtain ⟨v', w', hr, hA⟩ := run_appL E w o.type v n xs hown u m news hu h1 hlen hby
 obtain ⟨a', cap', rfl, _, _⟩ := own_shape hA.own
 unfold Oper.wp execOp
 simp only [ho, resolve, invoke, builtin, Sem.run_bind, Sem.run_pure, Result.andThen_ok, List.map_toArray, List.map_cons, List.map_nil, hs, hx, hr]
 exact h _ _ _ _ hA rfl
theorem wpList_appL {t e : TypeId} {size bytes : Nat} (E : ElT t e size bytes) (w : World) {ops : Array Oper} {rest : List Oper} {o : Oper} {a : Act} {Q : Exit -> Act -> World -> Prop} (hgd : o.guard = none) (sl x : Operand)
  (ho : o.op = .call { callee := .builtin .append, args := #[sl, x], argTypes := #[t, t] })
  (v : Value) (n : Nat) (xs : List Value) (hs : a.eval sl = v) (hown : w.ownsRow 0 e size v n xs) (u : Value) (m : Nat) (news : List Value) (hx : a.eval x = u) (hu : CellsL w u m size news) (h1 : Ones news) (hlen : n + m <= 140737488351232) (hby : (n + m) * bytes <= 140737488351232)
  (h : ∀ a' n' cap' w', AppE e size w v (n + m) (xs ++ news) (.slice a' n' cap') w' -> Hid (n' = n + m) -> wpList Tryz.prog ops Q rest (a.put o.dst (.slice a' n' cap')) w') :
  wpList Tryz.prog ops Q (o :: rest) a w :=
 wpList_plain hgd fun K hK => wp_appL E sl x ho v n xs hs hown u m news hx hu h1 hlen hby (fun a' n' cap' w' hA hn => hK _ _ (h a' n' cap' w' hA hn))
structure CpyO (w w' : World) (CM CW CE CO CN : List Value) (nm nw ne no nn : Nat) (vm vw ve vo vn : Value) : Prop where
 t : Tch No w w'
 om : OwnN w 50 6 nm CM vm w'
 ow : OwnN w 95 2 nw CW vw w'
 oe : OwnN w 71 2 ne CE ve w'
 oo : OwnN w 75 2 no CO vo w'
 on : OwnN w 75 2 nn CN vn w'
 apart : ∀ b, vo.ownBlock = some b -> vn.ownBlock ≠ some b
end
end Go.Proofs.YtafndmnbnmlklaaGreat
