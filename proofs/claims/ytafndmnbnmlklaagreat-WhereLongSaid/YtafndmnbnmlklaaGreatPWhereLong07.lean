/- Part 7 of what the proof of WhereLong rests on. No condition. -/
import Derived.Test.YtafndmnbnmlklaaGreatPWhereLong06
namespace Go.Proofs.YtafndmnbnmlklaaGreat
set_option maxRecDepth 100000
set_option maxHeartbeats 60000000
set_option linter.unusedVariables false
set_option linter.unusedSimpArgs false
set_option linter.unusedSectionVars false
namespace Ev
open Go Go.RowKit Go.Maps
def zerosC (z : List C) (n : Nat) : List C := (List.range n).map fun i => z.getD (i % z.length) .nilp
theorem zeros_ok {σ : Nat -> Blk} {D : Nat -> Prop} {z : List C} {m : Array Value} {n : Nat} (h : RL σ D z m.toList) (hz : 0 < z.length) : RL σ D (zerosC z n) (madeCells m n).toList := by
 have hl := h.length
 rw [Array.length_toList] at hl
 refine RL.of (by simp [zerosC, madeCells]) (fun j c e => ?_)
 simp only [zerosC, List.getElem?_map, Option.map_eq_some_iff] at e
 obtain ⟨i, h1, h2⟩ := e
 obtain ⟨hlt, h1⟩ := List.getElem?_eq_some_iff.1 h1
 have hi : i = j := by rw [<- h1]; simp
 subst hi
 have hm := Nat.mod_lt i hz
 have hc : z[i % z.length]? = some c := by
  rw [List.getElem?_eq_getElem hm]
  rw [List.getD_eq_getElem?_getD, List.getElem?_eq_getElem hm] at h2
  simpa using h2
 obtain ⟨v, g1, g2⟩ := h.get hc
 refine ⟨v, ?_, g2⟩
 have hj : i < n := by simpa using hlt
 rw [Array.getElem?_toList] at g1 ⊢
 have hm2 : i % m.size < m.size := by rw [hl]; exact hm
 have e1 : m[i % m.size] = v := by
  have : m[i % m.size]? = some v := by rw [hl]; exact g1
  exact (Array.getElem?_eq_some_iff.1 this).2
 simp [madeCells, Array.getElem?_map, Array.getElem?_range, hj, getElem!_pos m (i % m.size) hm2, e1]
theorem zeroCells_eq (z : Array Value) (n : Nat) : Builtin.zeroCells z n = madeCells z (n * z.size) := rfl
def fillC (place : Nat -> Option (Nat × Nat)) (cells : List C) : List (Nat × V) -> Option (List C)
 | [] => some cells
 | (i, v) :: rest => match place i with
  | none => none
  | some (off, size) => if v.cells.length = size /\ off + v.cells.length <= cells.length then fillC place (cells.take off ++ v.cells ++ cells.drop (off + v.cells.length)) rest else none
def RP (σ : Nat -> Blk) (D : Nat -> Prop) : List (Nat × V) -> List (Nat × Value) -> Prop
 | [], [] => True
 | a :: l, b :: m => (a.1 = b.1 /\ RV σ D a.2 b.2) /\ RP σ D l m
 | _, _ => False
theorem foldl_set : ∀ (vs : List Value) (k off : Nat) (a : Array Value), off + k + vs.length <= a.size -> ((vs.zipIdx k).foldl (fun cs (p : Value × Nat) => cs.setIfInBounds (off + p.2) p.1) a).toList = a.toList.take (off + k) ++ vs ++ a.toList.drop (off + k + vs.length)
 | [], k, off, a, _ => by simp
 | v :: rest, k, off, a, h => by
  rw [List.zipIdx_cons, List.foldl_cons, foldl_set rest (k + 1) off _ (by simp at h ⊢; omega)]
  have e := list_seg_step a.toList (off + k) v rest (by simp at h ⊢; omega)
  simpa [Array.toList_setIfInBounds, Nat.add_assoc] using e
theorem fill_ok {σ : Nat -> Blk} {D : Nat -> Prop} {place : Nat -> Option (Nat × Nat)} : ∀ {ps : List (Nat × V)} {qs : List (Nat × Value)} {cells r : List C} {m : Array Value}, RP σ D ps qs -> RL σ D cells m.toList -> fillC place cells ps = some r -> ∃ m' : Array Value, RL σ D r m'.toList /\ Instr.fill place m qs = some m'
 | [], [], cells, r, m, _, hm, h => by
  simp only [fillC, Option.some.injEq] at h; subst h
  exact ⟨m, hm, rfl⟩
 | (i, v) :: ps, (j, u) :: qs, cells, r, m, hp, hm, h => by
  obtain ⟨⟨h1, h2⟩, h3⟩ := hp
  simp only at h1 h2
  subst h1
  simp only [fillC] at h
  cases hpl : place i with
  | none => rw [hpl] at h; cases h
  | some os =>
   obtain ⟨off, size⟩ := os
   rw [hpl] at h
   simp only at h
   split at h
   ·rename_i hc
    have hu := h2.cells
    have hul := hu.length
    rw [Array.length_toList] at hul
    have hml := hm.length
    rw [Array.length_toList] at hml
    have hfold := foldl_set u.cells.toList 0 off m (by simp; omega)
    have hnew : RL σ D (cells.take off ++ v.cells ++ cells.drop (off + v.cells.length)) (u.cells.zipIdx.foldl (fun cs (p : Value × Nat) => cs.setIfInBounds (off + p.2) p.1) m).toList := by
     have e : u.cells.zipIdx.foldl (fun cs (p : Value × Nat) => cs.setIfInBounds (off + p.2) p.1) m = (u.cells.toList.zipIdx 0).foldl (fun cs (p : Value × Nat) => cs.setIfInBounds (off + p.2) p.1) m := by
      rw [<- Array.toList_zipIdx, Array.foldl_toList]
     rw [e, hfold]
     simp only [Nat.add_zero, Array.length_toList, hul]
     exact ((hm.take off).append hu).append (hm.drop _)
    obtain ⟨m', g1, g2⟩ := fill_ok h3 hnew h
    refine ⟨m', g1, ?_⟩
    simp only [Instr.fill, hpl]
    rw [if_neg (by simp; omega)]
    exact g2
   ·cases h
 | [], _ :: _, _, _, _, hp, _, _ => hp.elim
 | _ :: _, [], _, _, _, hp, _, _ => hp.elim
def absP (A : Operand -> Option S) : List (Nat × Operand) -> Option (List (Nat × V))
 | [] => some []
 | (i, x) :: l => match S.v? (A x), absP A l with | some v, some m => some ((i, v) :: m) | _, _ => none
section
variable {P : Program} {ρ : Operand -> Value} {o : Oper} {σ : Nat -> Blk} {D : Nat -> Prop} {w : World} {H : Heap} {n : Nat} {A : Operand -> Option S}
theorem absP_ok (hA : Eqv σ D A ρ) : ∀ {l : List (Nat × Operand)} {m : List (Nat × V)}, absP A l = some m -> RP σ D m (l.map fun (i, x) => (i, ρ x))
 | [], m, h => by simp only [absP, Option.some.injEq] at h; subst h; trivial
 | (i, x) :: l, m, h => by
  simp only [absP] at h
  split at h
  ·rename_i v m' h1 h2
   simp only [Option.some.injEq] at h; subst h
   exact ⟨⟨rfl, hA.v h1⟩, absP_ok hA h2⟩
  ·cases h
def zeroOf (P : Program) (t : TypeId) : Option (Value × List C) := match (P.info? t).bind (·.zero) with
 | some z => (absV z).map fun x => (z, x.cells)
 | none => none
theorem zeroOf_ok {t : TypeId} {z : Value} {l : List C} (h : zeroOf P t = some (z, l)) : RL σ D l z.cells.toList /\ (∀ w, (zeroValue t).run P w = .ok z w) /\ ∃ i, P.info? t = some i /\ i.zero = some z := by
 unfold zeroOf at h
 split at h
 ·rename_i z' hz
  rw [Option.map_eq_some_iff] at h
  obtain ⟨x, h1, h2⟩ := h
  cases h2
  cases hi : P.info? t with
  | none => rw [hi] at hz; cases hz
  | some i =>
   rw [hi] at hz
   have hz' : i.zero = some z := hz
   exact ⟨(absV_ok h1).cells, fun w => by simp [zeroValue, typeInfo, hi, hz'], i, rfl, hz'⟩
 ·cases h
def placesOf (P : Program) (fs : List Field) : Option (List (Nat × Nat)) := fs.mapM (fun f => (P.info? f.type).map fun i => (f.offset, i.size))
def aBuild (P : Program) (A : Operand -> Option S) (t : TypeId) (parts : Array (Nat × Operand)) : Option (S × Ef) := match absP A parts.toList, zeroOf P t, P.underlying t with
 | some ps, some (_, z), some (.struct fs) => match placesOf P fs.toList with
  | some pl => (fillC (pl.toArray[·]?) z ps).map fun r => (.v (.agg r), .no 0)
  | none => none
 | some ps, some (_, z), some (.array _ e) => match szOf P e with
  | some k => (fillC (fun i => some (i * k, k)) z ps).map fun r => (.v (.agg r), .no 0)
  | none => none
 | _, _, _ => none
theorem build_ok {t : TypeId} {parts : Array (Nat × Operand)} {s : S} {e : Ef} (ho : o.op = .build t parts) (hA : Eqv σ D A ρ) (h : aBuild P A t parts = some (s, e)) (hs : Sat σ D (rst (tb e.F) H) w) : AOK P ρ o σ D w H n s e := by
 unfold aBuild at h
 have hparts : ∀ {l}, absP A parts.toList = some l -> RP σ D l ((parts.map fun (i, x) => (i, ρ x)).toList) := fun hl => by
  rw [Array.toList_map]; exact absP_ok hA hl
 split at h
 ·rename_i ps z0 z fs h1 h2 h3
  split at h
  ·rename_i pl hpl
   rw [Option.map_eq_some_iff] at h
   obtain ⟨r, h4, h5⟩ := h
   cases h5
   obtain ⟨hz, _, i, hi, hiz⟩ := zeroOf_ok (σ := σ) (D := D) h2
   obtain ⟨m', g1, g2⟩ := fill_ok (hparts h1) hz h4
   refine ⟨.value _, .agg m', _, _, did_no hs ?_ (.inl rfl) ⟨m'.toList, g1, by simp⟩⟩
   have hb : P.built t (parts.map fun (i, x) => (i, ρ x)).toList = some m' := by
    unfold Program.built
    simp only [hi, h3, hiz, show fs.toList.mapM (fun f => (P.info? f.type).map fun i => (f.offset, i.size)) = some pl from hpl]
    exact g2
   unfold execOp; rw [ho]
   simp [run_build w t _ m' hb]
  ·cases h
 ·rename_i ps z0 z len el h1 h2 h3
  split at h
  ·rename_i k hk
   rw [Option.map_eq_some_iff] at h
   obtain ⟨r, h4, h5⟩ := h
   cases h5
   obtain ⟨hz, _, i, hi, hiz⟩ := zeroOf_ok (σ := σ) (D := D) h2
   obtain ⟨m', g1, g2⟩ := fill_ok (hparts h1) hz h4
   refine ⟨.value _, .agg m', _, _, did_no hs ?_ (.inl rfl) ⟨m'.toList, g1, by simp⟩⟩
   unfold szOf at hk
   rw [Option.map_eq_some_iff] at hk
   obtain ⟨ie, he1, he2⟩ := hk
   have hb : P.built t (parts.map fun (i, x) => (i, ρ x)).toList = some m' := by
    unfold Program.built
    simp only [hi, h3, hiz, he1, he2]
    exact g2
   unfold execOp; rw [ho]
   simp [run_build w t _ m' hb]
  ·cases h
 ·cases h
theorem newrow_ok {s : S} {ty : TypeId} {l : List C} {m : Array Value} {v : Value} (hs : Sat σ D (rst (tb 0) H) w) (hD : ¬ D n) (hl : RL σ D l m.toList) (hv : ∀ σ' D', D' n -> σ' n = ⟨w.heap.size, m.size⟩ -> RS σ' D' s v)
  (hr : (execOp ρ o).run P w = .ok (.value v) (w.alloc (.cells m ty))) : AOK P ρ o σ D w H n s (.new 0 ⟨ty, l, false, .ok⟩) := by
 have hsm : ∀ i, D i -> at_ σ n ⟨w.heap.size, m.size⟩ i = σ i := fun i hi => at_other (fun e => by subst e; exact hD hi)
 have hlen := hl.length
 rw [Array.length_toList] at hlen
 refine ⟨_, _, _, _, did_new (k := ⟨w.heap.size, m.size⟩) hs hD hr (.inl rfl) (hv _ _ (.inr ⟨Nat.le_refl _, Nat.lt_succ_self _⟩) at_same) (Tch.alloc _ _) (Nat.le_refl _) ?_⟩
 refine ⟨m, (0, 0), by rw [at_same]; exact heap_alloc_new _ _, fun _ => rfl, by rw [at_same], by rw [at_same]; exact Nat.le_of_eq hlen.symm, fun _ => by rw [at_same]; exact hlen.symm, fun j c e => ?_⟩
 obtain ⟨u, h1, h2⟩ := hl.get e
 exact ⟨u, by simpa using h1, h2.ext hsm (fun _ h => .inl h)⟩
def aBs (P : Program) (A : Operand -> Option S) (n : Nat) (t : TypeId) (len : Nat) (parts : Array (Nat × Operand)) : Option (S × Ef) := match P.underlying t, absP A parts.toList with
 | some (.slice el), some ps => match szOf P el, zeroOf P el with
  | some (k + 1), some (_, z) => if 0 < z.length /\ len * (k + 1) <= 16777216 then (fillC (fun i => some (i * (k + 1), k + 1)) (zerosC z (len * (k + 1))) ps).map fun r => (.v (.c (.sl n 0 len (.ex len))), .new 0 ⟨el, r, false, .ok⟩) else none
  | _, _ => none
 | _, _ => none
theorem bs_ok {t : TypeId} {len : Nat} {parts : Array (Nat × Operand)} {s : S} {e : Ef} (ho : o.op = .buildSlice t len parts) (hA : Eqv σ D A ρ) (hD : n < e.n' n -> ¬ D n) (h : aBs P A n t len parts = some (s, e)) (hs : Sat σ D (rst (tb e.F) H) w) : AOK P ρ o σ D w H n s e := by
 unfold aBs at h
 split at h
 ·rename_i el ps ht h1
  split at h
  ·rename_i k z0 z hk hz0
   split at h
   ·rename_i hc
    rw [Option.map_eq_some_iff] at h
    obtain ⟨r, h4, h5⟩ := h
    cases h5
    obtain ⟨hz, hzr, _⟩ := zeroOf_ok (σ := σ) (D := D) hz0
    obtain ⟨m', g1, g2⟩ := fill_ok (absP_ok hA h1) (zeros_ok (n := len * (k + 1)) hz hc.1) h4
    refine newrow_ok (v := .slice (some ⟨w.heap.size, 0, none⟩) len len) hs (hD (Nat.lt_succ_self n)) g1 (fun σ' D' hd he => ⟨hd, by unfold adr; rw [he]⟩) ?_
    unfold execOp; rw [ho]
    have hfill : Instr.fill (fun i => some (i * (k + 1), k + 1)) ((Array.range (len * (k + 1))).map (z0.cells[· % z0.cells.size]!)) (parts.map fun (i, x) => (i, ρ x)).toList = some m' := by
     rw [Array.toList_map]; exact g2
    by_cases h0 : len * (k + 1) = 0
    ·have hl0 : len = 0 := by
      rcases Nat.mul_eq_zero.1 h0 with h | h
      ·exact h
      ·omega
     subst hl0
     have hfill0 : Instr.fill (fun i => some (i * (k + 1), k + 1)) #[] (parts.map fun (i, x) => (i, ρ x)).toList = some m' := by
      rw [<- hfill]; congr 1; simp [Array.range_zero']
     simp [Instr.buildSlice, run_underlying ht, run_sz hk, newRow, Array.range_zero']
     simp only [Array.toList_map] at hfill0
     simp [hfill0]
    ·have hc2 : ¬ (16777216 < len * (k + 1)) := by have := hc.2; omega
     simp only [Array.toList_map] at hfill
     simp [Instr.buildSlice, run_underlying ht, run_sz hk, newRow, h0, hc2, hzr, hfill]
   ·cases h
  ·cases h
 ·cases h
def capsOf (A : Operand -> Option S) : List Operand -> Option (List (Nat × Nat))
 | [] => some []
 | x :: l => match S.c? (A x), capsOf A l with | some (.ptr i off), some m => some ((i, off) :: m) | _, _ => none
theorem capsOf_ok (hA : Eqv σ D A ρ) : ∀ {l : List Operand} {m : List (Nat × Nat)}, capsOf A l = some m -> (∀ p ∈ m, D p.1) /\ l.map ρ = m.map fun p => Value.pointer (some (adr (σ p.1) p.2))
 | [], m, h => by simp only [capsOf, Option.some.injEq] at h; subst h; exact ⟨fun p hp => (by cases hp), rfl⟩
 | x :: l, m, h => by
  simp only [capsOf] at h
  split at h
  ·rename_i i off m' h1 h2
   simp only [Option.some.injEq] at h; subst h
   obtain ⟨g1, g2⟩ := capsOf_ok hA h2
   obtain ⟨k1, k2⟩ := hA.c h1
   refine ⟨fun p hp => ?_, by rw [List.map_cons, List.map_cons, k2, g2]⟩
   rcases List.mem_cons.1 hp with rfl | hp
   ·exact k1
   ·exact g1 p hp
  ·cases h
def aMf (A : Operand -> Option S) (fn : Fn) (first capt : Array Operand) : Option (S × Ef) := match fn, first.toList with
 | .func f, [] => (capsOf A capt.toList).map fun l => (.v (.c (.fn f l)), .no 0)
 | _, _ => none
theorem mf_ok {fn : Fn} {first capt : Array Operand} {s : S} {e : Ef} (ho : o.op = .makeFunc fn first capt) (hA : Eqv σ D A ρ) (h : aMf A fn first capt = some (s, e)) (hs : Sat σ D (rst (tb e.F) H) w) : AOK P ρ o σ D w H n s e := by
 unfold aMf at h
 split at h
 ·rename_i f hf
  rw [Option.map_eq_some_iff] at h
  obtain ⟨l, h1, h2⟩ := h
  cases h2
  obtain ⟨g1, g2⟩ := capsOf_ok hA h1
  have hfirst : first = #[] := by
   apply Array.ext'; exact hf
  refine ⟨.value _, .func (.func f) #[] ((l.map fun p => Value.pointer (some (adr (σ p.1) p.2))).toArray), _, _, did_no hs ?_ (.inl rfl) ⟨g1, rfl⟩⟩
  unfold execOp; rw [ho]
  have : capt.map ρ = (l.map fun p => Value.pointer (some (adr (σ p.1) p.2))).toArray := by
   apply Array.ext'
   rw [Array.toList_map, g2]
  simp [Instr.makeFunc, hfirst, this]
 ·cases h
def aMake (P : Program) (A : Operand -> Option S) (n : Nat) (t : TypeId) (l c : Operand) : Option (S × Ef) := match P.underlying t, natOf (A l), natOf (A c) with
 | some (.slice el), some a, some b => match P.info? el, zeroOf P el with
  | some i, some (_, z) => if a <= b /\ i.bytes * b <= 281474976710656 /\ b <= 1000000 /\ 0 < z.length /\ 0 < i.size then some (.v (.c (.sl n 0 a (.ex b))), .new 0 ⟨el, zerosC z (b * i.size), false, .ok⟩) else none
  | _, _ => none
 | _, _, _ => none
theorem make_ok {t : TypeId} {l c : Operand} {s : S} {e : Ef} (ho : o.op = .makeSlice t l c) (hA : Eqv σ D A ρ) (hD : n < e.n' n -> ¬ D n) (h : aMake P A n t l c = some (s, e)) (hs : Sat σ D (rst (tb e.F) H) w) : AOK P ρ o σ D w H n s e := by
 unfold aMake at h
 split at h
 ·rename_i el a b ht ha hb
  split at h
  ·rename_i i z0 z hi hz0
   split at h
   ·rename_i hc
    cases h
    obtain ⟨hz, hzr, i', hi', hz'⟩ := zeroOf_ok (σ := σ) (D := D) hz0
    rw [hi] at hi'; cases hi'
    obtain ⟨q1, e1⟩ := natOf_ok hA ha
    obtain ⟨q2, e2⟩ := natOf_ok hA hb
    have hr := run_make (P := P) w t el i z0 ht hi hz' q1 q2 (a : Int) (b : Int) (by omega) (by omega) (by have := hc.2.1; omega) (by omega)
    simp only [Int.toNat_natCast] at hr
    refine newrow_ok (v := .slice (some ⟨w.heap.size, 0, none⟩) a b) hs (hD (Nat.lt_succ_self n)) (zeros_ok (n := b * i.size) hz hc.2.2.2.1) (fun σ' D' hd he => ⟨hd, by unfold adr; rw [he]⟩) ?_
    unfold execOp; rw [ho]
    simp [e1, e2, hr]
   ·cases h
  ·cases h
 ·cases h
def aLen (P : Program) (A : Operand -> Option S) (t : TypeId) (x : Operand) : Option (S × Ef) := match S.c? (A x), P.underlying t with
 | some (.sl _ _ len _), some (.slice _) => some (.v (.c (.int .i64 len)), .no 0)
 | some .snil, some (.slice _) => some (.v (.c (.int .i64 0)), .no 0)
 | some .se, some (.slice _) => some (.v (.c (.int .i64 0)), .no 0)
 | some (.str b), some .string => some (.v (.c (.int .i64 b.length)), .no 0)
 | some .mapn, some (.map _ _) => some (.v (.c (.int .i64 0)), .no 0)
 | _, _ => none
theorem run_bi {b : Builtin} {ts : Array TypeId} {args : Array Operand} {r : Sem Value} {v : Value} {w' : World} (ho : o.op = .call { callee := .builtin b, args := args, argTypes := ts })
  (hb : ∀ cs, builtin b ts o.type cs (args.map ρ) = (do pure (.value (<- r)))) (hr : r.run P w = .ok v w') : (execOp ρ o).run P w = .ok (.value v) w' := by
 unfold execOp; rw [ho]
 simp [resolve, invoke, hb, hr]
theorem len_ok {t : TypeId} {x : Operand} {s : S} {e : Ef} (ho : o.op = .call { callee := .builtin .len, args := #[x], argTypes := #[t] }) (hA : Eqv σ D A ρ) (h : aLen P A t x = some (s, e)) (hs : Sat σ D (rst (tb e.F) H) w) : AOK P ρ o σ D w H n s e := by
 unfold aLen at h
 split at h
 ·rename_i i off len cp el hx ht
  cases h
  obtain ⟨_, c, hp⟩ := sl_val (hA.c hx)
  exact ⟨_, .int .i64 len, _, _, did_no hs (run_bi ho (fun _ => rfl) (by simp [Builtin.len_, run_underlying ht, hp, goInt])) (.inl rfl) rfl⟩
 ·rename_i el hx ht
  cases h
  have hp : ρ x = .slice none 0 0 := hA.c hx
  exact ⟨_, .int .i64 0, _, _, did_no hs (run_bi ho (fun _ => rfl) (by simp [Builtin.len_, run_underlying ht, hp, goInt])) (.inl rfl) rfl⟩
 ·rename_i el hx ht
  cases h
  obtain ⟨a, c, hp⟩ := hA.c hx
  exact ⟨_, .int .i64 0, _, _, did_no hs (run_bi ho (fun _ => rfl) (by simp [Builtin.len_, run_underlying ht, hp, goInt])) (.inl rfl) rfl⟩
 ·rename_i b hx ht
  cases h
  have hp : ρ x = .string ⟨b.toArray⟩ := hA.c hx
  exact ⟨_, .int .i64 b.length, _, _, did_no hs (run_bi ho (fun _ => rfl) (by simp [Builtin.len_, run_underlying ht, hp, goInt, show (ByteArray.mk b.toArray).size = b.length from by simp [<- ByteArray.size_data]])) (.inl rfl) rfl⟩
 ·rename_i a b hx ht
  cases h
  have hp : ρ x = .map none := hA.c hx
  exact ⟨_, .int .i64 0, _, _, did_no hs (run_bi ho (fun _ => rfl) (by simp [Builtin.len_, run_underlying ht, hp, goInt])) (.inl rfl) rfl⟩
 ·cases h
def aCap (P : Program) (A : Operand -> Option S) (t : TypeId) (x : Operand) : Option (S × Ef) := match S.c? (A x), P.underlying t with
 | some (.sl _ _ _ (.ex c)), some (.slice _) => some (.v (.c (.int .i64 c)), .no 0)
 | some .snil, some (.slice _) => some (.v (.c (.int .i64 0)), .no 0)
 | _, _ => none
theorem cap_ok {t : TypeId} {x : Operand} {s : S} {e : Ef} (ho : o.op = .call { callee := .builtin .cap, args := #[x], argTypes := #[t] }) (hA : Eqv σ D A ρ) (h : aCap P A t x = some (s, e)) (hs : Sat σ D (rst (tb e.F) H) w) : AOK P ρ o σ D w H n s e := by
 unfold aCap at h
 split at h
 ·rename_i i off len c el hx ht
  cases h
  have hp := (hA.c hx).2
  exact ⟨_, .int .i64 c, _, _, did_no hs (run_bi ho (fun _ => rfl) (by simp [Builtin.cap_, run_underlying ht, hp, goInt])) (.inl rfl) rfl⟩
 ·rename_i el hx ht
  cases h
  have hp : ρ x = .slice none 0 0 := hA.c hx
  exact ⟨_, .int .i64 0, _, _, did_no hs (run_bi ho (fun _ => rfl) (by simp [Builtin.cap_, run_underlying ht, hp, goInt])) (.inl rfl) rfl⟩
 ·cases h
def aMin (A : Operand -> Option S) (x y : Operand) : Option (S × Ef) := match S.c? (A x), S.c? (A y) with
 | some (.int k a), some (.int _ b) => some (.v (.c (.int k (if b < a then b else a))), .no 0)
 | _, _ => none
theorem min_ok {ts : Array TypeId} {x y : Operand} {s : S} {e : Ef} (ho : o.op = .call { callee := .builtin .min, args := #[x, y], argTypes := ts }) (hA : Eqv σ D A ρ) (h : aMin A x y = some (s, e)) (hs : Sat σ D (rst (tb e.F) H) w) : AOK P ρ o σ D w H n s e := by
 unfold aMin at h
 split at h
 ·rename_i k a k2 b hx hy
  cases h
  have hp : ρ x = .int k a := hA.c hx
  have hq : ρ y = .int k2 b := hA.c hy
  exact ⟨_, .int k (if b < a then b else a), _, _, did_no hs (run_bi ho (fun _ => rfl) (by simp [Builtin.min_, Builtin.min2, hp, hq])) (.inl rfl) rfl⟩
 ·cases h
end
end Ev
end Go.Proofs.YtafndmnbnmlklaaGreat
