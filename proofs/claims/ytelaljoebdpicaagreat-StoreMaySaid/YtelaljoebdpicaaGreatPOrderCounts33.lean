/- Part 33 of what the proof of OrderCounts rests on. No condition. -/
import Derived.Test.YtelaljoebdpicaaGreatPOrderCounts32
namespace Go.Proofs.YtelaljoebdpicaaGreat
set_option maxRecDepth 100000
set_option maxHeartbeats 60000000
set_option linter.unusedVariables false
set_option linter.unusedSimpArgs false
set_option linter.unusedSectionVars false
namespace Ev
open Go Go.RowKit Go.Maps
def eqK (d : TypeDesc) (a b : C) : Option Bool := match d, a, b with
 | .int _, .int k x, .int k' y => if k = k' then some (x == y) else none
 | .string, .str x, .str y => some (x == y)
 | .bool, .bool x, .bool y => some (x == y)
 | _, _, _ => none
def findK (d : TypeDesc) (k : C) : List (C × V) -> Nat -> Option (Option (Nat × V))
 | [], _ => some none
 | e :: es, i => match eqK d k e.1 with
  | some true => some (some (i, e.2))
  | some false => findK d k es (i + 1)
  | none => none
theorem str_beq (x y : List UInt8) : (ByteArray.mk x.toArray == ByteArray.mk y.toArray) = (x == y) := by
 have e : (ByteArray.mk x.toArray == ByteArray.mk y.toArray) = (x.toArray == y.toArray) := rfl
 rw [e]; simp
section
variable {P : Program} {ρ : Operand -> Value} {o : Oper} {σ : Nat -> Blk} {D : Nat -> Prop} {w : World} {H : Heap} {n : Nat} {A : Operand -> Option S}
theorem eqK_ok {d : TypeDesc} {a b : C} {r : Bool} {x y : Value} (h : eqK d a b = some r) (hx : RC σ D a x) (hy : RC σ D b y) : Instr.sameNow d x y = some r := by
 unfold eqK at h
 split at h
 ·cases hx; cases hy
  simpa [Instr.sameNow] using h
 ·cases hx; cases hy
  simp only [Instr.sameNow, str_beq]; exact h
 ·cases hx; cases hy
  simpa [Instr.sameNow] using h
 ·cases h
theorem findK_ok {d : TypeDesc} {k : C} {x : Value} (hk : RC σ D k x) : ∀ {es : List (C × V)} {m : List MapEntry} {i : Nat} {r : Option (Nat × V)}, findK d k es i = some r -> RM σ D es m ->
  match r with
  | none => Instr.findNow d x m i = some none
  | some (j, v) => ∃ u, Instr.findNow d x m i = some (some (j, u)) /\ RV σ D v u /\ i <= j /\ ∃ e q, es[j - i]? = some e /\ m[j - i]? = some q /\ RC σ D e.1 q.key /\ eqK d k e.1 = some true
 | [], [], i, r, h, _ => by
  simp only [findK, Option.some.injEq] at h; subst h; rfl
 | e :: es, q :: m, i, r, h, hm => by
  simp only [findK] at h
  split at h
  ·rename_i he
   simp only [Option.some.injEq] at h; subst h
   have := eqK_ok he hk hm.1.1
   exact ⟨q.val, by simp only [Instr.findNow, this], hm.1.2, Nat.le_refl _, e, q, by simp, by simp, hm.1.1, he⟩
  ·rename_i he
   have h1 := eqK_ok he hk hm.1.1
   have ih := findK_ok hk h hm.2
   cases r with
   | none => simp only at ih ⊢; simp only [Instr.findNow, h1]; exact ih
   | some jv =>
    obtain ⟨j, v⟩ := jv
    obtain ⟨u, g1, g2, g3, e', q', g4, g5, g6, g7⟩ := ih
    refine ⟨u, by simp only [Instr.findNow, h1]; exact g1, g2, by omega, e', q', ?_, ?_, g6, g7⟩
    ·obtain ⟨p, hp⟩ : ∃ p, j - i = p + 1 := ⟨j - i - 1, by omega⟩
     rw [hp, List.getElem?_cons_succ, show p = j - (i + 1) by omega]; exact g4
    ·obtain ⟨p, hp⟩ : ∃ p, j - i = p + 1 := ⟨j - i - 1, by omega⟩
     rw [hp, List.getElem?_cons_succ, show p = j - (i + 1) by omega]; exact g5
  ·cases h
def keyD : TypeDesc -> Bool | .int _ => true | .string => true | .bool => true | _ => false
theorem run_checkKey {kt : TypeId} {d : TypeDesc} (h : P.underlying kt = some d) (hd : keyD d = true) (b : Bool) (v : Value) (w : World) : (Instr.checkKey b 10000 kt v).run P w = .ok () w := by
 show (Instr.checkKey b (9999 + 1) kt v).run P w = .ok () w
 unfold Instr.checkKey
 rw [Sem.run_bind, run_underlying h w]
 cases d <;> first | (cases hd; done) | rfl
theorem run_findKey {kt : TypeId} {d : TypeDesc} {x : Value} {m : List MapEntry} {r : Option (Nat × Value)} (h : P.underlying kt = some d) (hf : Instr.findNow d x m 0 = some r) (w : World) : (Instr.findKey kt x m).run P w = .ok r w := by
 unfold Instr.findKey
 rw [Sem.run_bind, run_underlying h w]
 simp only [Result.andThen_ok, hf]
 rfl
theorem map_of {F i : Nat} {ob : AO} {es : List (C × V)} (hs : Sat σ D (rst (tb F) H) w) (hF : tb F i = true) (ho : H i = some ob) (hk : ob.k = .mp es) : D i /\ ObjMap σ D i es w := by
 obtain ⟨h1, h2⟩ := obj_of hs hF ho
 unfold ObjAt at h2
 rw [hk] at h2
 exact ⟨h1, h2.2⟩
def aMm (n : Nat) (t : TypeId) (r : Option Operand) : Option (S × Ef) := match r with
 | none => some (.v (.c (.map n)), .new 0 ⟨t, [], false, .mp []⟩)
 | some _ => none
theorem mm_ok {t : TypeId} {r : Option Operand} {s : S} {e : Ef} (ho : o.op = .makeMap t r) (hD : n < e.n' n -> ¬ D n) (h : aMm n t r = some (s, e)) (hs : Sat σ D (rst (tb e.F) H) w) : AOK P ρ o σ D w H n s e := by
 unfold aMm at h
 split at h
 ·cases h
  have hD' := hD (Nat.lt_succ_self n)
  refine ⟨_, .map (some w.heap.size), _, _, did_new (k := ⟨w.heap.size, 0⟩) (w' := w.alloc (.map #[] 0)) hs hD' ?_ (.inl rfl) ⟨.inr ⟨Nat.le_refl _, Nat.lt_succ_self _⟩, by rw [at_same]⟩ (Tch.alloc _ _) (Nat.le_refl _) ?_⟩
  ·unfold execOp; rw [ho]; simp [Instr.makeMap]
  ·exact ⟨rfl, #[], 0, by rw [at_same]; exact heap_alloc_new _ _, trivial⟩
 ·cases h
def aLk (P : Program) (H : Heap) (A : Operand -> Option S) (t : TypeId) (x y : Operand) (ok : Bool) : Option (S × Ef) := match P.underlying t, S.c? (A x), S.c? (A y) with
 | some (.map kt et), some (.map i), some k => match P.underlying kt, H i with
  | some d, some ob => match ob.k with
   | .mp es => if keyD d = true then (match findK d k es 0 with
    | some (some (_, v)) => some (if ok then .tup [v, .c (.bool true)] else .v v, .no (one i))
    | some none => match (P.info? et).bind (·.zero) with
     | some z => (absV z).map fun v => (if ok then .tup [v, .c (.bool false)] else .v v, .no (one i))
     | none => none
    | none => none) else none
   | _ => none
  | _, _ => none
 | _, _, _ => none
theorem lk_ok {t : TypeId} {x y : Operand} {ok : Bool} {s : S} {e : Ef} (ho : o.op = .lookup t x y ok) (hA : Eqv σ D A ρ) (h : aLk P H A t x y ok = some (s, e)) (hs : Sat σ D (rst (tb e.F) H) w) : AOK P ρ o σ D w H n s e := by
 unfold aLk at h
 split at h
 ·rename_i kt et i k ht hx hy
  split at h
  ·rename_i d ob hd hob
   split at h
   ·rename_i es hes
    split at h
    ·rename_i hkd
     have fin : ∀ (v : V) (b : Bool) (u : Value), RV σ D v u -> Sat σ D (rst (tb (one i)) H) w -> (Instr.lookup t (ρ x) (ρ y) ok).run P w = .ok (if ok then .tuple #[u, .bool b] else u) w -> AOK P ρ o σ D w H n (if ok then .tup [v, .c (.bool b)] else .v v) (.no (one i)) := fun v b u hv hs hr => by
      refine ⟨.value _, if ok then .tuple #[u, .bool b] else u, _, _, did_no hs ?_ (.inl rfl) ?_⟩
      ·unfold execOp; rw [ho]; simp [hr]
      ·cases ok
       ·exact hv
       ·exact ⟨[u, .bool b], ⟨hv, rfl, trivial⟩, rfl⟩
     split at h
     ·rename_i j v hf
      cases h
      obtain ⟨hDi, m, cl, hm1, hm2⟩ := map_of hs tb_one hob hes
      have hp := (hA.c hx).2
      obtain ⟨u, g1, g2, _⟩ := findK_ok (hA.c hy) hf hm2
      refine fin v true u g2 hs ?_
      have hk := fun b v w => run_checkKey (P := P) hd hkd b v w
      have hfk := fun w => run_findKey (P := P) hd g1 w
      cases ok <;> simp [Instr.lookup, run_underlying ht, hp, getObj, Sem.run, hm1, hk, hfk]
     ·rename_i hf
      split at h
      ·rename_i z hz
       rw [Option.map_eq_some_iff] at h
       obtain ⟨v, h1, h2⟩ := h
       cases h2
       obtain ⟨hDi, m, cl, hm1, hm2⟩ := map_of hs tb_one hob hes
       have hp := (hA.c hx).2
       have g1 := findK_ok (hA.c hy) hf hm2
       simp only at g1
       refine fin v false z (absV_ok h1) hs ?_
       have hk := fun b v w => run_checkKey (P := P) hd hkd b v w
       have hfk := fun w => run_findKey (P := P) hd g1 w
       have hzv : ∀ w, (zeroValue et).run P w = .ok z w := fun w => by
        cases hi : P.info? et with
        | none => rw [hi] at hz; cases hz
        | some inf =>
         rw [hi] at hz
         have hz' : inf.zero = some z := hz
         simp [zeroValue, typeInfo, hi, hz']
       cases ok <;> simp [Instr.lookup, run_underlying ht, hp, getObj, Sem.run, hm1, hk, hfk, hzv]
      ·cases h
     ·cases h
    ·cases h
   ·cases h
  ·cases h
 ·cases h
def putK (d : TypeDesc) (k : C) (v : V) (es : List (C × V)) : Option (List (C × V)) := match findK d k es 0 with
 | some (some (j, _)) => some (es.set j (k, v))
 | some none => some (es ++ [(k, v)])
 | none => none
def aMu (P : Program) (H : Heap) (A : Operand -> Option S) (t : TypeId) (x y z : Operand) : Option (S × Ef) := match P.underlying t, S.c? (A x), S.c? (A y), S.v? (A z) with
 | some (.map kt et), some (.map i), some k, some v => match P.underlying kt, H i with
  | some d, some ob => match ob.k with
   | .mp es => if keyD d = true then (putK d k v es).map fun es' => (.un, .set (one i) i ⟨ob.ty, [], ob.opn, .mp es'⟩) else none
   | _ => none
  | _, _ => none
 | _, _, _, _ => none
theorem RM.set {σ : Nat -> Blk} {D : Nat -> Prop} : ∀ {es : List (C × V)} {m : List MapEntry} {j : Nat} {e : C × V} {q : MapEntry}, RM σ D es m -> RC σ D e.1 q.key -> RV σ D e.2 q.val -> RM σ D (es.set j e) (m.set j q)
 | [], [], _, _, _, _, _, _ => trivial
 | _ :: _, _ :: _, 0, _, _, h, h1, h2 => ⟨⟨h1, h2⟩, h.2⟩
 | _ :: _, _ :: _, j + 1, _, _, h, h1, h2 => ⟨h.1, RM.set h.2 h1 h2⟩
theorem RM.push {σ : Nat -> Blk} {D : Nat -> Prop} : ∀ {es : List (C × V)} {m : List MapEntry} {e : C × V} {q : MapEntry}, RM σ D es m -> RC σ D e.1 q.key -> RV σ D e.2 q.val -> RM σ D (es ++ [e]) (m ++ [q])
 | [], [], _, _, _, h1, h2 => ⟨⟨h1, h2⟩, trivial⟩
 | _ :: _, _ :: _, _, _, h, h1, h2 => ⟨h.1, RM.push h.2 h1 h2⟩
theorem run_stays {d : TypeDesc} {k k' : C} {x y : Value} (h : eqK d k k' = some true) (hx : RC σ D k x) (hy : RC σ D k' y) (w : World) : (Instr.keyThatStays y x).run P w = .ok x w := by
 unfold eqK at h
 split at h
 ·cases hx; cases hy
  split at h
  ·rename_i hk
   subst hk
   simp at h; subst h
   simp [Instr.keyThatStays, Instr.sameBits]
  ·cases h
 ·cases hx; cases hy
  simp at h; subst h
  simp [Instr.keyThatStays, Instr.sameBits, str_beq]
 ·cases hx; cases hy
  simp at h; subst h
  simp [Instr.keyThatStays, Instr.sameBits]
 ·cases h
theorem heap_set_tch {w : World} {b : Nat} {ob : Obj} : Tch (fun k => k = b) w { w with heap := w.heap.setIfInBounds b ob } :=
 ⟨rfl, rfl, rfl, by simp, fun k hk hn => by
  show (w.heap.setIfInBounds b ob)[k]? = w.heap[k]?
  rw [Array.getElem?_setIfInBounds_ne (fun e => hn e.symm)]⟩
theorem mu_ok {t : TypeId} {x y z : Operand} {s : S} {e : Ef} (ho : o.op = .mapUpdate t x y z) (hA : Eqv σ D A ρ) (h : aMu P H A t x y z = some (s, e)) (hs : Sat σ D (rst (tb e.F) H) w) : AOK P ρ o σ D w H n s e := by
 unfold aMu at h
 split at h
 ·rename_i kt et i k v ht hx hy hz
  split at h
  ·rename_i d ob hd hob
   split at h
   ·rename_i es hes
    split at h
    ·rename_i hkd
     rw [Option.map_eq_some_iff] at h
     obtain ⟨es', h1, h2⟩ := h
     cases h2
     obtain ⟨hDi, m, cl, hm1, hm2⟩ := map_of hs tb_one hob hes
     have hp := (hA.c hx).2
     have hkk := hA.c hy
     have hvv := hA.v hz
     have hlt : (σ i).b < w.heap.size := (Array.getElem?_eq_some_iff.1 hm1).1
     have hck := fun b v w => run_checkKey (P := P) hd hkd b v w
     have fin : ∀ (m' : Array MapEntry) (cl' : Nat), RM σ D es' m'.toList -> (Instr.mapUpdate t (ρ x) (ρ y) (ρ z)).run P w = .ok () { w with heap := w.heap.setIfInBounds (σ i).b (.map m' cl') } -> AOK P ρ o σ D w H n .un (.set (one i) i ⟨ob.ty, [], ob.opn, .mp es'⟩) := fun m' cl' hm hr => by
      refine ⟨.skip, undef, _, _, did_set (w' := { w with heap := w.heap.setIfInBounds (σ i).b (.map m' cl') }) hs tb_one (by rw [hob]; rfl) ?_ (.inr ⟨rfl, rfl⟩) rfl heap_set_tch ?_⟩
      ·unfold execOp; rw [ho]; simp [hr]
      ·exact ⟨rfl, m', cl', by show (w.heap.setIfInBounds (σ i).b _)[(σ i).b]? = _; simp [hlt], hm⟩
     unfold putK at h1
     split at h1
     ·rename_i j v0 hf
      simp only [Option.some.injEq] at h1; subst h1
      obtain ⟨u, g1, g2, g3, e', q, g4, g5, g6, g7⟩ := findK_ok hkk hf hm2
      rw [Nat.sub_zero] at g4 g5
      have hfk := fun w => run_findKey (P := P) hd g1 w
      have hst := fun w => run_stays (P := P) g7 hkk g6 w
      have hqa : m[j]? = some q := by rw [<- Array.getElem?_toList]; exact g5
      refine fin (m.modify j fun e => { e with key := ρ y, val := ρ z }) cl ?_ ?_
      ·have hmod : (m.modify j fun e => { e with key := ρ y, val := ρ z }).toList = m.toList.set j { q with key := ρ y, val := ρ z } := by
        apply List.ext_getElem?
        intro p
        rw [Array.getElem?_toList, Array.getElem?_modify, List.getElem?_set, Array.getElem?_toList]
        by_cases e : j = p
        ·subst e
         obtain ⟨hlt2, hq2⟩ := Array.getElem?_eq_some_iff.1 hqa
         simp [hlt2, hq2]
        ·simp [e]
       rw [hmod]
       exact hm2.set hkk hvv
      ·simp [Instr.mapUpdate, run_underlying ht, hp, getObj, setObj, Sem.run, hm1, hck, hfk, hqa, hst]
     ·rename_i hf
      simp only [Option.some.injEq] at h1; subst h1
      have g1 := findK_ok hkk hf hm2
      simp only at g1
      have hfk := fun w => run_findKey (P := P) hd g1 w
      refine fin (m.push { key := ρ y, val := ρ z, born := cl }) (cl + 1) ?_ ?_
      ·rw [Array.toList_push]; exact hm2.push hkk hvv
      ·simp [Instr.mapUpdate, run_underlying ht, hp, getObj, setObj, Sem.run, hm1, hck, hfk]
     ·cases h1
    ·cases h
   ·cases h
  ·cases h
 ·cases h
def eqFs (P : Program) (xs ys : List C) : List Field -> Option Bool
 | [] => some true
 | f :: fs => if f.name = "_" then none else match P.underlying f.type, xs[f.offset]?, ys[f.offset]? with
  | some d, some a, some b => if keyD d = true then (match eqK d a b with
   | some true => eqFs P xs ys fs
   | some false => some false
   | none => none) else none
  | _, _, _ => none
def aBinS (P : Program) (A : Operand -> Option S) (op : BinOp) (t : TypeId) (x y : Operand) : Option (S × Ef) := match S.v? (A x), S.v? (A y), P.underlying t with
 | some (.agg xs), some (.agg ys), some (.struct fs) => if P.stoodInHeld t = false /\ Program.eqGuardType P P.depth t = false then
   (match eqFs P xs ys fs.toList with
   | some b => (eqC op b).map fun c => (.v (.c c), .no 0)
   | none => none) else none
 | _, _, _ => none
theorem part_key {ft : TypeId} {d : TypeDesc} (hd : P.underlying ft = some d) (hk : keyD d = true) {m : List Value} {off : Nat} {v : Value} (h : m[off]? = some v) : (part ft m.toArray off).run P w = .ok v w := by
 have : isAg P ft = some false := by
  unfold isAg; rw [hd]
  cases d <;> first | rfl | cases hk
 simp [part, run_isAg this, h]
theorem eqK_eq {d : TypeDesc} {ft : TypeId} {a b : C} {r : Bool} {x y : Value} (hd : P.underlying ft = some d) (h : eqK d a b = some r) (hx : RC σ D a x) (hy : RC σ D b y) (q : Nat) : (Op.equalIn (q + 1) ft x y).run P w = .ok r w := by
 unfold eqK at h
 split at h
 ·cases hx; cases hy
  split at h
  ·rename_i hk
   subst hk
   cases h
   exact run_equalIn_int w q ft _ _ _ _ hd
  ·cases h
 ·cases hx; cases hy
  cases h
  have := fun (a b : ByteArray) => (show (Op.equalIn (q + 1) ft (.string a) (.string b)).run P w = .ok (a == b) w by simp only [Op.equalIn, Sem.run_bind, run_underlying hd, Result.andThen_ok]; rfl)
  rw [this, str_beq]
 ·cases hx; cases hy
  cases h
  exact run_equalIn_bool w q ft _ _ hd
 ·cases h
theorem eqFs_ok {xs ys : List C} {m m' : List Value} (hx : RL σ D xs m) (hy : RL σ D ys m') (q : Nat) : ∀ {fs : List Field} {b : Bool}, eqFs P xs ys fs = some b -> (Op.eqFields (q + 1) m.toArray m'.toArray fs).run P w = .ok b w
 | [], b, h => by simp only [eqFs, Option.some.injEq] at h; subst h; rfl
 | f :: fs, b, h => by
  simp only [eqFs] at h
  split at h
  ·cases h
  ·rename_i hn
   split at h
   ·rename_i d a c hd ha hc
    split at h
    ·rename_i hk
     obtain ⟨v, v1, v2⟩ := hx.get ha
     obtain ⟨u, u1, u2⟩ := hy.get hc
     have p1 := fun w => part_key (P := P) (w := w) hd hk v1
     have p2 := fun w => part_key (P := P) (w := w) hd hk u1
     simp only [Op.eqFields, hn, ne_eq, not_false_eq_true, if_true, Sem.run_bind, p1, p2, Result.andThen_ok]
     split at h
     ·rename_i he
      rw [eqK_eq hd he v2 u2 q]
      simp only [Result.andThen_ok, Bool.not_true, Bool.false_eq_true, if_false]
      exact eqFs_ok hx hy q h
     ·rename_i he
      cases h
      rw [eqK_eq hd he v2 u2 q]
      rfl
     ·cases h
    ·cases h
   ·cases h
theorem binS_ok {op : BinOp} {t ty : TypeId} {x y : Operand} {s : S} {e : Ef} (ho : o.op = .binOp op t x y ty) (hA : Eqv σ D A ρ) (h : aBinS P A op t x y = some (s, e)) (hs : Sat σ D (rst (tb e.F) H) w) : AOK P ρ o σ D w H n s e := by
 unfold aBinS at h
 split at h
 ·rename_i xs ys fs hx hy ht
  split at h
  ·rename_i hc
   split at h
   ·rename_i b hb
    rw [Option.map_eq_some_iff] at h
    obtain ⟨c, h1, h2⟩ := h
    cases h2
    obtain ⟨m, m1, m2⟩ := hA.v hx
    obtain ⟨m', n1, n2⟩ := hA.v hy
    have hfo : P.fieldsOf t = fs := by unfold Program.fieldsOf; rw [ht]
    have heq : (Op.equal t (ρ x) (ρ y)).run P w = .ok b w := by
     rw [m2, n2]
     show (Op.equalIn (9999 + 1) t _ _).run P w = _
     rw [run_equalIn_struct w 9999 t _ _ (by rw [hfo]; exact ht) hc.1, hfo]
     exact eqFs_ok m1 n1 9998 hb
    obtain ⟨v, g1, g2⟩ := eqC_ok (σ := σ) (D := D) h1 (t := t) (x := ρ x) (y := ρ y) (fun op' ho => by rw [m2, n2]; rcases ho with rfl | rfl <;> rfl) heq
    have hgd : (eqGuard op t x y (ρ x) (ρ y)).run P w = .ok () w := by
     rw [m2, n2]
     unfold eqGuard
     cases op <;> first | rfl | simp [hc.2]
    refine ⟨.value v, v, _, _, did_no hs ?_ (.inl rfl) g1⟩
    unfold execOp; rw [ho]
    simp [hgd, g2]
   ·cases h
  ·cases h
 ·cases h
def aBin2 (P : Program) (A : Operand -> Option S) (op : BinOp) (t : TypeId) (x y : Operand) : Option (S × Ef) := match aBin P A op t x y with
 | some r => some r
 | none => aBinS P A op t x y
theorem bin2_ok {op : BinOp} {t ty : TypeId} {x y : Operand} {s : S} {e : Ef} (ho : o.op = .binOp op t x y ty) (hA : Eqv σ D A ρ) (h : aBin2 P A op t x y = some (s, e)) (hs : Sat σ D (rst (tb e.F) H) w) : AOK P ρ o σ D w H n s e := by
 unfold aBin2 at h
 split at h
 ·rename_i r hr
  cases h
  exact bin_ok ho hA hr hs
 ·exact binS_ok ho hA h hs
end
end Ev
end Go.Proofs.YtelaljoebdpicaaGreat
