/- Part 9 of what the proof of WhereLong rests on. No condition. -/
import Derived.Test.YtafndmnbnmlklaaGreatPWhereLong08
namespace Go.Proofs.YtafndmnbnmlklaaGreat
set_option maxRecDepth 100000
set_option maxHeartbeats 60000000
set_option linter.unusedVariables false
set_option linter.unusedSimpArgs false
set_option linter.unusedSectionVars false
namespace Ev
open Go Go.RowKit Go.Maps
def eqK (d : TypeDesc) (a b : C) : Option Bool := match d, a, b with
 | .int _, .int k x, .int k' y => if k = k' then some (x == y) else none
 | .string, .str x, .str y => some (x == y)
 | .bool, .bool x, .bool y => some (x == y)
 | _, _, _ => none
def findK (d : TypeDesc) (k : C) : List (C × V) -> Nat -> Option (Option (Nat × V))
 | [], _ => some none
 | e :: es, i => match eqK d k e.1 with
  | some true => some (some (i, e.2))
  | some false => findK d k es (i + 1)
  | none => none
theorem str_beq (x y : List UInt8) : (ByteArray.mk x.toArray == ByteArray.mk y.toArray) = (x == y) := by
 have e : (ByteArray.mk x.toArray == ByteArray.mk y.toArray) = (x.toArray == y.toArray) := rfl
 rw [e]; simp
section
variable {P : Program} {ρ : Operand -> Value} {o : Oper} {σ : Nat -> Blk} {D : Nat -> Prop} {w : World} {H : Heap} {n : Nat} {A : Operand -> Option S}
theorem eqK_ok {d : TypeDesc} {a b : C} {r : Bool} {x y : Value} (h : eqK d a b = some r) (hx : RC σ D a x) (hy : RC σ D b y) : Instr.sameNow d x y = some r := by
 unfold eqK at h
 split at h
 ·cases hx; cases hy
  simpa [Instr.sameNow] using h
 ·cases hx; cases hy
  simp only [Instr.sameNow, str_beq]; exact h
 ·cases hx; cases hy
  simpa [Instr.sameNow] using h
 ·cases h
theorem findK_ok {d : TypeDesc} {k : C} {x : Value} (hk : RC σ D k x) : ∀ {es : List (C × V)} {m : List MapEntry} {i : Nat} {r : Option (Nat × V)}, findK d k es i = some r -> RM σ D es m ->
  match r with
  | none => Instr.findNow d x m i = some none
  | some (j, v) => ∃ u, Instr.findNow d x m i = some (some (j, u)) /\ RV σ D v u /\ i <= j /\ ∃ e q, es[j - i]? = some e /\ m[j - i]? = some q /\ RC σ D e.1 q.key /\ eqK d k e.1 = some true
 | [], [], i, r, h, _ => by
  simp only [findK, Option.some.injEq] at h; subst h; rfl
 | e :: es, q :: m, i, r, h, hm => by
  simp only [findK] at h
  split at h
  ·rename_i he
   simp only [Option.some.injEq] at h; subst h
   have := eqK_ok he hk hm.1.1
   exact ⟨q.val, by simp only [Instr.findNow, this], hm.1.2, Nat.le_refl _, e, q, by simp, by simp, hm.1.1, he⟩
  ·rename_i he
   have h1 := eqK_ok he hk hm.1.1
   have ih := findK_ok hk h hm.2
   cases r with
   | none => simp only at ih ⊢; simp only [Instr.findNow, h1]; exact ih
   | some jv =>
    obtain ⟨j, v⟩ := jv
    obtain ⟨u, g1, g2, g3, e', q', g4, g5, g6, g7⟩ := ih
    refine ⟨u, by simp only [Instr.findNow, h1]; exact g1, g2, by omega, e', q', ?_, ?_, g6, g7⟩
    ·obtain ⟨p, hp⟩ : ∃ p, j - i = p + 1 := ⟨j - i - 1, by omega⟩
     rw [hp, List.getElem?_cons_succ, show p = j - (i + 1) by omega]; exact g4
    ·obtain ⟨p, hp⟩ : ∃ p, j - i = p + 1 := ⟨j - i - 1, by omega⟩
     rw [hp, List.getElem?_cons_succ, show p = j - (i + 1) by omega]; exact g5
  ·cases h
def keyD : TypeDesc -> Bool | .int _ => true | .string => true | .bool => true | _ => false
theorem run_checkKey {kt : TypeId} {d : TypeDesc} (h : P.underlying kt = some d) (hd : keyD d = true) (b : Bool) (v : Value) (w : World) : (Instr.checkKey b 10000 kt v).run P w = .ok () w := by
 show (Instr.checkKey b (9999 + 1) kt v).run P w = .ok () w
 unfold Instr.checkKey
 rw [Sem.run_bind, run_underlying h w]
 cases d <;> first | (cases hd; done) | rfl
theorem run_findKey {kt : TypeId} {d : TypeDesc} {x : Value} {m : List MapEntry} {r : Option (Nat × Value)} (h : P.underlying kt = some d) (hf : Instr.findNow d x m 0 = some r) (w : World) : (Instr.findKey kt x m).run P w = .ok r w := by
 unfold Instr.findKey
 rw [Sem.run_bind, run_underlying h w]
 simp only [Result.andThen_ok, hf]
 rfl
theorem map_of {F i : Nat} {ob : AO} {es : List (C × V)} (hs : Sat σ D (rst (tb F) H) w) (hF : tb F i = true) (ho : H i = some ob) (hk : ob.k = .mp es) : D i /\ ObjMap σ D i es w := by
 obtain ⟨h1, h2⟩ := obj_of hs hF ho
 unfold ObjAt at h2
 rw [hk] at h2
 exact ⟨h1, h2.2⟩
def aMm (n : Nat) (t : TypeId) (r : Option Operand) : Option (S × Ef) := match r with
 | none => some (.v (.c (.map n)), .new 0 ⟨t, [], false, .mp []⟩)
 | some _ => none
theorem mm_ok {t : TypeId} {r : Option Operand} {s : S} {e : Ef} (ho : o.op = .makeMap t r) (hD : n < e.n' n -> ¬ D n) (h : aMm n t r = some (s, e)) (hs : Sat σ D (rst (tb e.F) H) w) : AOK P ρ o σ D w H n s e := by
 unfold aMm at h
 split at h
 ·cases h
  have hD' := hD (Nat.lt_succ_self n)
  refine ⟨_, .map (some w.heap.size), _, _, did_new (k := ⟨w.heap.size, 0⟩) (w' := w.alloc (.map #[] 0)) hs hD' ?_ (.inl rfl) ⟨.inr ⟨Nat.le_refl _, Nat.lt_succ_self _⟩, by rw [at_same]⟩ (Tch.alloc _ _) (Nat.le_refl _) ?_⟩
  ·unfold execOp; rw [ho]; simp [Instr.makeMap]
  ·exact ⟨rfl, #[], 0, by rw [at_same]; exact heap_alloc_new _ _, trivial⟩
 ·cases h
def aLk (P : Program) (H : Heap) (A : Operand -> Option S) (t : TypeId) (x y : Operand) (ok : Bool) : Option (S × Ef) := match P.underlying t, S.c? (A x), S.c? (A y) with
 | some (.map kt et), some (.map i), some k => match P.underlying kt, H i with
  | some d, some ob => match ob.k with
   | .mp es => if keyD d = true then (match findK d k es 0 with
    | some (some (_, v)) => some (if ok then .tup [v, .c (.bool true)] else .v v, .no (one i))
    | some none => match (P.info? et).bind (·.zero) with
     | some z => (absV z).map fun v => (if ok then .tup [v, .c (.bool false)] else .v v, .no (one i))
     | none => none
    | none => none) else none
   | _ => none
  | _, _ => none
 | _, _, _ => none
theorem lk_ok {t : TypeId} {x y : Operand} {ok : Bool} {s : S} {e : Ef} (ho : o.op = .lookup t x y ok) (hA : Eqv σ D A ρ) (h : aLk P H A t x y ok = some (s, e)) (hs : Sat σ D (rst (tb e.F) H) w) : AOK P ρ o σ D w H n s e := by
 unfold aLk at h
 split at h
 ·rename_i kt et i k ht hx hy
  split at h
  ·rename_i d ob hd hob
   split at h
   ·rename_i es hes
    split at h
    ·rename_i hkd
     have fin : ∀ (v : V) (b : Bool) (u : Value), RV σ D v u -> Sat σ D (rst (tb (one i)) H) w -> (Instr.lookup t (ρ x) (ρ y) ok).run P w = .ok (if ok then .tuple #[u, .bool b] else u) w -> AOK P ρ o σ D w H n (if ok then .tup [v, .c (.bool b)] else .v v) (.no (one i)) := fun v b u hv hs hr => by
      refine ⟨.value _, if ok then .tuple #[u, .bool b] else u, _, _, did_no hs ?_ (.inl rfl) ?_⟩
      ·unfold execOp; rw [ho]; simp [hr]
      ·cases ok
       ·exact hv
       ·exact ⟨[u, .bool b], ⟨hv, rfl, trivial⟩, rfl⟩
     split at h
     ·rename_i j v hf
      cases h
      obtain ⟨hDi, m, cl, hm1, hm2⟩ := map_of hs tb_one hob hes
      have hp := (hA.c hx).2
      obtain ⟨u, g1, g2, _⟩ := findK_ok (hA.c hy) hf hm2
      refine fin v true u g2 hs ?_
      have hk := fun b v w => run_checkKey (P := P) hd hkd b v w
      have hfk := fun w => run_findKey (P := P) hd g1 w
      cases ok <;> simp [Instr.lookup, run_underlying ht, hp, getObj, Sem.run, hm1, hk, hfk]
     ·rename_i hf
      split at h
      ·rename_i z hz
       rw [Option.map_eq_some_iff] at h
       obtain ⟨v, h1, h2⟩ := h
       cases h2
       obtain ⟨hDi, m, cl, hm1, hm2⟩ := map_of hs tb_one hob hes
       have hp := (hA.c hx).2
       have g1 := findK_ok (hA.c hy) hf hm2
       simp only at g1
       refine fin v false z (absV_ok h1) hs ?_
       have hk := fun b v w => run_checkKey (P := P) hd hkd b v w
       have hfk := fun w => run_findKey (P := P) hd g1 w
       have hzv : ∀ w, (zeroValue et).run P w = .ok z w := fun w => by
        cases hi : P.info? et with
        | none => rw [hi] at hz; cases hz
        | some inf =>
         rw [hi] at hz
         have hz' : inf.zero = some z := hz
         simp [zeroValue, typeInfo, hi, hz']
       cases ok <;> simp [Instr.lookup, run_underlying ht, hp, getObj, Sem.run, hm1, hk, hfk, hzv]
      ·cases h
     ·cases h
    ·cases h
   ·cases h
  ·cases h
 ·cases h
def putK (d : TypeDesc) (k : C) (v : V) (es : List (C × V)) : Option (List (C × V)) := match findK d k es 0 with
 | some (some (j, _)) => some (es.set j (k, v))
 | some none => some (es ++ [(k, v)])
 | none => none
def aMu (P : Program) (H : Heap) (A : Operand -> Option S) (t : TypeId) (x y z : Operand) : Option (S × Ef) := match P.underlying t, S.c? (A x), S.c? (A y), S.v? (A z) with
 | some (.map kt et), some (.map i), some k, some v => match P.underlying kt, H i with
  | some d, some ob => match ob.k with
   | .mp es => if keyD d = true then (putK d k v es).map fun es' => (.un, .set (one i) i ⟨ob.ty, [], ob.opn, .mp es'⟩) else none
   | _ => none
  | _, _ => none
 | _, _, _, _ => none
theorem RM.set {σ : Nat -> Blk} {D : Nat -> Prop} : ∀ {es : List (C × V)} {m : List MapEntry} {j : Nat} {e : C × V} {q : MapEntry}, RM σ D es m -> RC σ D e.1 q.key -> RV σ D e.2 q.val -> RM σ D (es.set j e) (m.set j q)
 | [], [], _, _, _, _, _, _ => trivial
 | _ :: _, _ :: _, 0, _, _, h, h1, h2 => ⟨⟨h1, h2⟩, h.2⟩
 | _ :: _, _ :: _, j + 1, _, _, h, h1, h2 => ⟨h.1, RM.set h.2 h1 h2⟩
theorem RM.push {σ : Nat -> Blk} {D : Nat -> Prop} : ∀ {es : List (C × V)} {m : List MapEntry} {e : C × V} {q : MapEntry}, RM σ D es m -> RC σ D e.1 q.key -> RV σ D e.2 q.val -> RM σ D (es ++ [e]) (m ++ [q])
 | [], [], _, _, _, h1, h2 => ⟨⟨h1, h2⟩, trivial⟩
 | _ :: _, _ :: _, _, _, h, h1, h2 => ⟨h.1, RM.push h.2 h1 h2⟩
theorem run_stays {d : TypeDesc} {k k' : C} {x y : Value} (h : eqK d k k' = some true) (hx : RC σ D k x) (hy : RC σ D k' y) (w : World) : (Instr.keyThatStays y x).run P w = .ok x w := by
 unfold eqK at h
 split at h
 ·cases hx; cases hy
  split at h
  ·rename_i hk
   subst hk
   simp at h; subst h
   simp [Instr.keyThatStays, Instr.sameBits]
  ·cases h
 ·cases hx; cases hy
  simp at h; subst h
  simp [Instr.keyThatStays, Instr.sameBits, str_beq]
 ·cases hx; cases hy
  simp at h; subst h
  simp [Instr.keyThatStays, Instr.sameBits]
 ·cases h
theorem heap_set_tch {w : World} {b : Nat} {ob : Obj} : Tch (fun k => k = b) w { w with heap := w.heap.setIfInBounds b ob } :=
 ⟨rfl, rfl, rfl, by simp, fun k hk hn => by
  show (w.heap.setIfInBounds b ob)[k]? = w.heap[k]?
  rw [Array.getElem?_setIfInBounds_ne (fun e => hn e.symm)]⟩
theorem mu_ok {t : TypeId} {x y z : Operand} {s : S} {e : Ef} (ho : o.op = .mapUpdate t x y z) (hA : Eqv σ D A ρ) (h : aMu P H A t x y z = some (s, e)) (hs : Sat σ D (rst (tb e.F) H) w) : AOK P ρ o σ D w H n s e := by
 unfold aMu at h
 split at h
 ·rename_i kt et i k v ht hx hy hz
  split at h
  ·rename_i d ob hd hob
   split at h
   ·rename_i es hes
    split at h
    ·rename_i hkd
     rw [Option.map_eq_some_iff] at h
     obtain ⟨es', h1, h2⟩ := h
     cases h2
     obtain ⟨hDi, m, cl, hm1, hm2⟩ := map_of hs tb_one hob hes
     have hp := (hA.c hx).2
     have hkk := hA.c hy
     have hvv := hA.v hz
     have hlt : (σ i).b < w.heap.size := (Array.getElem?_eq_some_iff.1 hm1).1
     have hck := fun b v w => run_checkKey (P := P) hd hkd b v w
     have fin : ∀ (m' : Array MapEntry) (cl' : Nat), RM σ D es' m'.toList -> (Instr.mapUpdate t (ρ x) (ρ y) (ρ z)).run P w = .ok () { w with heap := w.heap.setIfInBounds (σ i).b (.map m' cl') } -> AOK P ρ o σ D w H n .un (.set (one i) i ⟨ob.ty, [], ob.opn, .mp es'⟩) := fun m' cl' hm hr => by
      refine ⟨.skip, undef, _, _, did_set (w' := { w with heap := w.heap.setIfInBounds (σ i).b (.map m' cl') }) hs tb_one (by rw [hob]; rfl) ?_ (.inr ⟨rfl, rfl⟩) rfl heap_set_tch ?_⟩
      ·unfold execOp; rw [ho]; simp [hr]
      ·exact ⟨rfl, m', cl', by show (w.heap.setIfInBounds (σ i).b _)[(σ i).b]? = _; simp [hlt], hm⟩
     unfold putK at h1
     split at h1
     ·rename_i j v0 hf
      simp only [Option.some.injEq] at h1; subst h1
      obtain ⟨u, g1, g2, g3, e', q, g4, g5, g6, g7⟩ := findK_ok hkk hf hm2
      rw [Nat.sub_zero] at g4 g5
      have hfk := fun w => run_findKey (P := P) hd g1 w
      have hst := fun w => run_stays (P := P) g7 hkk g6 w
      have hqa : m[j]? = some q := by rw [<- Array.getElem?_toList]; exact g5
      refine fin (m.modify j fun e => { e with key := ρ y, val := ρ z }) cl ?_ ?_
      ·have hmod : (m.modify j fun e => { e with key := ρ y, val := ρ z }).toList = m.toList.set j { q with key := ρ y, val := ρ z } := by
        apply List.ext_getElem?
        intro p
        rw [Array.getElem?_toList, Array.getElem?_modify, List.getElem?_set, Array.getElem?_toList]
        by_cases e : j = p
        ·subst e
         obtain ⟨hlt2, hq2⟩ := Array.getElem?_eq_some_iff.1 hqa
         simp [hlt2, hq2]
        ·simp [e]
       rw [hmod]
       exact hm2.set hkk hvv
      ·simp [Instr.mapUpdate, run_underlying ht, hp, getObj, setObj, Sem.run, hm1, hck, hfk, hqa, hst]
     ·rename_i hf
      simp only [Option.some.injEq] at h1; subst h1
      have g1 := findK_ok hkk hf hm2
      simp only at g1
      have hfk := fun w => run_findKey (P := P) hd g1 w
      refine fin (m.push { key := ρ y, val := ρ z, born := cl }) (cl + 1) ?_ ?_
      ·rw [Array.toList_push]; exact hm2.push hkk hvv
      ·simp [Instr.mapUpdate, run_underlying ht, hp, getObj, setObj, Sem.run, hm1, hck, hfk]
     ·cases h1
    ·cases h
   ·cases h
  ·cases h
 ·cases h
def eqFs (P : Program) (xs ys : List C) : List Field -> Option Bool
 | [] => some true
 | f :: fs => if f.name = "_" then none else match P.underlying f.type, xs[f.offset]?, ys[f.offset]? with
  | some d, some a, some b => if keyD d = true then (match eqK d a b with
   | some true => eqFs P xs ys fs
   | some false => some false
   | none => none) else none
  | _, _, _ => none
def aBinS (P : Program) (A : Operand -> Option S) (op : BinOp) (t : TypeId) (x y : Operand) : Option (S × Ef) := match S.v? (A x), S.v? (A y), P.underlying t with
 | some (.agg xs), some (.agg ys), some (.struct fs) => if P.stoodInHeld t = false /\ Program.eqGuardType P P.depth t = false then
   (match eqFs P xs ys fs.toList with
   | some b => (eqC op b).map fun c => (.v (.c c), .no 0)
   | none => none) else none
 | _, _, _ => none
theorem part_key {ft : TypeId} {d : TypeDesc} (hd : P.underlying ft = some d) (hk : keyD d = true) {m : List Value} {off : Nat} {v : Value} (h : m[off]? = some v) : (part ft m.toArray off).run P w = .ok v w := by
 have : isAg P ft = some false := by
  unfold isAg; rw [hd]
  cases d <;> first | rfl | cases hk
 simp [part, run_isAg this, h]
theorem eqK_eq {d : TypeDesc} {ft : TypeId} {a b : C} {r : Bool} {x y : Value} (hd : P.underlying ft = some d) (h : eqK d a b = some r) (hx : RC σ D a x) (hy : RC σ D b y) (q : Nat) : (Op.equalIn (q + 1) ft x y).run P w = .ok r w := by
 unfold eqK at h
 split at h
 ·cases hx; cases hy
  split at h
  ·rename_i hk
   subst hk
   cases h
   exact run_equalIn_int w q ft _ _ _ _ hd
  ·cases h
 ·cases hx; cases hy
  cases h
  have := fun (a b : ByteArray) => (show (Op.equalIn (q + 1) ft (.string a) (.string b)).run P w = .ok (a == b) w by simp only [Op.equalIn, Sem.run_bind, run_underlying hd, Result.andThen_ok]; rfl)
  rw [this, str_beq]
 ·cases hx; cases hy
  cases h
  exact run_equalIn_bool w q ft _ _ hd
 ·cases h
theorem eqFs_ok {xs ys : List C} {m m' : List Value} (hx : RL σ D xs m) (hy : RL σ D ys m') (q : Nat) : ∀ {fs : List Field} {b : Bool}, eqFs P xs ys fs = some b -> (Op.eqFields (q + 1) m.toArray m'.toArray fs).run P w = .ok b w
 | [], b, h => by simp only [eqFs, Option.some.injEq] at h; subst h; rfl
 | f :: fs, b, h => by
  simp only [eqFs] at h
  split at h
  ·cases h
  ·rename_i hn
   split at h
   ·rename_i d a c hd ha hc
    split at h
    ·rename_i hk
     obtain ⟨v, v1, v2⟩ := hx.get ha
     obtain ⟨u, u1, u2⟩ := hy.get hc
     have p1 := fun w => part_key (P := P) (w := w) hd hk v1
     have p2 := fun w => part_key (P := P) (w := w) hd hk u1
     simp only [Op.eqFields, hn, ne_eq, not_false_eq_true, if_true, Sem.run_bind, p1, p2, Result.andThen_ok]
     split at h
     ·rename_i he
      rw [eqK_eq hd he v2 u2 q]
      simp only [Result.andThen_ok, Bool.not_true, Bool.false_eq_true, if_false]
      exact eqFs_ok hx hy q h
     ·rename_i he
      cases h
      rw [eqK_eq hd he v2 u2 q]
      rfl
     ·cases h
    ·cases h
   ·cases h
theorem binS_ok {op : BinOp} {t ty : TypeId} {x y : Operand} {s : S} {e : Ef} (ho : o.op = .binOp op t x y ty) (hA : Eqv σ D A ρ) (h : aBinS P A op t x y = some (s, e)) (hs : Sat σ D (rst (tb e.F) H) w) : AOK P ρ o σ D w H n s e := by
 unfold aBinS at h
 split at h
 ·rename_i xs ys fs hx hy ht
  split at h
  ·rename_i hc
   split at h
   ·rename_i b hb
    rw [Option.map_eq_some_iff] at h
    obtain ⟨c, h1, h2⟩ := h
    cases h2
    obtain ⟨m, m1, m2⟩ := hA.v hx
    obtain ⟨m', n1, n2⟩ := hA.v hy
    have hfo : P.fieldsOf t = fs := by unfold Program.fieldsOf; rw [ht]
    have heq : (Op.equal t (ρ x) (ρ y)).run P w = .ok b w := by
     rw [m2, n2]
     show (Op.equalIn (9999 + 1) t _ _).run P w = _
     rw [run_equalIn_struct w 9999 t _ _ (by rw [hfo]; exact ht) hc.1, hfo]
     exact eqFs_ok m1 n1 9998 hb
    obtain ⟨v, g1, g2⟩ := eqC_ok (σ := σ) (D := D) h1 (t := t) (x := ρ x) (y := ρ y) (fun op' ho => by rw [m2, n2]; rcases ho with rfl | rfl <;> rfl) heq
    have hgd : (eqGuard op t x y (ρ x) (ρ y)).run P w = .ok () w := by
     rw [m2, n2]
     unfold eqGuard
     cases op <;> first | rfl | simp [hc.2]
    refine ⟨.value v, v, _, _, did_no hs ?_ (.inl rfl) g1⟩
    unfold execOp; rw [ho]
    simp [hgd, g2]
   ·cases h
  ·cases h
 ·cases h
def aBin2 (P : Program) (A : Operand -> Option S) (op : BinOp) (t : TypeId) (x y : Operand) : Option (S × Ef) := match aBin P A op t x y with
 | some r => some r
 | none => aBinS P A op t x y
theorem bin2_ok {op : BinOp} {t ty : TypeId} {x y : Operand} {s : S} {e : Ef} (ho : o.op = .binOp op t x y ty) (hA : Eqv σ D A ρ) (h : aBin2 P A op t x y = some (s, e)) (hs : Sat σ D (rst (tb e.F) H) w) : AOK P ρ o σ D w H n s e := by
 unfold aBin2 at h
 split at h
 ·rename_i r hr
  cases h
  exact bin_ok ho hA hr hs
 ·exact binS_ok ho hA h hs
end
end Ev
namespace Ev
open Go Go.RowKit Go.Maps
inductive T (α : Type) | lf | nd (v : Option α) (l r : T α)
def T.get {α : Type} : T α -> Nat -> Option α
 | .lf, _ => none
 | .nd v l r, k => match k with
  | 0 => v
  | k + 1 => match k % 2 with
   | 0 => l.get (k / 2)
   | _ + 1 => r.get (k / 2)
def T.v {α : Type} : T α -> Option α | .lf => none | .nd v _ _ => v
def T.l {α : Type} : T α -> T α | .lf => .lf | .nd _ l _ => l
def T.r {α : Type} : T α -> T α | .lf => .lf | .nd _ _ r => r
def T.set {α : Type} : Nat -> T α -> Nat -> α -> Option (T α)
 | 0, _, _, _ => none
 | f + 1, t, k, x => match k with
  | 0 => some (.nd (some x) t.l t.r)
  | k + 1 => match k % 2 with
   | 0 => (T.set f t.l (k / 2) x).map fun l => .nd t.v l t.r
   | _ + 1 => (T.set f t.r (k / 2) x).map fun r => .nd t.v t.l r
def T.put {α : Type} : Nat -> T α -> Nat -> α -> Option (T α)
 | 0, _, _, _ => none
 | f + 1, .lf, k, x => match k with
  | 0 => some (.nd (some x) .lf .lf)
  | k + 1 => match k % 2 with
   | 0 => (T.put f .lf (k / 2) x).map fun l => .nd none l .lf
   | _ + 1 => (T.put f .lf (k / 2) x).map fun r => .nd none .lf r
 | f + 1, .nd v l r, k, x => match k with
  | 0 => some (.nd (some x) l r)
  | k + 1 => match k % 2 with
   | 0 => (T.put f l (k / 2) x).map fun l => .nd v l r
   | _ + 1 => (T.put f r (k / 2) x).map fun r => .nd v l r
theorem T.put_eq {α : Type} : ∀ (f : Nat) (t : T α) (k : Nat) (x : α), T.put f t k x = T.set f t k x
 | 0, t, k, x => by cases t <;> rfl
 | f + 1, .lf, k, x => by
  have ih := T.put_eq (α := α) f
  cases k with
  | zero => rfl
  | succ k =>
   show (match k % 2 with | 0 => (T.put f .lf (k / 2) x).map _ | _ + 1 => (T.put f .lf (k / 2) x).map _) = _
   rw [ih]; rfl
 | f + 1, .nd v l r, k, x => by
  have ih := T.put_eq (α := α) f
  cases k with
  | zero => rfl
  | succ k =>
   show (match k % 2 with | 0 => (T.put f l (k / 2) x).map _ | _ + 1 => (T.put f r (k / 2) x).map _) = _
   rw [ih, ih]; rfl
theorem T.get_0 {α : Type} (t : T α) : t.get 0 = t.v := by cases t <;> simp [T.get, T.v]
theorem T.get_s {α : Type} (t : T α) (j : Nat) : t.get (j + 1) = match j % 2 with | 0 => t.l.get (j / 2) | _ + 1 => t.r.get (j / 2) := by
 cases t with
 | lf => simp only [T.get, T.l, T.r]; split <;> rfl
 | nd v l r => simp [T.get, T.l, T.r]
theorem half_ne {k j : Nat} (h : j ≠ k) (hm : j % 2 = k % 2) : j / 2 ≠ k / 2 := by omega
theorem T.get_set {α : Type} : ∀ {f : Nat} {t t' : T α} {k : Nat} {x : α}, t.set f k x = some t' -> ∀ j, t'.get j = if j = k then some x else t.get j
 | 0, _, _, _, _, h, _ => by simp [T.set] at h
 | f + 1, t, t', k, x, h, j => by
  cases k with
  | zero =>
   simp only [T.set, Option.some.injEq] at h
   subst h
   cases j with
   | zero => simp [T.get]
   | succ j => rw [T.get_s, T.get_s]; simp [T.l, T.r]
  | succ k =>
   simp only [T.set] at h
   split at h
   ·rename_i hm
    rw [Option.map_eq_some_iff] at h
    obtain ⟨l', h1, rfl⟩ := h
    cases j with
    | zero => rw [T.get_0, T.get_0]; simp [T.v]
    | succ j =>
     rw [T.get_s, T.get_s]
     simp only [T.l, T.r, Nat.add_right_cancel_iff]
     have ih := T.get_set h1 (j / 2)
     by_cases e : j = k
     ·subst e; simp [hm, ih]
     ·rw [if_neg e]
      cases hj : j % 2 with
      | zero => simp only; rw [ih, if_neg (half_ne e (by omega))]; rfl
      | succ q => rfl
   ·rename_i q hm
    rw [Option.map_eq_some_iff] at h
    obtain ⟨r', h1, rfl⟩ := h
    cases j with
    | zero => rw [T.get_0, T.get_0]; simp [T.v]
    | succ j =>
     rw [T.get_s, T.get_s]
     simp only [T.l, T.r, Nat.add_right_cancel_iff]
     have ih := T.get_set h1 (j / 2)
     by_cases e : j = k
     ·subst e; simp [hm, ih]
     ·rw [if_neg e]
      cases hj : j % 2 with
      | zero => rfl
      | succ q2 =>
       have hk : k % 2 < 2 := Nat.mod_lt _ (by decide)
       have hj2 : j % 2 < 2 := Nat.mod_lt _ (by decide)
       simp only; rw [ih, if_neg (half_ne e (by omega))]; rfl
theorem T.get_put {α : Type} {f : Nat} {t t' : T α} {k : Nat} {x : α} (h : t.put f k x = some t') : ∀ j, t'.get j = if j = k then some x else t.get j := T.get_set (by rw [<- T.put_eq]; exact h)
abbrev HT := T (Option AO)
def hg (t : HT) : Heap := fun i => (t.get i).join
def dep : Nat := 40
def Ef.apT (n : Nat) (t : HT) : Ef -> Option HT
 | .no _ => some t
 | .new _ o => t.put dep n (some o)
 | .set _ i o => t.put dep i (some o)
 | .mv _ i o => match t.put dep i none with
  | some t1 => t1.put dep n (some o)
  | none => none
theorem apT_ok {n : Nat} {t t' : HT} {e : Ef} (h : e.apT n t = some t') : hg t' = e.ap n (hg t) := by
 funext j
 cases e with
 | no F => simp only [Ef.apT, Option.some.injEq] at h; subst h; rfl
 | new F o => simp only [Ef.apT] at h; unfold hg; rw [T.get_put h]; simp only [Ef.ap]; split <;> rfl
 | set F i o => simp only [Ef.apT] at h; unfold hg; rw [T.get_put h]; simp only [Ef.ap]; split <;> rfl
 | mv F i o =>
  simp only [Ef.apT] at h
  split at h
  ·rename_i t1 h1
   unfold hg; rw [T.get_put h, T.get_put h1]; simp only [Ef.ap]; split
   ·rfl
   ·split <;> rfl
  ·cases h
def Ef.Wm : Ef -> Nat | .no _ => 0 | .new _ _ => 0 | .set _ i _ => one i | .mv _ i _ => one i
def Ef.chk (n : Nat) (t : HT) : Ef -> Bool
 | .no _ => true | .new _ _ => true
 | .set F i _ => (hg t i).isSome && tb F i && decide (i < n)
 | .mv F i _ => (hg t i).isSome && tb F i && decide (i < n)
def aop (P : Program) (H : Heap) (n : Nat) (A : Operand -> Option S) (o : Oper) : Option (S × Ef) := match o.op with
 | .move x => (A x).map fun s => (s, .no 0)
 | .assign x => (A x).map fun s => (s, .no 0)
 | .pick c x y => aPick A c x y
 | .alloc t => aAlloc P n t
 | .box t x => (S.v? (A x)).map fun v => (.v (.c (.ptr n 0)), .new 0 ⟨t, v.cells, false, .ok⟩)
 | .build t parts => aBuild P A t parts
 | .buildSlice t len parts => aBs P A n t len parts
 | .load t x => aLoad P H A t x
 | .store t x y => aStore P H A t x y
 | .nilCheck x => aNil A x
 | .binOp op t x y _ => aBin2 P A op t x y
 | .unOp op _ x => aUn A op x
 | .convert s d x => aConv P H A n s d x
 | .makeFunc fn a b => aMf A fn a b
 | .makeSlice t l c => aMake P A n t l c
 | .slice t x lo hi mx => aSl P A t x lo hi mx
 | .fieldAddr t x f => aFa P A t x f
 | .field t x f => aField P A t x f
 | .indexAddr t x y => aIa P A t x y
 | .index t x y => aIx P A t x y
 | .extract x i => aExt A x i
 | .makeMap t r => aMm n t r
 | .lookup t x y ok => aLk P H A t x y ok
 | .mapUpdate t x y z => aMu P H A t x y z
 | .call c => match c.callee, c.args.toList, c.argTypes.toList with
  | .builtin .len, [x], [t] => aLen P A t x
  | .builtin .cap, [x], [t] => aCap P A t x
  | .builtin .min, [x, y], _ => aMin A x y
  | .builtin .copy, [d, x], [t, _] => aCopy P H A t d x
  | .builtin .clear, [x], [t] => aClear P H A t x
  | .builtin .append, [s, x], [t, t2] => aApp P H A n t t2 s x
  | _, _, _ => none
 | _ => none
section
variable {P : Program} {ρ : Operand -> Value} {o : Oper} {σ : Nat -> Blk} {D : Nat -> Prop} {w : World} {H : Heap} {n : Nat} {A : Operand -> Option S}
theorem aop_ok {s : S} {e : Ef} (h : aop P H n A o = some (s, e)) (hA : Eqv σ D A ρ) (hD : n < e.n' n -> ¬ D n) (hs : Sat σ D (rst (tb e.F) H) w) : AOK P ρ o σ D w H n s e := by
 unfold aop at h
 split at h
 ·rename_i x ho
  rw [Option.map_eq_some_iff] at h
  obtain ⟨s', h1, h2⟩ := h
  cases h2; exact move_ok ho hA h1 hs
 ·rename_i x ho
  rw [Option.map_eq_some_iff] at h
  obtain ⟨s', h1, h2⟩ := h
  cases h2; exact assign_ok ho hA h1 hs
 ·rename_i ho; exact pick_ok ho hA h hs
 ·rename_i ho; exact alloc_ok ho hD h hs
 ·rename_i t x ho
  rw [Option.map_eq_some_iff] at h
  obtain ⟨s', h1, h2⟩ := h
  cases h2; exact box_ok ho hA (hD (Nat.lt_succ_self n)) h1 hs
 ·rename_i ho; exact build_ok ho hA h hs
 ·rename_i ho; exact bs_ok ho hA hD h hs
 ·rename_i ho; exact load_ok ho hA h hs
 ·rename_i ho; exact store_ok ho hA h hs
 ·rename_i ho; exact nil_ok ho hA h hs
 ·rename_i ho; exact bin2_ok ho hA h hs
 ·rename_i ho; exact un_ok ho hA h hs
 ·rename_i ho; exact conv_ok ho hA hD h hs
 ·rename_i ho; exact mf_ok ho hA h hs
 ·rename_i ho; exact make_ok ho hA hD h hs
 ·rename_i ho; exact sl_ok ho hA h hs
 ·rename_i ho; exact fa_ok ho hA h hs
 ·rename_i ho; exact field_ok ho hA h hs
 ·rename_i ho; exact ia_ok ho hA h hs
 ·rename_i ho; exact ix_ok ho hA h hs
 ·rename_i ho; exact ext_ok ho hA h hs
 ·rename_i ho; exact mm_ok ho hD h hs
 ·rename_i ho; exact lk_ok ho hA h hs
 ·rename_i ho; exact mu_ok ho hA h hs
 ·rename_i c ho
  have mk : ∀ {b : Builtin} {l : List Operand} {m : List TypeId}, c.callee = .builtin b -> c.args.toList = l -> c.argTypes.toList = m -> o.op = .call { callee := .builtin b, args := l.toArray, argTypes := m.toArray } := fun h1 h2 h3 => by
   rw [ho]
   cases c
   simp only at h1 h2 h3
   subst h1; subst h2; subst h3
   simp
  split at h
  ·rename_i x t h1 h2 h3; exact len_ok (mk h1 h2 h3) hA h hs
  ·rename_i x t h1 h2 h3; exact cap_ok (mk h1 h2 h3) hA h hs
  ·rename_i x y h1 h2; exact min_ok (mk h1 h2 rfl) hA h hs
  ·rename_i d x t t2 h1 h2 h3; exact copy_ok (mk h1 h2 h3) hA h hs
  ·rename_i x t h1 h2 h3; exact clear_ok (mk h1 h2 h3) hA h hs
  ·rename_i s x t t2 h1 h2 h3; exact app_ok (mk h1 h2 h3) hA hD h hs
  ·cases h
 ·cases h
end
structure Inv (H H' : Heap) (n n' F W : Nat) : Prop where
 le : n <= n'
 low : ∀ i, i < n -> tb W i = false -> H' i = H i
 dom : (∀ i, n <= i -> H i = none) -> ∀ i, n' <= i -> H' i = none
 sub : ∀ i, i < n -> tb W i = true -> tb F i = true
theorem tb_0 {i : Nat} : tb 0 i = false := by simp [tb]
theorem tb_one_ne {i j : Nat} (h : j ≠ i) : tb (one i) j = false := by
 unfold tb one
 rw [Nat.testBit_two_pow]
 simp; omega
theorem Ef.W_eq (e : Ef) : e.W = tb e.Wm := by
 funext j
 cases e with
 | no F => rw [Ef.Wm, tb_0]; rfl
 | new F o => rw [Ef.Wm, tb_0]; rfl
 | set F i o =>
  by_cases h : j = i
  ·subst h; rw [Ef.Wm, tb_one]; simp [Ef.W]
  ·rw [Ef.Wm, tb_one_ne h]; simp [Ef.W, h]
 | mv F i o =>
  by_cases h : j = i
  ·subst h; rw [Ef.Wm, tb_one]; simp [Ef.W]
  ·rw [Ef.Wm, tb_one_ne h]; simp [Ef.W, h]
theorem inv_ef {n : Nat} {t : HT} {e : Ef} (hc : e.chk n t = true) : Inv (hg t) (e.ap n (hg t)) n (e.n' n) e.F e.Wm := by
 cases e with
 | no F => exact ⟨Nat.le_refl _, fun _ _ _ => rfl, fun h => h, fun i _ h => by rw [Ef.Wm, tb_0] at h; cases h⟩
 | new F o => exact ⟨Nat.le_succ _, fun i hi _ => by simp [Ef.ap, Nat.ne_of_lt hi], fun h i hi => by
   have hn : i ≠ n := by simp only [Ef.n'] at hi; omega
   simp only [Ef.ap, if_neg hn]; exact h i (by simp only [Ef.n'] at hi; omega), fun i _ h => by rw [Ef.Wm, tb_0] at h; cases h⟩
 | set F k o =>
  simp only [Ef.chk, Bool.and_eq_true, decide_eq_true_eq] at hc
  obtain ⟨⟨h1, h2⟩, h3⟩ := hc
  refine ⟨Nat.le_refl _, fun i hi hw => ?_, fun h i hi => ?_, fun i _ h => ?_⟩
  ·have : i ≠ k := fun e => by subst e; rw [Ef.Wm, tb_one] at hw; cases hw
   simp [Ef.ap, this]
  ·have : i ≠ k := by simp only [Ef.n'] at hi; omega
   simp only [Ef.ap, if_neg this]; exact h i hi
  ·by_cases e : i = k
   ·subst e; exact h2
   ·rw [Ef.Wm, tb_one_ne e] at h; cases h
 | mv F k o =>
  simp only [Ef.chk, Bool.and_eq_true, decide_eq_true_eq] at hc
  obtain ⟨⟨h1, h2⟩, h3⟩ := hc
  refine ⟨Nat.le_succ _, fun i hi hw => ?_, fun h i hi => ?_, fun i _ h => ?_⟩
  ·have : i ≠ k := fun e => by subst e; rw [Ef.Wm, tb_one] at hw; cases hw
   simp [Ef.ap, this, Nat.ne_of_lt hi]
  ·have h4 : i ≠ k := by simp only [Ef.n'] at hi; omega
   have h5 : i ≠ n := by simp only [Ef.n'] at hi; omega
   simp only [Ef.ap, if_neg h5, if_neg h4]; exact h i (by simp only [Ef.n'] at hi; omega)
  ·by_cases e : i = k
   ·subst e; exact h2
   ·rw [Ef.Wm, tb_one_ne e] at h; cases h
theorem Inv.seq {H H1 H2 : Heap} {n n1 n2 F1 F2 W1 W2 : Nat} (a : Inv H H1 n n1 F1 W1) (b : Inv H1 H2 n1 n2 F2 W2) : Inv H H2 n n2 (F1 ||| F2) (W1 ||| W2) :=
 ⟨Nat.le_trans a.le b.le, fun i hi hw => by
  rw [tb_or, Bool.or_eq_false_iff] at hw
  rw [b.low i (Nat.lt_of_lt_of_le hi a.le) hw.2, a.low i hi hw.1], fun h => b.dom (a.dom h), fun i hi hw => by
  rw [tb_or] at hw ⊢
  cases h1 : tb W1 i with
  | true => rw [a.sub i hi h1]; rfl
  | false =>
   rw [h1, Bool.false_or] at hw
   rw [b.sub i (Nat.lt_of_lt_of_le hi a.le) hw, Bool.or_true]⟩
theorem Inv.refl (H : Heap) (n : Nat) : Inv H H n n 0 0 := ⟨Nat.le_refl _, fun _ _ _ => rfl, fun h => h, fun i _ h => by rw [tb_0] at h; cases h⟩
theorem more_more {D : Nat -> Prop} {n n1 n2 : Nat} (h1 : n <= n1) (h2 : n1 <= n2) : more (more D n n1) n1 n2 = more D n n2 := by
 funext i
 apply propext
 unfold more
 constructor
 ·rintro ((h | ⟨a, b⟩) | ⟨a, b⟩)
  ·exact .inl h
  ·exact .inr ⟨a, by omega⟩
  ·exact .inr ⟨by omega, b⟩
 ·rintro (h | ⟨a, b⟩)
  ·exact .inl (.inl h)
  ·by_cases c : i < n1
   ·exact .inl (.inr ⟨a, c⟩)
   ·exact .inr ⟨by omega, b⟩
theorem Sat.sub {σ : Nat -> Blk} {D : Nat -> Prop} {h g : Heap} {w : World} (hs : Sat σ D h w) (hg : ∀ i o, g i = some o -> h i = some o) : Sat σ D g w :=
 ⟨fun i o e => hs.obj i o (hg i o e), fun i j hi hj e => by
  obtain ⟨x, hx⟩ := Option.isSome_iff_exists.1 hi
  obtain ⟨y, hy⟩ := Option.isSome_iff_exists.1 hj
  exact hs.inj i j (some_of (hg i x hx)) (some_of (hg j y hy)) e⟩
theorem Out.trans {σ σ1 σ2 : Nat -> Blk} {D : Nat -> Prop} {w w1 w2 : World} {h h1 h2 : Heap} {n n1 n2 : Nat} {W1 W2 : Nat -> Bool} (hs : Sat σ D h w) (hD : ∀ i, n <= i -> i < n2 -> ¬ D i) (l1 : n <= n1) (l2 : n1 <= n2)
  (a : Out σ D w h h1 n n1 W1 σ1 w1) (b : Out σ1 (more D n n1) w1 h1 h2 n1 n2 W2 σ2 w2) : Out σ D w h h2 n n2 (fun i => W1 i || W2 i) σ2 w2 := by
 have hne : ∀ i, (h i).isSome = true -> ¬ (n <= i /\ i < n2) := fun i hh ⟨x, y⟩ => by
  obtain ⟨o, ho⟩ := Option.isSome_iff_exists.1 hh
  exact hD i x y (hs.obj i o ho).1
 have dead : ∀ j, (h j).isSome = true -> h1 j = none -> h2 j = none := fun j hj e => by
  cases e2 : h2 j with
  | none => rfl
  | some x =>
   have := b.old j (fun ⟨p, q⟩ => hne j hj ⟨by omega, q⟩) (some_of e2)
   rw [e] at this; cases this
 -- a block of an object that is alive behind the first piece
 have place : ∀ j, (h1 j).isSome = true -> (w.heap.size <= (σ1 j).b /\ (n <= j /\ j < n1)) ∨ (∃ i, W1 i = true /\ (h i).isSome = true /\ h1 i = none /\ (σ1 j).b = (σ i).b) ∨ (¬ (n <= j /\ j < n1) /\ (h j).isSome = true /\ σ1 j = σ j) := fun j hj => by
  by_cases c : n <= j /\ j < n1
  ·rcases a.new j c.1 c.2 hj with g | ⟨i, g1, g2, g3, g4⟩
   ·exact .inl ⟨g, c⟩
   ·exact .inr (.inl ⟨i, g1, g2, g3, g4⟩)
  ·exact .inr (.inr ⟨c, a.old j c hj, a.same j c⟩)
 refine ⟨fun i hi => ?_, ?_, ?_, fun i hi hh => ?_, fun i hi hi2 hh => ?_⟩
 ·rw [b.same i (fun ⟨p, q⟩ => hi ⟨by omega, q⟩), a.same i (fun ⟨p, q⟩ => hi ⟨p, by omega⟩)]
 ·have := b.sat
  rwa [more_more l1 l2] at this
 ·refine (a.tch.mono (G := fun k => ∃ i, (W1 i || W2 i) = true /\ (h i).isSome = true /\ k = (σ i).b) (fun k _ ⟨i, g1, g2, g3⟩ => ⟨i, by rw [g1]; rfl, g2, g3⟩)).trans b.tch (fun k hk ⟨i, g1, g2, g3⟩ => ?_)
  rcases place i g2 with ⟨c, _⟩ | ⟨j, c1, c2, c3, c4⟩ | ⟨c1, c2, c3⟩
  ·omega
  ·exact ⟨j, by rw [c1]; rfl, c2, by rw [g3, c4]⟩
  ·exact ⟨i, by rw [g1, Bool.or_true], c2, by rw [g3, c3]⟩
 ·exact a.old i (fun ⟨p, q⟩ => hi ⟨p, by omega⟩) (b.old i (fun ⟨p, q⟩ => hi ⟨by omega, q⟩) hh)
 ·by_cases c : n1 <= i
  ·rcases b.new i c hi2 hh with g | ⟨j, g1, g2, g3, g4⟩
   ·exact .inl (Nat.le_trans a.tch.size g)
   ·rcases place j g2 with ⟨c, _⟩ | ⟨j', c1, c2, c3, c4⟩ | ⟨c1, c2, c3⟩
    ·exact .inl (by rw [g4]; exact c)
    ·exact .inr ⟨j', by rw [c1]; rfl, c2, dead j' c2 c3, by rw [g4, c4]⟩
    ·exact .inr ⟨j, by rw [g1, Bool.or_true], c2, g3, by rw [g4, c3]⟩
  ·have hn : ¬ (n1 <= i /\ i < n2) := fun ⟨p, _⟩ => c p
   rcases a.new i hi (by omega) (b.old i hn hh) with g | ⟨j, g1, g2, g3, g4⟩
   ·exact .inl (by rw [b.same i hn]; exact g)
   ·exact .inr ⟨j, by rw [g1]; rfl, g2, dead j g2 g3, by rw [b.same i hn]; exact g4⟩
theorem out_seq {σ σ1 σ2 : Nat -> Blk} {D : Nat -> Prop} {w w1 w2 : World} {H H1 H2 : Heap} {n n1 n2 F1 F2 W1 W2 F : Nat} (hF1 : ∀ i, tb F1 i = true -> tb F i = true) (hF2 : ∀ i, tb F2 i = true -> tb F i = true) (hdom : ∀ i, n <= i -> H i = none)
  (i1 : Inv H H1 n n1 F1 W1) (i2 : Inv H1 H2 n1 n2 F2 W2) (hs : Sat σ D (rst (tb F) H) w) (hD : ∀ i, n <= i -> i < n2 -> ¬ D i)
  (a : Out σ D w (rst (tb F1) H) (aft (tb F1) n n1 H1) n n1 (tb W1) σ1 w1) :
  Sat σ1 (more D n n1) (rst (tb F2) H1) w1 /\ Sat σ1 (more D n n1) (aft (tb F) n n1 H1) w1 /\ (Out σ1 (more D n n1) w1 (rst (tb F2) H1) (aft (tb F2) n1 n2 H2) n1 n2 (tb W2) σ2 w2 -> Out σ D w (rst (tb F) H) (aft (tb F) n n2 H2) n n2 (fun i => tb W1 i || tb W2 i) σ2 w2) := by
 have e1 : upd (tb F1) n n1 (rst (tb F) H) (aft (tb F1) n n1 H1) = aft (tb F) n n1 H1 := by
  funext i
  unfold upd aft rst
  by_cases c : tb F1 i = true ∨ (n <= i /\ i < n1)
  ·have c2 : (tb F1 i || (decide (n <= i) && decide (i < n1))) = true := by simpa using c
   rw [if_pos c2, if_pos c, if_pos (c.imp (hF1 i) id)]
  ·have c2 : ¬ ((tb F1 i || (decide (n <= i) && decide (i < n1))) = true) := by simpa using c
   rw [if_neg c2]
   by_cases d : tb F i = true
   ·rw [if_pos d, if_pos (.inl d)]
    have cF : tb F1 i = false := by cases e : tb F1 i with | false => rfl | true => exact absurd (.inl e) c
    by_cases lt : i < n
    ·refine (i1.low i lt ?_).symm
     cases e : tb W1 i with
     | false => rfl
     | true => have := i1.sub i lt e; rw [cF] at this; cases this
    ·have : ¬ i < n1 := fun h => c (.inr ⟨by omega, h⟩)
     rw [hdom i (by omega), i1.dom hdom i (by omega)]
   ·rw [if_neg d, if_neg (fun h => h.elim d (fun h => c (.inr h)))]
 have hW1 : ∀ i, tb W1 i = true -> (rst (tb F1) H i).isSome = true -> tb F1 i = true := fun i _ h => by
  obtain ⟨x, hx⟩ := Option.isSome_iff_exists.1 h
  exact (rst_some.1 hx).1
 have a' : Out σ D w (rst (tb F) H) (aft (tb F) n n1 H1) n n1 (fun i => tb W1 i && tb F1 i) σ1 w1 := by
  rw [<- e1]
  refine frame hs (g := rst (tb F1) H) (F := tb F1) (fun i hi => ?_) (fun i hi => ?_) (fun i h1 h2 => hD i h1 (Nat.lt_of_lt_of_le h2 i2.le)) ?_ (fun i h => by simp at h; exact h.2)
  ·unfold rst; rw [if_pos hi, if_pos (hF1 i hi)]
  ·unfold rst; rw [if_neg (by rw [hi]; simp)]
  ·refine ⟨a.same, a.sat, a.tch.mono (fun k _ ⟨i, g1, g2, g3⟩ => ⟨i, by rw [g1, hW1 i g1 g2]; rfl, g2, g3⟩), a.old, fun i h1 h2 h3 => ?_⟩
   rcases a.new i h1 h2 h3 with g | ⟨j, g1, g2, g3, g4⟩
   ·exact .inl g
   ·exact .inr ⟨j, by rw [g1, hW1 j g1 g2]; rfl, g2, g3, g4⟩
 have s1 : Sat σ1 (more D n n1) (aft (tb F) n n1 H1) w1 := a'.sat
 refine ⟨s1.sub (fun i o e => ?_), s1, fun b => ?_⟩
 ·obtain ⟨g1, g2⟩ := rst_some.1 e
  exact aft_some.2 ⟨.inl (hF2 i g1), g2⟩
 ·have e2 : upd (tb F2) n1 n2 (aft (tb F) n n1 H1) (aft (tb F2) n1 n2 H2) = aft (tb F) n n2 H2 := by
   funext i
   unfold upd aft
   by_cases c : tb F2 i = true ∨ (n1 <= i /\ i < n2)
   ·have c2 : (tb F2 i || (decide (n1 <= i) && decide (i < n2))) = true := by simpa using c
    rw [if_pos c2, if_pos c, if_pos (c.imp (hF2 i) (fun ⟨p, q⟩ => ⟨Nat.le_trans i1.le p, q⟩))]
   ·have c2 : ¬ ((tb F2 i || (decide (n1 <= i) && decide (i < n2))) = true) := by simpa using c
    rw [if_neg c2]
    have cF : tb F2 i = false := by cases e : tb F2 i with | false => rfl | true => exact absurd (.inl e) c
    have same : H1 i = H2 i := by
     by_cases lt : i < n1
     ·refine (i2.low i lt ?_).symm
      cases e : tb W2 i with
      | false => rfl
      | true => have := i2.sub i lt e; rw [cF] at this; cases this
     ·have : ¬ i < n2 := fun h => c (.inr ⟨by omega, h⟩)
      rw [i1.dom hdom i (by omega), i2.dom (i1.dom hdom) i (by omega)]
    by_cases d : tb F i = true ∨ (n <= i /\ i < n1)
    ·rw [if_pos d, if_pos (d.imp id (fun ⟨p, q⟩ => ⟨p, Nat.lt_of_lt_of_le q i2.le⟩)), same]
    ·rw [if_neg d]
     by_cases d2 : tb F i = true ∨ (n <= i /\ i < n2)
     ·exfalso
      rcases d2 with d2 | ⟨p, q⟩
      ·exact d (.inl d2)
      ·by_cases lt : i < n1
       ·exact d (.inr ⟨p, lt⟩)
       ·exact c (.inr ⟨by omega, q⟩)
     ·rw [if_neg d2]
  have hW2 : ∀ i, tb W2 i = true -> (rst (tb F2) H1 i).isSome = true -> tb F2 i = true := fun i _ h => by
   obtain ⟨x, hx⟩ := Option.isSome_iff_exists.1 h
   exact (rst_some.1 hx).1
  have hD2 : ∀ i, n1 <= i -> i < n2 -> ¬ more D n n1 i := fun i p q h => h.elim (hD i (Nat.le_trans i1.le p) q) (fun ⟨_, r⟩ => by omega)
  have b' : Out σ1 (more D n n1) w1 (aft (tb F) n n1 H1) (aft (tb F) n n2 H2) n1 n2 (fun i => tb W2 i && tb F2 i) σ2 w2 := by
   rw [<- e2]
   refine frame s1 (g := rst (tb F2) H1) (F := tb F2) (fun i hi => ?_) (fun i hi => ?_) hD2 ?_ (fun i h => by simp at h; exact h.2)
   ·unfold rst aft; rw [if_pos hi, if_pos (.inl (hF2 i hi))]
   ·unfold rst; rw [if_neg (by rw [hi]; simp)]
   ·refine ⟨b.same, b.sat, b.tch.mono (fun k _ ⟨i, g1, g2, g3⟩ => ⟨i, by rw [g1, hW2 i g1 g2]; rfl, g2, g3⟩), b.old, fun i h1 h2 h3 => ?_⟩
    rcases b.new i h1 h2 h3 with g | ⟨j, g1, g2, g3, g4⟩
    ·exact .inl g
    ·exact .inr ⟨j, by rw [g1, hW2 j g1 g2]; rfl, g2, g3, g4⟩
  have t := Out.trans hs hD i1.le i2.le a' b'
  have wk : ∀ i, ((tb W1 i && tb F1 i) || (tb W2 i && tb F2 i)) = true -> (tb W1 i || tb W2 i) = true := fun i h => by
   cases h1 : tb W1 i <;> cases h2 : tb W2 i <;> simp_all
  exact ⟨t.same, t.sat, t.tch.mono (fun k _ ⟨i, g1, g2, g3⟩ => ⟨i, wk i g1, g2, g3⟩), t.old, fun i h1 h2 h3 => (t.new i h1 h2 h3).imp id (fun ⟨j, g1, g2, g3, g4⟩ => ⟨j, wk j g1, g2, g3, g4⟩)⟩
end Ev
end Go.Proofs.YtafndmnbnmlklaaGreat
