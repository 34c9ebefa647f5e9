/- The operations on abstract values, and that they tell the truth: more of maps; what goes over a map; how much a channel holds. No condition. -/
import Derived.Test.YtcmlgmiomcegeaaGreatEwM
namespace Go.Proofs.YtcmlgmiomcegeaaGreat.Ev
open Go Go.RowKit Go.Maps
set_option linter.unusedVariables false
set_option linter.unusedSimpArgs false
set_option linter.unusedSectionVars false
variable [Env]

section
variable {P : Program} {ρ : Operand → Value} {o : Oper} {σ : Nat → Blk} {D : Nat → Prop} {w : World} {H : Heap} {n : Nat} {A : Operand → Option S}
theorem RM.length {σ : Nat → Blk} {D : Nat → Prop} : ∀ {es : List (C × V × Nat)} {m : List MapEntry}, RM σ D es m → m.length = es.length
  | [], [], _ => rfl
  | _ :: _, _ :: _, h => by rw [List.length_cons, List.length_cons, h.2.length]
theorem rvl_length {σ : Nat → Blk} {D : Nat → Prop} : ∀ {l : List V} {m : List Value}, RVL σ D l m → m.length = l.length
  | [], [], _ => rfl
  | _ :: _, _ :: _, h => by rw [List.length_cons, List.length_cons, rvl_length h.2]
theorem RM.get {σ : Nat → Blk} {D : Nat → Prop} : ∀ {es : List (C × V × Nat)} {m : List MapEntry} {j : Nat} {e : C × V × Nat}, RM σ D es m → es[j]? = some e → ∃ q, m[j]? = some q ∧ RC σ D e.1 q.key ∧ RV σ D e.2.1 q.val ∧ q.born = e.2.2
  | [], [], _, _, _, h => by simp at h
  | a :: l, b :: m, 0, e, h, he => by
    simp only [List.getElem?_cons_zero, Option.some.injEq] at he
    subst he
    exact ⟨b, rfl, h.1⟩
  | a :: l, b :: m, j + 1, e, h, he => by
    obtain ⟨q, h1, h2⟩ := h.2.get (by simpa using he)
    exact ⟨q, by simpa using h1, h2⟩
theorem RM.erase {σ : Nat → Blk} {D : Nat → Prop} : ∀ {es : List (C × V × Nat)} {m : List MapEntry} (j : Nat), RM σ D es m → RM σ D (es.eraseIdx j) (m.eraseIdx j)
  | [], [], _, _ => trivial
  | _ :: _, _ :: _, 0, h => h.2
  | _ :: _, _ :: _, j + 1, h => ⟨h.1, RM.erase j h.2⟩
def aLenM (P : Program) (H : Heap) (A : Operand → Option S) (t : TypeId) (x : Operand) : Option (S × Ef) := match S.c? (A x), P.underlying t with
  | some (.map i), some (.map _ _) => match H i with
    | some ob => match ob.k with
      | .mp es _ => some (.v (.c (.int .i64 es.length)), .no (one i))
      | _ => none
    | none => none
  | some (.ch i), some (.chan _ _) => match H i with
    | some ob => match ob.k with
      | .ch _ buf => some (.v (.c (.int .i64 buf.length)), .no (one i))
      | _ => none
    | none => none
  | _, _ => none
theorem chan_of {F i : Nat} {ob : AO} {room : Nat} {buf : List V} (hs : Sat σ D (rst (tb F) H) w) (hF : tb F i = true) (ho : H i = some ob) (hk : ob.k = .ch room buf) : D i ∧ ObjChan σ D i room buf w := by
  obtain ⟨h1, h2⟩ := obj_of hs hF ho
  unfold ObjAt at h2
  rw [hk] at h2
  exact ⟨h1, h2.2⟩
theorem iter_of {F i : Nat} {ob : AO} {m since last : Nat} {seen : List Nat} (hs : Sat σ D (rst (tb F) H) w) (hF : tb F i = true) (ho : H i = some ob) (hk : ob.k = .it m since seen last) : D i ∧ ObjIter σ D i m since seen last w := by
  obtain ⟨h1, h2⟩ := obj_of hs hF ho
  unfold ObjAt at h2
  rw [hk] at h2
  exact ⟨h1, h2.2⟩
theorem lenM_ok {t : TypeId} {x : Operand} {s : S} {e : Ef} (ho : o.op = .call { callee := .builtin .len, args := #[x], argTypes := #[t] }) (hA : Eqv σ D A ρ) (h : aLenM P H A t x = some (s, e)) (hs : Sat σ D (rst (tb e.F) H) w) : AOK P ρ o σ D w H n s e := by
  unfold aLenM at h
  split at h
  · rename_i i kt et hx ht
    split at h
    · rename_i ob hob
      split at h
      · rename_i es cl hk
        cases h
        obtain ⟨_, m, h1, h2⟩ := map_of hs tb_one hob hk
        have hp := (hA.c hx).2
        have hl := h2.length
        rw [Array.length_toList] at hl
        exact ⟨_, .int .i64 es.length, _, _, did_no hs (run_bi ho (fun _ => rfl) (by simp [Builtin.len_, run_underlying ht, hp, goInt, getObj, Sem.run, h1, hl])) (.inl rfl) rfl⟩
      · cases h
    · cases h
  · rename_i i d et hx ht
    split at h
    · rename_i ob hob
      split at h
      · rename_i room buf hk
        cases h
        obtain ⟨_, vs, s', r, h1, h2⟩ := chan_of hs tb_one hob hk
        have hp := (hA.c hx).2
        have hl := rvl_length h2
        exact ⟨_, .int .i64 buf.length, _, _, did_no hs (run_bi ho (fun _ => rfl) (by simp [Builtin.len_, run_underlying ht, hp, goInt, getObj, Sem.run, h1, hl])) (.inl rfl) rfl⟩
      · cases h
    · cases h
  · cases h
/-- An entry goes. -/
def aDel (P : Program) (H : Heap) (A : Operand → Option S) (t : TypeId) (x y : Operand) : Option (S × Ef) := match P.underlying t, S.c? (A x), S.c? (A y) with
  | some (.map kt _), some (.map i), some k => match P.underlying kt, H i with
    | some d, some ob => match ob.k with
      | .mp es cl => if keyD d = true then (match findK d k es 0 with
        | some (some (j, _)) => some (.tup [], .set (one i) i ⟨ob.ty, [], ob.opn, .mp (es.eraseIdx j) cl⟩)
        | some none => some (.tup [], .set (one i) i ⟨ob.ty, [], ob.opn, .mp es cl⟩)
        | none => none) else none
      | _ => none
    | _, _ => none
  | _, _, _ => none
theorem del_ok {t t2 : TypeId} {x y : Operand} {s : S} {e : Ef} (ho : o.op = .call { callee := .builtin .delete, args := #[x, y], argTypes := #[t, t2] }) (hA : Eqv σ D A ρ) (h : aDel P H A t x y = some (s, e)) (hs : Sat σ D (rst (tb e.F) H) w) : AOK P ρ o σ D w H n s e := by
  unfold aDel at h
  split at h
  · rename_i kt et i k ht hx hy
    split at h
    · rename_i d ob hd hob
      split at h
      · rename_i es cl hes
        split at h
        · rename_i hkd
          have fin : ∀ (es' : List (C × V × Nat)) (m' : Array MapEntry), Sat σ D (rst (tb (one i)) H) w → (σ i).b < w.heap.size → RM σ D es' m'.toList → (Builtin.delete_ #[t, t2] o.type #[ρ x, ρ y]).run P w = .ok (.tuple #[]) { w with heap := w.heap.setIfInBounds (σ i).b (.map m' cl) } → AOK P ρ o σ D w H n (.tup []) (.set (one i) i ⟨ob.ty, [], ob.opn, .mp es' cl⟩) := fun es' m' hs hlt hm hr => by
            refine ⟨.value (.tuple #[]), .tuple #[], _, _, did_set (w' := { w with heap := w.heap.setIfInBounds (σ i).b (.map m' cl) }) hs tb_one (by rw [hob]; rfl) ?_ (.inl rfl) ⟨[], trivial, rfl⟩ heap_set_tch ?_⟩
            · exact run_bi ho (fun _ => rfl) (by simpa using hr)
            · exact ⟨rfl, m', by show (w.heap.setIfInBounds (σ i).b _)[(σ i).b]? = _; simp [hlt], hm⟩
          have hck := fun b v w => run_checkKey (P := P) hd hkd b v w
          split at h
          · rename_i j vb hf
            cases h
            obtain ⟨hDi, m, hm1, hm2⟩ := map_of hs tb_one hob hes
            have hp := (hA.c hx).2
            have hlt : (σ i).b < w.heap.size := (Array.getElem?_eq_some_iff.1 hm1).1
            obtain ⟨v, b⟩ := vb
            obtain ⟨u, g1, g2, g3, e', q, g4, g5, g6, g7, g8, g9⟩ := findK_ok (hA.c hy) hf hm2
            have hfk := fun w => run_findKey (P := P) hd g1 w
            rw [Nat.sub_zero] at g5
            have hjl : j < m.size := by rw [← Array.length_toList]; exact (List.getElem?_eq_some_iff.1 g5).1
            refine fin (es.eraseIdx j) (m.eraseIdxIfInBounds j) hs hlt ?_ ?_
            · have : (m.eraseIdxIfInBounds j).toList = m.toList.eraseIdx j := by
                unfold Array.eraseIdxIfInBounds
                rw [dif_pos hjl]
                simp
              rw [this]
              exact hm2.erase j
            · simp [Builtin.delete_, run_underlying ht, hp, getObj, setObj, Sem.run, hm1, hck, hfk]
          · rename_i hf
            cases h
            obtain ⟨hDi, m, hm1, hm2⟩ := map_of hs tb_one hob hes
            have hp := (hA.c hx).2
            have hlt : (σ i).b < w.heap.size := (Array.getElem?_eq_some_iff.1 hm1).1
            have g1 := findK_ok (hA.c hy) hf hm2
            simp only at g1
            have hfk := fun w => run_findKey (P := P) hd g1 w
            refine fin es m hs hlt hm2 ?_
            simp [Builtin.delete_, run_underlying ht, hp, getObj, setObj, Sem.run, hm1, hck, hfk]
          · cases h
        · cases h
      · cases h
    · cases h
  · cases h
/-- What a look at an entry that is to be written yields: what stands there, and its stamp. -/
def aMe (P : Program) (H : Heap) (A : Operand → Option S) (t : TypeId) (x y : Operand) : Option (S × Ef) := match P.underlying t, S.c? (A x), S.c? (A y) with
  | some (.map kt et), some (.map i), some k => match P.underlying kt, H i with
    | some d, some ob => match ob.k with
      | .mp es cl => if keyD d = true then (match findK d k es 0 with
        | some (some (j, v, b)) => some (.tup [v, .c (.int .i64 (b : Nat))], .set (one i) i ⟨ob.ty, [], ob.opn, .mp (es.set j (k, v, b)) cl⟩)
        | some none => match (P.info? et).bind (·.zero) with
          | some z => (absV z).map fun v => (.tup [v, .c (.int .i64 (cl : Nat))], .set (one i) i ⟨ob.ty, [], ob.opn, .mp (es ++ [(k, v, cl)]) (cl + 1)⟩)
          | none => none
        | none => none) else none
      | _ => none
    | _, _ => none
  | _, _, _ => none
theorem me_ok {t : TypeId} {x y : Operand} {s : S} {e : Ef} (ho : o.op = .mapEntry t x y) (hA : Eqv σ D A ρ) (h : aMe P H A t x y = some (s, e)) (hs : Sat σ D (rst (tb e.F) H) w) : AOK P ρ o σ D w H n s e := by
  unfold aMe at h
  split at h
  · rename_i kt et i k ht hx hy
    split at h
    · rename_i d ob hd hob
      split at h
      · rename_i es cl hes
        split at h
        · rename_i hkd
          have fin : ∀ (es' : List (C × V × Nat)) (m' : Array MapEntry) (cl' : Nat) (v : V) (u : Value) (b : Nat), Sat σ D (rst (tb (one i)) H) w → (σ i).b < w.heap.size → RM σ D es' m'.toList → RV σ D v u → (Instr.mapEntry t (ρ x) (ρ y)).run P w = .ok (.tuple #[u, .int .i64 (b : Nat)]) { w with heap := w.heap.setIfInBounds (σ i).b (.map m' cl') } → AOK P ρ o σ D w H n (.tup [v, .c (.int .i64 (b : Nat))]) (.set (one i) i ⟨ob.ty, [], ob.opn, .mp es' cl'⟩) := fun es' m' cl' v u b hs hlt hm hv hr => by
            refine ⟨.value _, .tuple #[u, .int .i64 (b : Nat)], _, _, did_set (w' := { w with heap := w.heap.setIfInBounds (σ i).b (.map m' cl') }) hs tb_one (by rw [hob]; rfl) ?_ (.inl rfl) ⟨[u, .int .i64 (b : Nat)], ⟨hv, rfl, trivial⟩, rfl⟩ heap_set_tch ?_⟩
            · unfold execOp; rw [ho]; simp [hr]
            · exact ⟨rfl, m', by show (w.heap.setIfInBounds (σ i).b _)[(σ i).b]? = _; simp [hlt], hm⟩
          have hck := fun b v w => run_checkKey (P := P) hd hkd b v w
          split at h
          · rename_i j v b hf
            cases h
            obtain ⟨hDi, m, hm1, hm2⟩ := map_of hs tb_one hob hes
            have hp := (hA.c hx).2
            have hkk := hA.c hy
            have hlt : (σ i).b < w.heap.size := (Array.getElem?_eq_some_iff.1 hm1).1
            obtain ⟨u, g1, g2, g3, e', q, g4, g5, g6, g7, g8, g9⟩ := findK_ok hkk hf hm2
            rw [Nat.sub_zero] at g4 g5
            have hfk := fun w => run_findKey (P := P) hd g1 w
            have hst := fun w => run_stays (P := P) g7 hkk g6 w
            have hqa : m[j]? = some q := by rw [← Array.getElem?_toList]; exact g5
            refine fin (es.set j (k, v, b)) (m.modify j fun e => { e with key := ρ y }) cl v u b hs hlt ?_ g2 ?_
            · have hmod : (m.modify j fun e => { e with key := ρ y }).toList = m.toList.set j { q with key := ρ y } := by
                apply List.ext_getElem?
                intro p
                rw [Array.getElem?_toList, Array.getElem?_modify, List.getElem?_set, Array.getElem?_toList]
                by_cases e : j = p
                · subst e
                  obtain ⟨hlt2, hq2⟩ := Array.getElem?_eq_some_iff.1 hqa
                  simp [hlt2, hq2]
                · simp [e]
              rw [hmod]
              exact hm2.set hkk (by rw [g9]; exact g2) g8
            · simp [Instr.mapEntry, run_underlying ht, hp, getObj, setObj, Sem.run, hm1, hck, hfk, hqa, hst, goInt, g8]
          · rename_i hf
            split at h
            · rename_i z hz
              rw [Option.map_eq_some_iff] at h
              obtain ⟨v, h1, h2⟩ := h
              cases h2
              obtain ⟨hDi, m, hm1, hm2⟩ := map_of hs tb_one hob hes
              have hp := (hA.c hx).2
              have hkk := hA.c hy
              have hlt : (σ i).b < w.heap.size := (Array.getElem?_eq_some_iff.1 hm1).1
              have g1 := findK_ok hkk hf hm2
              simp only at g1
              have hfk := fun w => run_findKey (P := P) hd g1 w
              have hzv : ∀ w, (zeroValue et).run P w = .ok z w := fun w => by
                cases hi : P.info? et with
                | none => rw [hi] at hz; cases hz
                | some inf =>
                  rw [hi] at hz
                  have hz' : inf.zero = some z := hz
                  simp [zeroValue, typeInfo, hi, hz']
              refine fin (es ++ [(k, v, cl)]) (m.push { key := ρ y, val := z, born := cl }) (cl + 1) v z cl hs hlt ?_ (absV_ok h1) ?_
              · rw [Array.toList_push]; exact hm2.push hkk (absV_ok h1) rfl
              · simp [Instr.mapEntry, run_underlying ht, hp, getObj, setObj, Sem.run, hm1, hck, hfk, hzv, goInt]
            · cases h
          · cases h
        · cases h
      · cases h
    · cases h
  · cases h
/-- Where the entry of a stamp stands. -/
def bornAt (b : Int) : List (C × V × Nat) → Nat → Option (Nat × C)
  | [], _ => none
  | e :: es, j => if (e.2.2 : Int) == b then some (j, e.1) else bornAt b es (j + 1)
theorem bornAt_ok {b : Int} : ∀ {es : List (C × V × Nat)} {m : List MapEntry} {i j : Nat} {k : C}, bornAt b es i = some (j, k) → RM σ D es m → i ≤ j ∧ m.findIdx? (fun e => (e.born : Int) == b) = some (j - i) ∧ ∃ v bb q, es[j - i]? = some (k, v, bb) ∧ m[j - i]? = some q ∧ RC σ D k q.key ∧ q.born = bb
  | [], _, _, _, _, h, _ => by cases h
  | e :: es, q :: m, i, j, k, h, hm => by
    unfold bornAt at h
    by_cases c : ((e.2.2 : Int) == b) = true
    · rw [if_pos c] at h
      simp only [Option.some.injEq, Prod.mk.injEq] at h
      obtain ⟨rfl, rfl⟩ := h
      refine ⟨Nat.le_refl _, ?_, e.2.1, e.2.2, q, by simp, by simp, hm.1.1, hm.1.2.2⟩
      rw [List.findIdx?_cons, hm.1.2.2, c]; simp
    · rw [if_neg c] at h
      obtain ⟨g1, g2, v, bb, q', g3, g4, g5⟩ := bornAt_ok h hm.2
      obtain ⟨p, hp⟩ : ∃ p, j - i = p + 1 := ⟨j - i - 1, by omega⟩
      have hp2 : j - (i + 1) = p := by omega
      rw [hp2] at g2 g3 g4
      refine ⟨by omega, ?_, v, bb, q', ?_, ?_, g5⟩
      · rw [List.findIdx?_cons, hm.1.2.2, if_neg c, g2, hp]; rfl
      · rw [hp, List.getElem?_cons_succ]; exact g3
      · rw [hp, List.getElem?_cons_succ]; exact g4
def aEs (H : Heap) (A : Operand → Option S) (x y z : Operand) : Option (S × Ef) := match S.c? (A x), S.c? (A y), S.v? (A z) with
  | some (.map i), some (.int _ b), some v => match H i with
    | some ob => match ob.k with
      | .mp es cl => match bornAt b es 0 with
        | some (j, k) => match es[j]? with
          | some e => some (.un, .set (one i) i ⟨ob.ty, [], ob.opn, .mp (es.set j (k, v, e.2.2)) cl⟩)
          | none => none
        | none => none
      | _ => none
    | none => none
  | _, _, _ => none
theorem es_ok {t : TypeId} {x y z : Operand} {s : S} {e : Ef} (ho : o.op = .entryStore t x y z) (hA : Eqv σ D A ρ) (h : aEs H A x y z = some (s, e)) (hs : Sat σ D (rst (tb e.F) H) w) : AOK P ρ o σ D w H n s e := by
  unfold aEs at h
  split at h
  · rename_i i kd b v hx hy hz
    split at h
    · rename_i ob hob
      split at h
      · rename_i es cl hes
        split at h
        · rename_i j k hb
          split at h
          · rename_i e0 he0
            cases h
            obtain ⟨hDi, m, hm1, hm2⟩ := map_of hs tb_one hob hes
            have hp := (hA.c hx).2
            have hpb : ρ y = .int kd b := hA.c hy
            have hvv := hA.v hz
            have hlt : (σ i).b < w.heap.size := (Array.getElem?_eq_some_iff.1 hm1).1
            obtain ⟨_, g2, v0, bb, q, g3, g4, g5, g6⟩ := bornAt_ok hb hm2
            rw [Nat.sub_zero] at g2 g3 g4
            rw [g3] at he0
            cases he0
            have hqa : m[j]? = some q := by rw [← Array.getElem?_toList]; exact g4
            have hfi : m.findIdx? (fun e => (e.born : Int) == b) = some j := by rw [← List.findIdx?_toArray] at g2; simpa using g2
            refine ⟨.skip, undef, _, _, did_set (w' := { w with heap := w.heap.setIfInBounds (σ i).b (.map (m.modify j fun e => { e with val := ρ z }) cl) }) hs tb_one (by rw [hob]; rfl) ?_ (.inr ⟨rfl, rfl⟩) rfl heap_set_tch ?_⟩
            · unfold execOp; rw [ho]
              simp [Instr.entryStore, hp, hpb, getObj, setObj, Sem.run, hm1, asInt, asIntOf, hfi]
            · refine ⟨rfl, _, by show (w.heap.setIfInBounds (σ i).b _)[(σ i).b]? = _; simp [hlt]; rfl, ?_⟩
              have hmod : (m.modify j fun e => { e with val := ρ z }).toList = m.toList.set j { q with val := ρ z } := by
                apply List.ext_getElem?
                intro p
                rw [Array.getElem?_toList, Array.getElem?_modify, List.getElem?_set, Array.getElem?_toList]
                by_cases e : j = p
                · subst e
                  obtain ⟨hlt2, hq2⟩ := Array.getElem?_eq_some_iff.1 hqa
                  simp [hlt2, hq2]
                · simp [e]
              rw [hmod]
              exact hm2.set g5 hvv g6
          · cases h
        · cases h
      · cases h
    · cases h
  · cases h
/-! ### A channel is made -/
def aMc (P : Program) (A : Operand → Option S) (n : Nat) (t : TypeId) (x : Operand) : Option (S × Ef) := match natOf (A x), P.underlying t with
  | some k, some (.chan _ el) => match P.info? el with
    | some inf => if k ≤ 1000000 ∧ inf.bytes ≤ 1000000 then some (.v (.c (.ch n)), .new 0 ⟨0, [], false, .ch k []⟩) else none
    | none => none
  | _, _ => none
theorem mc_ok {t : TypeId} {x : Operand} {s : S} {e : Ef} (ho : o.op = .makeChan t x) (hA : Eqv σ D A ρ) (hD : n < e.n' n → ¬ D n) (h : aMc P A n t x = some (s, e)) (hs : Sat σ D (rst (tb e.F) H) w) : AOK P ρ o σ D w H n s e := by
  unfold aMc at h
  split at h
  · rename_i k d el hk ht
    split at h
    · rename_i inf hi
      split at h
      · rename_i hb
        cases h
        obtain ⟨q, hq⟩ := natOf_ok hA hk
        have hDn := hD (Nat.lt_succ_self n)
        refine ⟨_, .chan (some w.heap.size), _, _, did_new (k := ⟨w.heap.size, 0⟩) (w' := w.alloc (.chan k #[] false 0 0 false)) hs hDn ?_ (.inl rfl) ⟨.inr ⟨Nat.le_refl _, Nat.lt_succ_self _⟩, by rw [at_same]⟩ (Tch.alloc _ _) (Nat.le_refl _) ?_⟩
        · unfold execOp; rw [ho]
          have hm : inf.bytes * k ≤ 1000000000000 := Nat.le_trans (Nat.mul_le_mul hb.2 hb.1) (by decide)
          have hm2 : (inf.bytes : Int) * k ≤ 281474976710544 := by
            have h4 : ((inf.bytes * k : Nat) : Int) ≤ ((1000000000000 : Nat) : Int) := Int.ofNat_le.2 hm
            rw [Int.natCast_mul] at h4
            omega
          have n1 : ¬ ((k : Int) < 0) := by omega
          have n2 : ¬ (9223372036854775807 < (k : Int)) := by omega
          have n3 : ¬ (281474976710544 < (inf.bytes : Int) * k) := by omega
          simp only [hq]
          have h2 : (Instr.makeChan t (.int q k)).run P w = .ok (.chan (some w.heap.size)) (w.alloc (.chan k #[] false 0 0 false)) := by
            simp [Instr.makeChan, asInt, asIntOf, run_underlying ht, typeInfo, hi, n1, n2, n3, IntKind.max, IntKind.bits, IntKind.signed]
          rw [Sem.run_bind]
          rw [h2]; rfl
        · exact ⟨rfl, [], 0, 0, by rw [at_same]; exact heap_alloc_new _ _, trivial⟩
      · cases h
    · cases h
  · cases h
/-! ### Slices once more: with three bounds; to what is known behind the length -/
theorem bounds3_ok {lo : Option Operand} {x3 y3 : Operand} {len cap l hh m : Nat} (hA : Eqv σ D A ρ) (hl : lowOf A lo = some l) (hh1 : natOf (A x3) = some hh) (hm : natOf (A y3) = some m) (h1 : l ≤ hh) (h2 : hh ≤ m) (h3 : m ≤ cap) :
    (Instr.sliceBounds true len cap (lo.map ρ) (some (ρ x3)) (some (ρ y3))).run P w = .ok (l, hh, m) w := by
  obtain ⟨q2, e2⟩ := natOf_ok hA hh1
  obtain ⟨q3, e3⟩ := natOf_ok hA hm
  cases lo with
  | none =>
    simp only [lowOf, Option.some.injEq] at hl; subst hl
    simp [Instr.sliceBounds, Instr.sliceBound, e2, e3, asIntOf, h2, h3]
  | some x =>
    obtain ⟨q, e⟩ := natOf_ok hA hl
    simp [Instr.sliceBounds, Instr.sliceBound, e, e2, e3, asIntOf, h1, h2, h3]
def capC (len : Nat) : Cp → Nat | .ex c => c | .op _ => len
def aSl2 (P : Program) (H : Heap) (A : Operand → Option S) (t : TypeId) (x : Operand) (lo hi mx : Option Operand) : Option (S × Ef) := match S.c? (A x), P.underlying t with
  | some (.sl i off len cp), some (.slice el) => match mx, hi with
    | some y3, some x3 => match lowOf A lo, natOf (A x3), natOf (A y3), szOf P el with
      | some l, some h, some m, some sz => if l ≤ h ∧ h ≤ m ∧ m ≤ capC len cp then some (.v (.c (if m = l then .se else .sl i (off + l * sz) (h - l) (.ex (m - l)))), .no 0) else none
      | _, _, _, _ => none
    | none, _ => match cp, lowOf A lo, highOf A len hi, szOf P el, H i with
      | .op s1, some l, some h, some sz, some ob => if l < h ∧ off + h * sz ≤ ob.cs.length ∧ s1 = sz ∧ 0 < sz then some (.v (.c (.sl i (off + l * sz) (h - l) (.op sz))), .no (one i)) else none
      | _, _, _, _, _ => none
    | _, _ => none
  | _, _ => none
theorem sl2_ok {t : TypeId} {x : Operand} {lo hi mx : Option Operand} {s : S} {e : Ef} (ho : o.op = .slice t x lo hi mx) (hA : Eqv σ D A ρ) (h : aSl2 P H A t x lo hi mx = some (s, e)) (hs : Sat σ D (rst (tb e.F) H) w) : AOK P ρ o σ D w H n s e := by
  unfold aSl2 at h
  split at h
  · rename_i i off len cp el hx ht
    split at h
    · rename_i y3 x3
      split at h
      · rename_i l hh m sz hl hh1 hm hsz
        split at h
        · rename_i hb
          cases h
          obtain ⟨hb1, hb2, hb3⟩ := hb
          obtain ⟨hD, c, hp, hcc⟩ : D i ∧ ∃ c, ρ x = .slice (some (adr (σ i) off)) len c ∧ capC len cp ≤ c := by
            have h1 := hA.c hx
            cases cp with
            | ex c => exact ⟨h1.1, c, h1.2, Nat.le_refl _⟩
            | op s1 => obtain ⟨a1, c, a2, a3, _⟩ := h1; exact ⟨a1, c, a2, a3⟩
          have hbd := bounds3_ok (P := P) (w := w) (len := len) (cap := c) hA hl hh1 hm hb1 hb2 (Nat.le_trans hb3 hcc)
          by_cases hml : m = l
          · rw [if_pos hml]
            refine ⟨.value _, .slice (some (adr (σ i) off)) 0 (m - l), _, _, did_no hs ?_ (.inl rfl) ⟨_, _, rfl⟩⟩
            unfold execOp; rw [ho]
            simp [hp, Instr.sliceAt, Instr.slice, run_underlying ht, hbd, run_sz hsz, hml]
            omega
          · rw [if_neg hml]
            refine ⟨.value _, .slice (some (adr (σ i) (off + l * sz))) (hh - l) (m - l), _, _, did_no hs ?_ (.inl rfl) ⟨hD, rfl⟩⟩
            unfold execOp; rw [ho]
            simp [hp, Instr.sliceAt, Instr.slice, run_underlying ht, hbd, run_sz hsz, hml, adr_add]
        · cases h
      · cases h
    · rename_i hi
      split at h
      · rename_i s1 l hh sz ob hl hh1 hsz hob
        split at h
        · rename_i hb
          cases h
          obtain ⟨hb1, hb2, rfl, hb4⟩ := hb
          obtain ⟨hD, c, hp, hc1, hc2, hc3⟩ := hA.c hx
          obtain ⟨_, hO⟩ := obj_of hs tb_one hob
          have hle : off + hh * s1 ≤ (σ i).t := by
            rcases hO.either with h0 | h0
            · rw [h0] at hb2
              have : hh * s1 = 0 := by simp at hb2; omega
              rcases Nat.mul_eq_zero.1 this with h1 | h1 <;> omega
            · obtain ⟨cur, fr, _, _, _, h3, _⟩ := h0
              exact Nat.le_trans hb2 h3
          have hhc : hh ≤ c := by
            have : hh * s1 ≤ c * s1 := by omega
            exact Nat.le_of_mul_le_mul_right this hb4
          have hbd := bounds_ok (P := P) (w := w) (b := true) hA hl hh1 (Nat.le_of_lt hb1) hhc
          have hne : ¬ c = l := by omega
          refine ⟨.value _, .slice (some (adr (σ i) (off + l * s1))) (hh - l) (c - l), _, _, did_no hs ?_ (.inl rfl) ?_⟩
          · unfold execOp; rw [ho]
            simp [hp, Instr.sliceAt, Instr.slice, run_underlying ht, hbd, run_sz hsz, hne, adr_add]
          · refine ⟨hD, c - l, rfl, by omega, by omega, ?_⟩
            have := Nat.mul_le_mul_right s1 (show l ≤ c by omega)
            rw [← hc3, Nat.sub_mul]
            omega
        · cases h
      · cases h
    · cases h
  · cases h
/-! ### Going over a map -/
def aRange (P : Program) (H : Heap) (A : Operand → Option S) (n : Nat) (t : TypeId) (x : Operand) : Option (S × Ef) := match S.c? (A x), P.underlying t with
  | some (.map i), some (.map _ _) => match H i with
    | some ob => match ob.k with
      | .mp es cl => some (.v (.c (.ptr n 0)), .new (one i) ⟨0, [], false, .it i cl [] cl⟩)
      | _ => none
    | none => none
  | _, _ => none
theorem range_ok {t : TypeId} {x : Operand} {s : S} {e : Ef} (ho : o.op = .range t x) (hA : Eqv σ D A ρ) (hD : n < e.n' n → ¬ D n) (h : aRange P H A n t x = some (s, e)) (hs : Sat σ D (rst (tb e.F) H) w) : AOK P ρ o σ D w H n s e := by
  unfold aRange at h
  split at h
  · rename_i i kt et hx ht
    split at h
    · rename_i ob hob
      split at h
      · rename_i es cl hes
        cases h
        obtain ⟨hDi, m, hm1, hm2⟩ := map_of hs tb_one hob hes
        have hp := (hA.c hx).2
        have hDn := hD (Nat.lt_succ_self n)
        have hin : i ≠ n := fun e => hDn (e ▸ hDi)
        refine ⟨_, _, _, _, did_new (k := ⟨w.heap.size, 0⟩) (w' := w.alloc (.mapIter (some (σ i).b) cl #[] cl)) hs hDn (v := .pointer (some ⟨w.heap.size, 0, none⟩)) ?_ (.inl rfl) ⟨.inr ⟨Nat.le_refl _, Nat.lt_succ_self _⟩, by rw [at_same]; rfl⟩ (Tch.alloc _ _) (Nat.le_refl _) ?_⟩
        · unfold execOp; rw [ho]; simp [Instr.range, run_underlying ht, hp, getObj, newObj, Sem.run, hm1]
        · exact ⟨rfl, .inl hDi, by rw [at_same, at_other hin]; exact heap_alloc_new _ _⟩
      · cases h
    · cases h
  · cases h
/-- What is left to go over: nothing, or one that was there at the beginning. -/
def leftOf (seen : List Nat) (es : List (C × V × Nat)) : List (C × V × Nat) := es.filter fun e => !seen.contains e.2.2
def aNext (H : Heap) (A : Operand → Option S) (x : Operand) (str : Bool) : Option (S × Ef) := match str, S.c? (A x) with
  | false, some (.ptr i 0) => match H i with
    | some ob => match ob.k with
      | .it m since seen last => match H m with
        | some mo => match mo.k with
          | .mp es cl => if (!seen.isEmpty && !es.isEmpty && es.all (fun e => decide (last ≤ e.2.2))) = true then none else
            (match leftOf seen es with
            | [] => some (.tup [.c (.bool false)], .no (one i ||| one m))
            | [e] => if e.2.2 < since then some (.tup [.c (.bool true), .c e.1, e.2.1], .set (one i ||| one m) i ⟨ob.ty, [], ob.opn, .it m since (seen ++ [e.2.2]) cl⟩) else none
            | _ => none)
          | _ => none
        | none => none
      | _ => none
    | none => none
  | _, _ => none
theorem RM.filter {σ : Nat → Blk} {D : Nat → Prop} (p : Nat → Bool) : ∀ {es : List (C × V × Nat)} {m : List MapEntry}, RM σ D es m → RM σ D (es.filter fun e => p e.2.2) (m.filter fun q => p q.born)
  | [], [], _ => trivial
  | a :: es, b :: m, h => by
    have hb := h.1.2.2
    have ih := RM.filter p h.2
    cases c : p a.2.2 with
    | true =>
      have e1 : (a :: es).filter (fun e => p e.2.2) = a :: es.filter (fun e => p e.2.2) := by rw [List.filter_cons]; simp [c]
      have e2 : (b :: m).filter (fun q => p q.born) = b :: m.filter (fun q => p q.born) := by rw [List.filter_cons]; simp [hb, c]
      rw [e1, e2]
      exact ⟨h.1, ih⟩
    | false =>
      have e1 : (a :: es).filter (fun e => p e.2.2) = es.filter (fun e => p e.2.2) := by rw [List.filter_cons]; simp [c]
      have e2 : (b :: m).filter (fun q => p q.born) = m.filter (fun q => p q.born) := by rw [List.filter_cons]; simp [hb, c]
      rw [e1, e2]
      exact ih
theorem RM.all {σ : Nat → Blk} {D : Nat → Prop} (p : Nat → Bool) : ∀ {es : List (C × V × Nat)} {m : List MapEntry}, RM σ D es m → m.all (fun q => p q.born) = es.all (fun e => p e.2.2)
  | [], [], _ => rfl
  | a :: es, b :: m, h => by rw [List.all_cons, List.all_cons, RM.all p h.2, h.1.2.2]
theorem RM.nil {σ : Nat → Blk} {D : Nat → Prop} : ∀ {es : List (C × V × Nat)} {m : List MapEntry}, RM σ D es m → m.isEmpty = es.isEmpty
  | [], [], _ => rfl
  | _ :: _, _ :: _, _ => rfl
theorem tb_or_l {F G i : Nat} (h : tb F i = true) : tb (F ||| G) i = true := by unfold tb at h ⊢; rw [Nat.testBit_or, h]; rfl
theorem tb_or_r {F G i : Nat} (h : tb G i = true) : tb (F ||| G) i = true := by unfold tb at h ⊢; rw [Nat.testBit_or, h, Bool.or_true]
theorem run_next0 {P : Program} {w : World} {r mb since last cl : Nat} {seen : Array Nat} {ma : Array MapEntry} (hi1 : w.heap[r]? = some (.mapIter (some mb) since seen last)) (hm1 : w.heap[mb]? = some (.map ma cl))
    (e1 : (!seen.isEmpty && !ma.isEmpty && ma.all (fun q => decide (q.born ≥ last))) = false) (e2 : ma.filter (fun q => !seen.contains q.born) = #[]) (t : TypeId) :
    (Instr.next (.pointer (some ⟨r, 0, none⟩)) false t).run P w = .ok (.tuple #[.bool false]) w := by
  unfold Instr.next
  simp only [Sem.run_bind, getObj, Sem.run, hi1, hm1, Result.andThen_ok, e1, e2]
  rw [if_neg Bool.false_ne_true]
  simp [choose, Sem.run, Question.forced]
theorem run_next1 {P : Program} {w : World} {r mb since last cl : Nat} {seen : Array Nat} {ma : Array MapEntry} {q : MapEntry} (hi1 : w.heap[r]? = some (.mapIter (some mb) since seen last)) (hm1 : w.heap[mb]? = some (.map ma cl))
    (e1 : (!seen.isEmpty && !ma.isEmpty && ma.all (fun q => decide (q.born ≥ last))) = false) (e2 : ma.filter (fun q => !seen.contains q.born) = #[q]) (hb : q.born < since) (t : TypeId) :
    (Instr.next (.pointer (some ⟨r, 0, none⟩)) false t).run P w = .ok (.tuple #[.bool true, q.key, q.val]) { w with heap := w.heap.setIfInBounds r (.mapIter (some mb) since (seen.push q.born) cl) } := by
  have h1 : #[q].filter (fun q => decide (q.born < since)) = #[q] := by simp [hb]
  have h2 : #[q].filter (fun q => decide (q.born ≥ since)) = #[] := by simp; omega
  unfold Instr.next
  simp only [Sem.run_bind, getObj, Sem.run, hi1, hm1, Result.andThen_ok, e1, e2, h1, h2]
  rw [if_neg Bool.false_ne_true]
  simp [choose, setObj, Sem.run, Question.forced, hi1]
theorem next_ok {x : Operand} {str : Bool} {s : S} {e : Ef} (ho : o.op = .next x str) (hA : Eqv σ D A ρ) (h : aNext H A x str = some (s, e)) (hs : Sat σ D (rst (tb e.F) H) w) : AOK P ρ o σ D w H n s e := by
  unfold aNext at h
  split at h
  · rename_i i hx
    split at h
    · rename_i ob hob
      split at h
      · rename_i m since seen last hk
        split at h
        · rename_i mo hmo
          split at h
          · rename_i es cl hkm
            split at h
            · cases h
            · rename_i hcond
              have hp : ρ x = .pointer (some ⟨(σ i).b, 0, none⟩) := (hA.c hx).2
              split at h
              · rename_i hl
                cases h
                obtain ⟨hDi, hDm, hi1⟩ := iter_of hs (tb_or_l tb_one) hob hk
                obtain ⟨_, ma, hm1, hm2⟩ := map_of hs (tb_or_r tb_one) hmo hkm
                have e1 : (!seen.toArray.isEmpty && !ma.isEmpty && ma.all (fun q => decide (q.born ≥ last))) = false := by
                  have a1 : ma.isEmpty = es.isEmpty := by rw [← RM.nil hm2]; simp
                  have a2 : ma.all (fun q => decide (q.born ≥ last)) = es.all (fun e => decide (last ≤ e.2.2)) := by
                    rw [← RM.all (fun b => decide (last ≤ b)) hm2]; simp
                  rw [a1, a2, List.isEmpty_toArray]
                  cases hq : (!seen.isEmpty && !es.isEmpty && es.all (fun e => decide (last ≤ e.2.2))) with
                  | true => exact (hcond hq).elim
                  | false => rfl
                have e2 : ma.filter (fun q => !seen.toArray.contains q.born) = #[] := by
                  have := RM.filter (fun b => !seen.contains b) hm2
                  unfold leftOf at hl
                  rw [hl] at this
                  have l0 := this.length
                  apply Array.ext'
                  rw [Array.toList_filter]
                  simpa using l0
                refine ⟨_, .tuple #[.bool false], _, _, did_no hs ?_ (.inl rfl) ⟨[.bool false], ⟨rfl, trivial⟩, rfl⟩⟩
                unfold execOp; rw [ho]
                simp only [hp]
                rw [Sem.run_bind, run_next0 hi1 hm1 e1 e2]; rfl
              · rename_i e0 hl
                split at h
                · rename_i hb
                  cases h
                  obtain ⟨hDi, hDm, hi1⟩ := iter_of hs (tb_or_l tb_one) hob hk
                  obtain ⟨_, ma, hm1, hm2⟩ := map_of hs (tb_or_r tb_one) hmo hkm
                  have e1 : (!seen.toArray.isEmpty && !ma.isEmpty && ma.all (fun q => decide (q.born ≥ last))) = false := by
                    have a1 : ma.isEmpty = es.isEmpty := by rw [← RM.nil hm2]; simp
                    have a2 : ma.all (fun q => decide (q.born ≥ last)) = es.all (fun e => decide (last ≤ e.2.2)) := by
                      rw [← RM.all (fun b => decide (last ≤ b)) hm2]; simp
                    rw [a1, a2, List.isEmpty_toArray]
                    cases hq : (!seen.isEmpty && !es.isEmpty && es.all (fun e => decide (last ≤ e.2.2))) with
                    | true => exact (hcond hq).elim
                    | false => rfl
                  have hfl := RM.filter (fun b => !seen.contains b) hm2
                  unfold leftOf at hl
                  rw [hl] at hfl
                  obtain ⟨q, hq⟩ : ∃ q, ma.toList.filter (fun q => !seen.contains q.born) = [q] := List.length_eq_one_iff.1 hfl.length
                  rw [hq] at hfl
                  obtain ⟨⟨k1, k2, k3⟩, _⟩ := hfl
                  have e2 : ma.filter (fun q => !seen.toArray.contains q.born) = #[q] := by
                    apply Array.ext'
                    rw [Array.toList_filter]
                    simpa using hq
                  have hlt : (σ i).b < w.heap.size := (Array.getElem?_eq_some_iff.1 hi1).1
                  have hold : q.born < since := by rw [k3]; exact hb
                  have hnew : ¬ since ≤ q.born := by omega
                  refine ⟨_, .tuple #[.bool true, q.key, q.val], _, _, did_set (w' := { w with heap := w.heap.setIfInBounds (σ i).b (.mapIter (some (σ m).b) since (seen.toArray.push q.born) cl) }) hs (tb_or_l tb_one) (by rw [hob]; rfl) ?_ (.inl rfl) ⟨[.bool true, q.key, q.val], ⟨rfl, k1, k2, trivial⟩, rfl⟩ heap_set_tch ?_⟩
                  · unfold execOp; rw [ho]
                    simp only [hp]
                    rw [Sem.run_bind, run_next1 hi1 hm1 e1 e2 hold]; rfl
                  · refine ⟨rfl, hDm, ?_⟩
                    show (w.heap.setIfInBounds (σ i).b _)[(σ i).b]? = _
                    simp [hlt, k3]
                · cases h
              · cases h
          · cases h
        · cases h
      · cases h
    · cases h
  · cases h
/-- The entry that it stands at. -/
def aEntry (H : Heap) (A : Operand → Option S) (x : Operand) : Option (S × Ef) := match S.c? (A x) with
  | some (.ptr i 0) => match H i with
    | some ob => match ob.k with
      | .it m since seen last => match H m, seen.getLast? with
        | some mo, some b => match mo.k with
          | .mp es cl => if cl = last then
              (match es.find? (fun e => e.2.2 == b) with
              | some e => some (.tup [.c e.1, e.2.1], .no (one i ||| one m))
              | none => none) else none
          | _ => none
        | _, _ => none
      | _ => none
    | none => none
  | _ => none
theorem RM.find {σ : Nat → Blk} {D : Nat → Prop} (b : Nat) : ∀ {es : List (C × V × Nat)} {m : List MapEntry} {e : C × V × Nat}, RM σ D es m → es.find? (fun e => e.2.2 == b) = some e → ∃ q, m.find? (fun q => q.born == b) = some q ∧ RC σ D e.1 q.key ∧ RV σ D e.2.1 q.val
  | [], _, _, _, h => by cases h
  | a :: es, q :: m, e, hm, h => by
    rw [List.find?_cons] at h ⊢
    rw [hm.1.2.2]
    cases c : a.2.2 == b with
    | true =>
      rw [c] at h
      simp only [Option.some.injEq] at h
      subst h
      exact ⟨q, rfl, hm.1.1, hm.1.2.1⟩
    | false =>
      rw [c] at h
      exact RM.find b hm.2 h
theorem entry_ok {x : Operand} {s : S} {e : Ef} (ho : o.op = .entry x) (hA : Eqv σ D A ρ) (h : aEntry H A x = some (s, e)) (hs : Sat σ D (rst (tb e.F) H) w) : AOK P ρ o σ D w H n s e := by
  unfold aEntry at h
  split at h
  · rename_i i hx
    split at h
    · rename_i ob hob
      split at h
      · rename_i m since seen last hk
        split at h
        · rename_i mo b hmo hb
          split at h
          · rename_i es cl hkm
            split at h
            · rename_i hcl
              split at h
              · rename_i e0 hf
                cases h
                subst hcl
                have hp : ρ x = .pointer (some ⟨(σ i).b, 0, none⟩) := (hA.c hx).2
                obtain ⟨hDi, hDm, hi1⟩ := iter_of hs (tb_or_l tb_one) hob hk
                obtain ⟨_, ma, hm1, hm2⟩ := map_of hs (tb_or_r tb_one) hmo hkm
                obtain ⟨q, g1, g2, g3⟩ := RM.find b hm2 hf
                have g1' : ma.find? (fun q => q.born == b) = some q := by rw [← Array.find?_toList]; exact g1
                have hbk : seen.toArray.back? = some b := by rw [List.back?_toArray]; exact hb
                refine ⟨_, .tuple #[q.key, q.val], _, _, did_no hs ?_ (.inl rfl) ⟨[q.key, q.val], ⟨g2, g3, trivial⟩, rfl⟩⟩
                unfold execOp; rw [ho]
                simp only [hp]
                simp [Instr.entry, getObj, Sem.run, hi1, hm1, hbk, g1']
              · cases h
            · cases h
          · cases h
        · cases h
      · cases h
    · cases h
  · cases h
end
end Go.Proofs.YtcmlgmiomcegeaaGreat.Ev
