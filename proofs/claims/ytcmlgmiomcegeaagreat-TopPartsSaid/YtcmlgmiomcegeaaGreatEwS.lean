/- The keys of a map of texts, sorted, as an oracle of an abstract run. No condition. -/
import Derived.Test.YtcmlgmiomcegeaaGreatEwP
import Derived.Sort.KeysCollected
namespace Go.Proofs.YtcmlgmiomcegeaaGreat.Ev
open Go Go.RowKit Go.Maps
set_option linter.unusedVariables false
set_option linter.unusedSimpArgs false
set_option linter.unusedSectionVars false
variable [Env]
section
variable {P : Program} {σ : Nat → Blk} {D : Nat → Prop} {w : World} {H : Heap} {n : Nat}
theorem out_new {F : Nat} {w' : World} {ob : AO} {k : Blk} (hs : Sat σ D (rst (tb F) H) w) (hD : ¬ D n) (ht : Tch No w w') (hk : w.heap.size ≤ k.b) (ho : ObjAt (at_ σ n k) (more D n (n + 1)) n ob w') : Out σ D w (rst (tb F) H) (aft (tb F) n (n + 1) ((Ef.new F ob).ap n H)) n (n + 1) (Ef.new F ob).W (at_ σ n k) w' := by
  have hsm : ∀ i, D i → at_ σ n k i = σ i := fun i hi => at_other (fun e => by subst e; exact hD hi)
  have key : ∀ i, i ≠ n → ∀ x, aft (tb F) n (n + 1) ((Ef.new F ob).ap n H) i = some x → rst (tb F) H i = some x := fun i hi x e => by
    obtain ⟨h1, h2⟩ := aft_some.1 e
    simp only [Ef.ap, if_neg hi] at h2
    exact rst_some.2 ⟨h1.resolve_right (by omega), h2⟩
  have keyn : aft (tb F) n (n + 1) ((Ef.new F ob).ap n H) n = some ob := aft_some.2 ⟨.inr ⟨Nat.le_refl _, Nat.lt_succ_self _⟩, by simp [Ef.ap]⟩
  refine ⟨fun i hi => at_other (fun e => hi (by subst e; omega)), ⟨fun i x e => ?_, fun i j hi hj e => ?_⟩, ht.mono (fun _ _ h => h.elim), fun i hi hh => ?_, fun i h1 h2 _ => ?_⟩
  · by_cases c : i = n
    · subst c
      have e2 := keyn.symm.trans e
      cases e2
      exact ⟨.inr ⟨Nat.le_refl _, Nat.lt_succ_self _⟩, ho⟩
    · obtain ⟨h1, h2⟩ := hs.obj i x (key i c x e)
      exact ⟨.inl h1, h2.ext (hsm i h1) (ht.block _ h2.lt (fun h => h)) hsm (fun _ h => .inl h)⟩
  · have f : ∀ i j, i = n → j ≠ n → (aft (tb F) n (n + 1) ((Ef.new F ob).ap n H) j).isSome = true → (at_ σ n k i).b = (at_ σ n k j).b → False := fun i j hi hj hh e => by
      subst hi
      obtain ⟨x, hx⟩ := Option.isSome_iff_exists.1 hh
      obtain ⟨h1, h2⟩ := hs.obj j x (key j hj x hx)
      rw [at_same, at_other hj] at e
      have := h2.lt; omega
    by_cases ci : i = n
    · by_cases cj : j = n
      · rw [ci, cj]
      · exact (f i j ci cj hj e).elim
    · by_cases cj : j = n
      · exact (f j i cj ci hi e.symm).elim
      · obtain ⟨x, hx⟩ := Option.isSome_iff_exists.1 hi
        obtain ⟨y, hy⟩ := Option.isSome_iff_exists.1 hj
        rw [at_other ci, at_other cj] at e
        exact hs.inj i j (by rw [key i ci x hx]; rfl) (by rw [key j cj y hy]; rfl) e
  · obtain ⟨x, hx⟩ := Option.isSome_iff_exists.1 hh
    exact some_of (key i (fun e => hi (by subst e; omega)) x hx)
  · obtain rfl : i = n := by omega
    rw [at_same]; exact .inl hk
end
/-! ### Sorting that the kernel runs -/
noncomputable def insL (x : List UInt8) : List (List UInt8) → List (List UInt8)
  | [] => [x]
  | y :: l => if leB x y = true then x :: y :: l else y :: insL x l
noncomputable def isort : List (List UInt8) → List (List UInt8)
  | [] => []
  | x :: l => insL x (isort l)
theorem insL_perm (x : List UInt8) : ∀ l, (insL x l).Perm (x :: l)
  | [] => List.Perm.refl _
  | y :: l => by
    unfold insL
    split
    · exact List.Perm.refl _
    · exact ((insL_perm x l).cons y).trans (List.Perm.swap x y l)
theorem isort_perm : ∀ l, (isort l).Perm l
  | [] => List.Perm.refl _
  | x :: l => (insL_perm x (isort l)).trans ((isort_perm l).cons x)
theorem leB_tr (a b c : List UInt8) (h1 : leB a b = true) (h2 : leB b c = true) : leB a c = true := by simp only [leB, decide_eq_true_eq] at *; exact List.le_trans h1 h2
theorem insL_sorted (x : List UInt8) : ∀ l, l.Pairwise (fun a b => leB a b = true) → (insL x l).Pairwise (fun a b => leB a b = true)
  | [], _ => List.pairwise_singleton _ _
  | y :: l, h => by
    have h' := List.pairwise_cons.1 h
    unfold insL
    split
    · rename_i hxy
      refine List.pairwise_cons.2 ⟨fun z hz => ?_, h⟩
      rcases List.mem_cons.1 hz with rfl | hz
      · exact hxy
      · exact leB_tr _ _ _ hxy (h'.1 z hz)
    · rename_i hxy
      have hyx : leB y x = true := by
        have := List.le_total x y
        simp only [leB, decide_eq_true_eq] at hxy ⊢
        exact this.resolve_left hxy
      refine List.pairwise_cons.2 ⟨fun z hz => ?_, insL_sorted x l h'.2⟩
      rcases List.mem_cons.1 ((insL_perm x l).mem_iff.1 hz) with rfl | hz
      · exact hyx
      · exact h'.1 z hz
theorem isort_sorted : ∀ l, (isort l).Pairwise (fun a b => leB a b = true)
  | [] => List.Pairwise.nil
  | x :: l => insL_sorted x _ (isort_sorted l)
theorem isort_eq (l : List (List UInt8)) : l.mergeSort leB = isort l := by
  have to : ∀ a b : List UInt8, (leB a b || leB b a) = true := fun a b => by simp only [leB, Bool.or_eq_true, decide_eq_true_eq]; exact List.le_total a b
  refine List.Perm.eq_of_pairwise (le := fun a b => leB a b = true) (fun a b _ _ h1 h2 => ?_) (List.pairwise_mergeSort leB_tr to l) (isort_sorted l) ((List.mergeSort_perm l leB).trans (isort_perm l).symm)
  simp only [leB, decide_eq_true_eq] at h1 h2
  exact List.le_antisymm h1 h2
/-! ### What a map of texts is to the kit -/
def keysC : List (C × V × Nat) → Option (List (List UInt8))
  | [] => some []
  | e :: es => match e.1, keysC es with | .str s, some l => some (s :: l) | _, _ => none
def ndB {α : Type} [BEq α] : List α → Bool
  | [] => true
  | a :: l => !l.contains a && ndB l
theorem ndB_ok {α : Type} [BEq α] [LawfulBEq α] : ∀ {l : List α}, ndB l = true → l.Nodup
  | [], _ => List.nodup_nil
  | a :: l, h => by
    simp only [ndB, Bool.and_eq_true, Bool.not_eq_true'] at h
    refine List.nodup_cons.2 ⟨fun hm => ?_, ndB_ok h.2⟩
    have := List.contains_iff_mem.2 hm
    rw [h.1] at this; cases this
def fitC (es : List (C × V × Nat)) (cl : Nat) (ks : List (List UInt8)) : Bool := decide (es.length ≤ 1000000) && es.all (fun e => decide (e.2.2 < cl)) && ndB (es.map (·.2.2)) && ndB ks && ks.all (fun k => decide (k.length ≤ 1000000))
def R1 : Value → Option (DataW Unit × List MemPlace) := fun _ => some (.lit (.bool true), [])
theorem rgs {P : Program} {st : TypeId} (hst : P.underlying st = some .string) {σ : Nat → Blk} {D : Nat → Prop} : ∀ {es : List (C × V × Nat)} {m : List MapEntry} {ks : List (List UInt8)}, RM σ D es m → keysC es = some ks → (∀ k ∈ ks, k.length ≤ 1000000) →
    m.map (WideElems.rg P st R1) = ks.map (fun s => (Lit.string s, (DataW.lit (.bool true) : DataW Unit))) ∧ (∀ x ∈ m, ∃ y, WideElems.rd P st R1 x = some y) ∧ m.map (·.key) = ks.map encStr ∧ m.map (·.born) = es.map (·.2.2)
  | [], [], ks, _, h, _ => by
    simp only [keysC, Option.some.injEq] at h; subst h
    exact ⟨rfl, fun x hx => (by cases hx), rfl, rfl⟩
  | e :: es, q :: m, ks, hm, h, hk => by
    unfold keysC at h
    split at h
    · rename_i s l h1 h2
      simp only [Option.some.injEq] at h; subst h
      obtain ⟨a, b, c, d⟩ := rgs hst hm.2 h2 (fun k hk' => hk k (List.mem_cons_of_mem _ hk'))
      have hq : q.key = .string ⟨s.toArray⟩ := by have := hm.1.1; rw [h1] at this; exact this
      have hsz : (ByteArray.mk s.toArray).size ≤ maxLen := by
        have : (ByteArray.mk s.toArray).size = s.length := by simp [ByteArray.size]
        rw [this]
        have := hk s (by simp)
        simp only [maxLen]; omega
      have hr : WideElems.rd P st R1 q = some (Lit.string s, .lit (.bool true)) := by
        obtain ⟨qk, qv, qb⟩ := q
        simp only at hq
        subst hq
        exact WideElems.rd_mk (R := R1) (yv := (.lit (.bool true), [])) (WideMaps.keyOf_string_mk hst hsz) rfl
      refine ⟨?_, fun x hx => ?_, ?_, ?_⟩
      · rw [List.map_cons, List.map_cons, a, WideElems.rg_of hr]
      · rcases List.mem_cons.1 hx with rfl | hx
        · exact ⟨_, hr⟩
        · exact b x hx
      · rw [List.map_cons, List.map_cons, c, hq]
        first | done | rfl
      · rw [List.map_cons, List.map_cons, d, hm.1.2.2]
    · cases h
theorem own_rm {P : Program} {st : TypeId} (hst : P.underlying st = some .string) {σ : Nat → Blk} {D : Nat → Prop} {es : List (C × V × Nat)} {m : Array MapEntry} {ks : List (List UInt8)} {cl b : Nat} {w : World} (hm : RM σ D es m.toList) (hb : w.heap[b]? = some (.map m cl)) (hk : keysC es = some ks) (hf : fitC es cl ks = true) :
    ∃ D0 : DataW Unit, w.ownsMap P st R1 b es.length D0 ∧ ks.Perm (strKeys D0) ∧ Go.Maps.size D0 = es.length := by
  unfold fitC at hf
  simp only [Bool.and_eq_true, decide_eq_true_eq, List.all_eq_true] at hf
  obtain ⟨⟨⟨⟨h1, h2⟩, h3⟩, h4⟩, h5⟩ := hf
  obtain ⟨g1, g2, g3, g4⟩ := rgs hst hm hk h5
  have hl : m.size = es.length := by rw [← Array.length_toList]; exact hm.length
  have hkl : ks.length = es.length := by
    have := congrArg List.length g3
    simp only [List.length_map, Array.length_toList] at this
    omega
  refine ⟨_, ⟨m, cl, hb, ⟨by simp only [maxLen]; omega, ⟨fun x hx => ?_, ?_, ?_⟩, g2⟩, by omega, rfl⟩, ?_, ?_⟩
  · have hxb : x.born ∈ m.toList.map (·.born) := List.mem_map_of_mem hx
    rw [g4, List.mem_map] at hxb
    obtain ⟨e, he, h6⟩ := hxb
    rw [← h6]
    exact h2 e he
  · rw [g4]; exact ndB_ok h3
  · rw [g3]
    exact (List.pairwise_map.2 ((ndB_ok h4).imp (fun {a b} hne e => hne (encStr_inj e))))
  · rw [g1]
    show ks.Perm (((ks.map (fun s => (Lit.string s, (DataW.lit (.bool true) : DataW Unit)))).foldr DataW.insert []).map fun p => strOf p.1)
    refine List.Perm.symm (((WideShapes.sorted_perm _).map _).trans ?_)
    rw [List.map_map]
    show (ks.map (fun s => s)).Perm ks
    rw [List.map_id']
  · show ((m.toList.map (WideElems.rg P st R1)).foldr DataW.insert []).length = es.length
    rw [length_sorted, List.length_map, Array.length_toList]; exact hl
/-! ### The oracle -/
/-- What is known of slices.Sorted at what maps.Keys hands back (its closure: g). -/
structure SortedK (P : Program) (fS g : FuncId) (st : TypeId) : Prop where
  str : P.underlying st = some .string
  run : ∀ (k b nn : Nat) (D0 : DataW Unit) (W : World), k < W.heap.size → W.cell? ⟨k, 0, none⟩ = some (.map (some b)) → W.ownsMap P st R1 b nn D0 → Go.Maps.size D0 ≤ 1000000 →
    Calls P fS #[.func (.func g) #[] #[.pointer (some ⟨k, 0, none⟩)]] W fun e w' => ∃ (v : Value) (ss : List (List UInt8)), e = .returned v ∧ ss.Perm (strKeys D0) ∧ w'.ownsRow W.heap.size st 1 v ss.length ((ss.mergeSort leB).map encStr) ∧ (v = .slice none 0 0 ↔ ss = []) ∧ Below W.heap.size W w'
  body : ∃ fn, P.funcs[fS]? = some fn ∧ fn.body.isSome = true
noncomputable def srtRes (st : TypeId) (F : Nat) (H : HT) (n : Nat) (l : List (List UInt8)) : Option (S × HT × Nat × Nat × Nat) := match l with
  | [] => some (.v (.c .snil), H, n, F, 0)
  | s :: l => (Ef.apT n H (.new F ⟨st, (s :: l).map C.str, true, .ok⟩)).map fun H' => (.v (.c (.sl n 0 (l.length + 1) (.op 1))), H', n + 1, F, 0)
noncomputable def srtOrc (fS g : FuncId) (st : TypeId) (orc : Orc) : Orc := fun f args H n => if f = fS then
    match args with
    | [.v (.c (.fn g' [(bx, 0)]))] => if g' = g then (match hg H bx with
      | some ob => match ob.cs with
        | .map mi :: _ => match hg H mi with
          | some mo => match mo.k with
            | .mp es cl => match keysC es with
              | some ks => if fitC es cl ks = true then srtRes st (one bx ||| one mi) H n (isort ks) else none
              | none => none
            | _ => none
          | none => none
        | _ => none
      | none => none) else orc f args H n
    | _ => none
  else orc f args H n
theorem rl_str {σ : Nat → Blk} {D : Nat → Prop} : ∀ l : List (List UInt8), RL σ D (l.map C.str) (l.map encStr)
  | [] => trivial
  | s :: l => ⟨rfl, rl_str l⟩
theorem srtOrc_ok {P : Program} {fS g : FuncId} {st : TypeId} {orc : Orc} (hi : SortedK P fS g st) (ho : OrcOK P orc) : OrcOK P (srtOrc fS g st orc) := by
  refine ⟨fun f args H n s H' n' F W h => ?_, fun f args H n r h => ?_⟩
  · unfold srtOrc at h
    split at h
    · rename_i hf
      subst hf
      split at h
      · rename_i g' bx
        split at h
        · rename_i hg'
          subst hg'
          split at h
          · rename_i ob hob
            split at h
            · rename_i mi rest hcs
              split at h
              · rename_i mo hmo
                split at h
                · rename_i es cl hmk
                  split at h
                  · rename_i ks hks
                    split at h
                    · rename_i hfit
                      have hF1 : tb (one bx ||| one mi) bx = true := tb_or_l tb_one
                      have hF2 : tb (one bx ||| one mi) mi = true := tb_or_r tb_one
                      -- what the call does
                      have hcall : ∀ σ D w vals, RSL σ D [S.v (.c (.fn g' [(bx, 0)]))] vals → Sat σ D (rst (tb (one bx ||| one mi)) (hg H)) w → Calls P f vals.toArray w fun e w' => ∃ v, e = .returned v ∧ w'.ownsRow w.heap.size st 1 v (isort ks).length ((isort ks).map encStr) ∧ (v = .slice none 0 0 ↔ isort ks = []) ∧ Tch No w w' := by
                        intro σ D w vals hargs hs
                        match vals, hargs with
                        | [v1], ⟨r1, _⟩ =>
                          obtain ⟨hDb, e1⟩ := r1
                          subst e1
                          obtain ⟨_, hO⟩ := obj_of hs hF1 hob
                          obtain ⟨_, m, hm1, hm2⟩ := map_of hs hF2 hmo hmk
                          obtain ⟨v0, c1, c2⟩ := cell_of hO (j := 0) (c := .map mi) (by rw [hcs]; rfl)
                          have c3 : v0 = .map (some (σ mi).b) := c2.2
                          subst c3
                          obtain ⟨D0, d1, d2, d3⟩ := own_rm (P := P) hi.str hm2 hm1 hks hfit
                          have hle : Go.Maps.size D0 ≤ 1000000 := by
                            rw [d3]
                            unfold fitC at hfit
                            simp only [Bool.and_eq_true, decide_eq_true_eq] at hfit
                            exact hfit.1.1.1.1
                          refine (hi.run (σ bx).b (σ mi).b es.length D0 w hO.lt c1 d1 hle).mono ?_
                          rintro e w' ⟨v, ss, rfl, h1, h2, h3, h4⟩
                          have hp : ss.Perm ks := h1.trans d2.symm
                          have hsrt : ss.mergeSort leB = isort ks := by rw [mergeSort_of_perm hp, isort_eq]
                          rw [hsrt] at h2
                          have hlen : ss.length = (isort ks).length := by rw [(isort_perm ks).length_eq, hp.length_eq]
                          rw [hlen] at h2
                          refine ⟨v, rfl, h2, h3.trans ?_, Tch.ofBelow h4⟩
                          rw [← List.length_eq_zero_iff, ← List.length_eq_zero_iff, hlen]
                      cases hl : isort ks with
                      | nil =>
                        rw [hl] at h hcall
                        simp only [srtRes, Option.some.injEq, Prod.mk.injEq] at h
                        obtain ⟨rfl, rfl, rfl, rfl, rfl⟩ := h
                        refine ⟨⟨Nat.le_refl _, fun _ _ _ => rfl, fun h => h, fun i _ h => by rw [tb_0] at h; cases h⟩, fun σ D w vals hargs hs hdom hD => ?_⟩
                        refine (hcall σ D w vals hargs hs).mono ?_
                        rintro e w' ⟨v, rfl, h1, h2, h3⟩
                        have hv : v = .slice none 0 0 := h2.2 rfl
                        exact ⟨v, σ, rfl, hv, out_still hs h3⟩
                      | cons a l =>
                        rw [hl] at h hcall
                        simp only [srtRes] at h
                        rw [Option.map_eq_some_iff] at h
                        obtain ⟨H1, h1, h2⟩ := h
                        simp only [Prod.mk.injEq] at h2
                        obtain ⟨rfl, rfl, rfl, rfl, rfl⟩ := h2
                        rw [apT_ok h1]
                        refine ⟨inv_ef (e := .new (one bx ||| one mi) ⟨st, (a :: l).map C.str, true, .ok⟩) rfl, fun σ D w vals hargs hs hdom hD => ?_⟩
                        have hDn : ¬ D n := hD n (Nat.le_refl _) (Nat.lt_succ_self n)
                        refine (hcall σ D w vals hargs hs).mono ?_
                        rintro e w' ⟨v, rfl, g1, g2, g3⟩
                        obtain ⟨k1, k2⟩ := g1
                        rcases k2 with ⟨k2, _⟩ | ⟨gb, cap, cur, rfl, k3, k4, k5, k6, k7, k8⟩
                        · have := g2.1 k2; cases this
                        · rw [Nat.mul_one] at k7 k8
                          have hcl : cur.size = cap := k7
                          refine ⟨_, at_ σ n ⟨gb, cur.size⟩, rfl, ⟨.inr ⟨Nat.le_refl _, Nat.lt_succ_self _⟩, cap, by rw [at_same]; rfl, by simpa using k5, k6, by rw [at_same, Nat.zero_add, Nat.mul_one]; exact hcl.symm⟩, ?_⟩
                          have hO := out_new (F := one bx ||| one mi) (k := ⟨gb, cur.size⟩) (ob := ⟨st, (a :: l).map C.str, true, .ok⟩) (w' := w') hs hDn g3 k3 ?_
                          · rw [Ef.W_eq] at hO; exact hO
                          · refine ⟨cur, (0, 0), by rw [at_same]; exact k4, fun _ => rfl, by rw [at_same], by rw [at_same]; simp only [List.length_map]; rw [hcl]; exact k5, (fun h => by cases h), fun q cc e => ?_⟩
                            obtain ⟨v, v1, v2⟩ := (rl_str (σ := at_ σ n ⟨gb, cur.size⟩) (D := more D n (n + 1)) (a :: l)).get e
                            refine ⟨v, ?_, v2⟩
                            have hlt := (List.getElem?_eq_some_iff.1 v1).1
                            rw [List.length_map] at hlt
                            rw [← k8, List.getElem?_take, if_pos hlt] at v1
                            rw [← Array.getElem?_toList]; exact v1
                    · cases h
                  · cases h
                · cases h
              · cases h
            · cases h
          · cases h
        · exact ho.1 _ _ _ _ _ _ _ _ _ h
      · cases h
    · exact ho.1 _ _ _ _ _ _ _ _ _ h
  · unfold srtOrc at h
    split at h
    · rename_i hf; subst hf; exact hi.body
    · exact ho.2 _ _ _ _ _ h
/-! ### Calls that yield a value and turn nothing -/
noncomputable def valOrc (fid : FuncId) (fn : List S → Option S) (orc : Orc) : Orc := fun f args H n => Bool.rec (motive := fun _ => Option (S × HT × Nat × Nat × Nat)) (orc f args H n) (match fn args with | some s => some (s, H, n, 0, 0) | none => none) (Nat.beq f fid)
theorem valOrc_ok {P : Program} {fid : FuncId} {fn : List S → Option S} {orc : Orc} (hb : ∃ f, P.funcs[fid]? = some f ∧ f.body.isSome = true)
    (h : ∀ args s, fn args = some s → ∀ σ D w vals, RSL σ D args vals → Calls P fid vals.toArray w fun e w' => ∃ v, e = .returned v ∧ RS σ D s v ∧ Tch No w w') (ho : OrcOK P orc) : OrcOK P (valOrc fid fn orc) := by
  refine ⟨fun f args H n s H' n' F W e => ?_, fun f args H n r e => ?_⟩
  · unfold valOrc at e
    cases c : Nat.beq f fid with
    | false => rw [c] at e; exact ho.1 _ _ _ _ _ _ _ _ _ e
    | true =>
      rw [c] at e
      have hf := Nat.eq_of_beq_eq_true c
      subst hf
      simp only at e
      split at e
      · rename_i s0 hs0
        simp only [Option.some.injEq, Prod.mk.injEq] at e
        obtain ⟨rfl, rfl, rfl, rfl, rfl⟩ := e
        refine ⟨⟨Nat.le_refl _, fun _ _ _ => rfl, fun h => h, fun i _ h => by rw [tb_0] at h; cases h⟩, fun σ D w vals hargs hs hdom hD => ?_⟩
        refine (h _ _ hs0 σ D w vals hargs).mono ?_
        rintro e w' ⟨v, rfl, h1, h2⟩
        exact ⟨v, σ, rfl, h1.ext (fun _ _ => rfl) (fun _ h => .inl h), out_still hs h2⟩
      · cases e
  · unfold valOrc at e
    cases c : Nat.beq f fid with
    | false => rw [c] at e; exact ho.2 _ _ _ _ _ e
    | true => rw [Nat.eq_of_beq_eq_true c]; exact hb
end Go.Proofs.YtcmlgmiomcegeaaGreat.Ev
