/- The texts EwR, one behind the other. No condition. -/
import Derived.Test.YtcmlgmiomcegeaaGreatTg3
import Derived.Lib.SlKeysI
namespace Go.Proofs.YtcmlgmiomcegeaaGreat.Ev
open Go Go.RowKit Go.Maps
set_option linter.unusedVariables false
set_option linter.unusedSimpArgs false
set_option linter.unusedSectionVars false
variable [Env]
/-! ### Sorting that the kernel runs -/
noncomputable def insI (x : Int) : List Int → List Int
  | [] => [x]
  | y :: l => if leF x y = true then x :: y :: l else y :: insI x l
noncomputable def isortI : List Int → List Int
  | [] => []
  | x :: l => insI x (isortI l)
theorem leF_iff {x y : Int} : leF x y = true ↔ x ≤ y := by rw [leF_eq]; simp
theorem insI_perm (x : Int) : ∀ l, (insI x l).Perm (x :: l)
  | [] => List.Perm.refl _
  | y :: l => by
    unfold insI
    split
    · exact List.Perm.refl _
    · exact ((insI_perm x l).cons y).trans (List.Perm.swap x y l)
theorem isortI_perm : ∀ l, (isortI l).Perm l
  | [] => List.Perm.refl _
  | x :: l => (insI_perm x (isortI l)).trans ((isortI_perm l).cons x)
theorem insI_sorted (x : Int) : ∀ l, l.Pairwise (fun a b => a ≤ b) → (insI x l).Pairwise (fun a b => a ≤ b)
  | [], _ => List.pairwise_singleton _ _
  | y :: l, h => by
    have h' := List.pairwise_cons.1 h
    unfold insI
    split
    · rename_i hxy
      rw [leF_iff] at hxy
      refine List.pairwise_cons.2 ⟨fun z hz => ?_, h⟩
      rcases List.mem_cons.1 hz with rfl | hz
      · exact hxy
      · exact Int.le_trans hxy (h'.1 z hz)
    · rename_i hxy
      rw [leF_iff] at hxy
      refine List.pairwise_cons.2 ⟨fun z hz => ?_, insI_sorted x l h'.2⟩
      rcases List.mem_cons.1 ((insI_perm x l).mem_iff.1 hz) with rfl | hz
      · omega
      · exact h'.1 z hz
theorem isortI_sorted : ∀ l, (isortI l).Pairwise (fun a b => a ≤ b)
  | [] => List.Pairwise.nil
  | x :: l => insI_sorted x _ (isortI_sorted l)
theorem isortI_eq (l : List Int) : l.mergeSort leI = isortI l := by
  have tr : ∀ a b c : Int, leI a b = true → leI b c = true → leI a c = true := fun a b c h1 h2 => by simp only [leI, decide_eq_true_eq] at *; exact Int.le_trans h1 h2
  have to : ∀ a b : Int, (leI a b || leI b a) = true := fun a b => by simp only [leI, Bool.or_eq_true, decide_eq_true_eq]; exact Int.le_total a b
  refine List.Perm.eq_of_pairwise (le := fun a b => leI a b = true) (fun a b _ _ h1 h2 => ?_) (List.pairwise_mergeSort tr to l) ((isortI_sorted l).imp (fun h => by simpa [leI] using h)) ((List.mergeSort_perm l leI).trans (isortI_perm l).symm)
  simp only [leI, decide_eq_true_eq] at h1 h2
  exact Int.le_antisymm h1 h2
/-! ### What a map of numbers is to the kit -/
def keysI : List (C × V × Nat) → Option (List Int)
  | [] => some []
  | e :: es => match e.1, keysI es with | .int .i64 s, some l => some (s :: l) | _, _ => none
def fitI (es : List (C × V × Nat)) (cl : Nat) (ks : List Int) : Bool := decide (es.length ≤ 1000000) && es.all (fun e => decide (e.2.2 < cl)) && ndB (es.map (·.2.2)) && ndB ks && ks.all (fun k => (Lit.int .i64 k).wf)
theorem rgsI {P : Program} {st : TypeId} (hst : P.underlying st = some (.int .i64)) {σ : Nat → Blk} {D : Nat → Prop} : ∀ {es : List (C × V × Nat)} {m : List MapEntry} {ks : List Int}, RM σ D es m → keysI es = some ks → (∀ k ∈ ks, (Lit.int .i64 k).wf = true) →
    m.map (WideElems.rg P st R1) = ks.map (fun s => (Lit.int .i64 s, (DataW.lit (.bool true) : DataW Unit))) ∧ (∀ x ∈ m, ∃ y, WideElems.rd P st R1 x = some y) ∧ m.map (·.key) = ks.map encZ ∧ m.map (·.born) = es.map (·.2.2)
  | [], [], ks, _, h, _ => by
    simp only [keysI, Option.some.injEq] at h; subst h
    exact ⟨rfl, fun x hx => (by cases hx), rfl, rfl⟩
  | e :: es, q :: m, ks, hm, h, hk => by
    unfold keysI at h
    split at h
    · rename_i s l h1 h2
      simp only [Option.some.injEq] at h; subst h
      obtain ⟨a, b, c, d⟩ := rgsI hst hm.2 h2 (fun k hk' => hk k (List.mem_cons_of_mem _ hk'))
      have hq : q.key = .int .i64 s := by have := hm.1.1; rw [h1] at this; exact this
      have hr : WideElems.rd P st R1 q = some (Lit.int .i64 s, .lit (.bool true)) := by
        obtain ⟨qk, qv, qb⟩ := q
        simp only at hq
        subst hq
        exact WideElems.rd_mk (R := R1) (yv := (.lit (.bool true), [])) (keyOf_int_mk hst (hk s (by simp))) rfl
      refine ⟨?_, fun x hx => ?_, ?_, ?_⟩
      · rw [List.map_cons, List.map_cons, a, WideElems.rg_of hr]
      · rcases List.mem_cons.1 hx with rfl | hx
        · exact ⟨_, hr⟩
        · exact b x hx
      · rw [List.map_cons, List.map_cons, c, hq]
      · rw [List.map_cons, List.map_cons, d, hm.1.2.2]
    · cases h
theorem own_rmI {P : Program} {st : TypeId} (hst : P.underlying st = some (.int .i64)) {σ : Nat → Blk} {D : Nat → Prop} {es : List (C × V × Nat)} {m : Array MapEntry} {ks : List Int} {cl b : Nat} {w : World} (hm : RM σ D es m.toList) (hb : w.heap[b]? = some (.map m cl)) (hk : keysI es = some ks) (hf : fitI es cl ks = true) :
    ∃ D0 : DataW Unit, w.ownsMap P st R1 b es.length D0 ∧ ks.Perm (intKeys D0) ∧ Go.Maps.size D0 = es.length := by
  unfold fitI at hf
  simp only [Bool.and_eq_true, decide_eq_true_eq, List.all_eq_true] at hf
  obtain ⟨⟨⟨⟨h1, h2⟩, h3⟩, h4⟩, h5⟩ := hf
  obtain ⟨g1, g2, g3, g4⟩ := rgsI hst hm hk h5
  have hl : m.size = es.length := by rw [← Array.length_toList]; exact hm.length
  have hkl : ks.length = es.length := by
    have := congrArg List.length g3
    simp only [List.length_map, Array.length_toList] at this
    omega
  refine ⟨_, ⟨m, cl, hb, ⟨by simp only [maxLen]; omega, ⟨fun x hx => ?_, ?_, ?_⟩, g2⟩, by omega, rfl⟩, ?_, ?_⟩
  · have hxb : x.born ∈ m.toList.map (·.born) := List.mem_map_of_mem hx
    rw [g4, List.mem_map] at hxb
    obtain ⟨e, he, h6⟩ := hxb
    rw [← h6]
    exact h2 e he
  · rw [g4]; exact ndB_ok h3
  · rw [g3]
    exact (List.pairwise_map.2 ((ndB_ok h4).imp (fun {a b} hne e => hne (encZ_inj e))))
  · rw [g1]
    show ks.Perm (((ks.map (fun s => (Lit.int .i64 s, (DataW.lit (.bool true) : DataW Unit)))).foldr DataW.insert []).map fun p => intOf p.1)
    refine List.Perm.symm (((WideShapes.sorted_perm _).map _).trans ?_)
    rw [List.map_map]
    show (ks.map (fun s => s)).Perm ks
    rw [List.map_id']
  · show ((m.toList.map (WideElems.rg P st R1)).foldr DataW.insert []).length = es.length
    rw [length_sorted, List.length_map, Array.length_toList]; exact hl
/-! ### The oracle -/
/-- What is known of slices.Sorted at what maps.Keys hands back (its closures: gs). -/
structure SortedI (P : Program) (fS : FuncId) (gs : List FuncId) (st : TypeId) : Prop where
  int : P.underlying st = some (.int .i64)
  run : ∀ g ∈ gs, ∀ (k b nn : Nat) (D0 : DataW Unit) (W : World), k < W.heap.size → W.cell? ⟨k, 0, none⟩ = some (.map (some b)) → W.ownsMap P st R1 b nn D0 → Go.Maps.size D0 ≤ 1000000 →
    Calls P fS #[.func (.func g) #[] #[.pointer (some ⟨k, 0, none⟩)]] W fun e w' => ∃ (v : Value) (ss : List Int), e = .returned v ∧ ss.Perm (intKeys D0) ∧ w'.ownsRow W.heap.size st 1 v ss.length ((ss.mergeSort leI).map encZ) ∧ (v = .slice none 0 0 ↔ ss = []) ∧ Below W.heap.size W w'
  none : ∀ g ∈ gs, ∀ (k : Nat) (W : World), k < W.heap.size → W.cell? ⟨k, 0, none⟩ = some (.map none) →
    Calls P fS #[.func (.func g) #[] #[.pointer (some ⟨k, 0, none⟩)]] W fun e w' => e = .returned (.slice none 0 0) ∧ Below W.heap.size W w'
  body : ∃ fn, P.funcs[fS]? = some fn ∧ fn.body.isSome = true
noncomputable def srtL (st : TypeId) (F : Nat) (n : Nat) (l : List Int) : S × Ef := match l with
  | [] => (.v (.c .snil), .no F)
  | s :: l => (.v (.c (.sl n 0 (l.length + 1) (.op 1))), .new F ⟨st, (s :: l).map (C.int .i64), true, .ok⟩)
noncomputable def srtIF (gs : List FuncId) (st : TypeId) : GFn := fun args H n => match args with
  | [.v (.c (.fn g' [(bx, 0)]))] => if gs.contains g' = true then (match HT.get H bx with
    | some ob => match ob.cs with
      | .map mi :: _ => match HT.get H mi with
        | some mo => match mo.k with
          | .mp es cl => match keysI es with
            | some ks => if fitI es cl ks = true then some (srtL st (one bx ||| one mi) n (isortI ks)) else none
            | none => none
          | _ => none
        | none => none
      | .mapn :: _ => some (.v (.c .snil), .no (one bx))
      | _ => none
    | none => none) else none
  | _ => none
theorem rl_int {σ : Nat → Blk} {D : Nat → Prop} : ∀ l : List Int, RL σ D (l.map (C.int .i64)) (l.map encZ)
  | [] => trivial
  | s :: l => ⟨rfl, rl_int l⟩
theorem srtI_ok {P : Program} {fS : FuncId} {gs : List FuncId} {st : TypeId} (hi : SortedI P fS gs st) : GenOK P fS (srtIF gs st) := by
  refine ⟨hi.body, fun args H n s e h σ D w vals hargs hs hD => ?_⟩
  unfold srtIF at h
  split at h
  · rename_i g' bx
    split at h
    · rename_i hgc
      have hgm := List.contains_iff_mem.1 hgc
      split at h
      · rename_i ob hob
        split at h
        · rename_i mi rest hcs
          split at h
          · rename_i mo hmo
            split at h
            · rename_i es cl hmk
              split at h
              · rename_i ks hks
                split at h
                · rename_i hfit
                  have hF1 : tb (one bx ||| one mi) bx = true := tb_or_l tb_one
                  have hF2 : tb (one bx ||| one mi) mi = true := tb_or_r tb_one
                  have hcall : Sat σ D (rst (tb (one bx ||| one mi)) (hg H)) w → Calls P fS vals.toArray w fun e w' => ∃ v, e = .returned v ∧ w'.ownsRow w.heap.size st 1 v (isortI ks).length ((isortI ks).map encZ) ∧ (v = .slice none 0 0 ↔ isortI ks = []) ∧ Tch No w w' := by
                    intro hs
                    match vals, hargs with
                    | [v1], ⟨r1, _⟩ =>
                      obtain ⟨hDb, e1⟩ := r1
                      subst e1
                      obtain ⟨_, hO⟩ := obj_of hs hF1 hob
                      obtain ⟨_, m, hm1, hm2⟩ := map_of hs hF2 hmo hmk
                      obtain ⟨v0, c1, c2⟩ := cell_of hO (j := 0) (c := .map mi) (by rw [hcs]; rfl)
                      have c3 : v0 = .map (some (σ mi).b) := c2.2
                      subst c3
                      obtain ⟨D0, d1, d2, d3⟩ := own_rmI (P := P) hi.int hm2 hm1 hks hfit
                      have hle : Go.Maps.size D0 ≤ 1000000 := by
                        rw [d3]
                        unfold fitI at hfit
                        simp only [Bool.and_eq_true, decide_eq_true_eq] at hfit
                        exact hfit.1.1.1.1
                      refine (hi.run g' hgm (σ bx).b (σ mi).b es.length D0 w hO.lt c1 d1 hle).mono ?_
                      rintro e w' ⟨v, ss, rfl, h1, h2, h3, h4⟩
                      have hp : ss.Perm ks := h1.trans d2.symm
                      have hsrt : ss.mergeSort leI = isortI ks := by rw [mergeSort_of_perm_i hp, isortI_eq]
                      rw [hsrt] at h2
                      have hlen : ss.length = (isortI ks).length := by rw [(isortI_perm ks).length_eq, hp.length_eq]
                      rw [hlen] at h2
                      refine ⟨v, rfl, h2, h3.trans ?_, Tch.ofBelow h4⟩
                      rw [← List.length_eq_zero_iff, ← List.length_eq_zero_iff, hlen]
                  cases hl : isortI ks with
                  | nil =>
                    rw [hl] at h hcall
                    simp only [srtL, Option.some.injEq, Prod.mk.injEq] at h
                    obtain ⟨rfl, rfl⟩ := h
                    refine (hcall hs).mono ?_
                    rintro e w' ⟨v, rfl, h1, h2, h3⟩
                    have hv : v = .slice none 0 0 := h2.2 rfl
                    refine ⟨v, σ, rfl, hv, ?_⟩
                    rw [Ef.W_eq]
                    exact out_still hs h3
                  | cons a l =>
                    rw [hl] at h hcall
                    simp only [srtL, Option.some.injEq, Prod.mk.injEq] at h
                    obtain ⟨rfl, rfl⟩ := h
                    have hDn : ¬ D n := hD (Nat.lt_succ_self n)
                    refine (hcall hs).mono ?_
                    rintro e w' ⟨v, rfl, g1, g2, g3⟩
                    obtain ⟨k1, k2⟩ := g1
                    rcases k2 with ⟨k2, _⟩ | ⟨gb, cap, cur, rfl, k3, k4, k5, k6, k7, k8⟩
                    · have := g2.1 k2; cases this
                    · rw [Nat.mul_one] at k7 k8
                      have hcl : cur.size = cap := k7
                      refine ⟨_, at_ σ n ⟨gb, cur.size⟩, rfl, ⟨.inr ⟨Nat.le_refl _, Nat.lt_succ_self _⟩, cap, by rw [at_same]; rfl, by simpa using k5, k6, by rw [at_same, Nat.zero_add, Nat.mul_one]; exact hcl.symm⟩, ?_⟩
                      refine out_new (F := one bx ||| one mi) (k := ⟨gb, cur.size⟩) (ob := ⟨st, (a :: l).map (C.int .i64), true, .ok⟩) (w' := w') hs hDn g3 k3 ?_
                      refine ⟨cur, (0, 0), by rw [at_same]; exact k4, fun _ => rfl, by rw [at_same], by rw [at_same]; simp only [List.length_map]; rw [hcl]; exact k5, (fun h => by cases h), fun q cc e => ?_⟩
                      obtain ⟨v, v1, v2⟩ := (rl_int (σ := at_ σ n ⟨gb, cur.size⟩) (D := more D n (n + 1)) (a :: l)).get e
                      refine ⟨v, ?_, v2⟩
                      have hlt := (List.getElem?_eq_some_iff.1 v1).1
                      rw [List.length_map] at hlt
                      rw [← k8, List.getElem?_take, if_pos hlt] at v1
                      rw [← Array.getElem?_toList]; exact v1
                · cases h
              · cases h
            · cases h
          · cases h
        · rename_i rest hcs
          cases h
          match vals, hargs with
          | [v1], ⟨r1, _⟩ =>
            obtain ⟨hDb, e1⟩ := r1
            subst e1
            obtain ⟨_, hO⟩ := obj_of hs tb_one hob
            obtain ⟨v0, c1, c2⟩ := cell_of hO (j := 0) (c := .mapn) (by rw [hcs]; rfl)
            have c3 : v0 = .map none := c2
            subst c3
            refine (hi.none g' hgm (σ bx).b w hO.lt c1).mono ?_
            rintro e w' ⟨rfl, hb⟩
            refine ⟨_, σ, rfl, rfl, ?_⟩
            rw [Ef.W_eq]
            exact out_still hs (Tch.ofBelow hb)
        · cases h
      · cases h
    · cases h
  · cases h
end Go.Proofs.YtcmlgmiomcegeaaGreat.Ev
