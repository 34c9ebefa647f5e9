/- A step of an abstract run: an operation, a call, a guard. No condition. -/
import Derived.Test.YtcmlgmiomcegeaaGreatEw7
namespace Go.Proofs.YtcmlgmiomcegeaaGreat.Ev
open Go Go.RowKit Go.Maps
set_option linter.unusedVariables false
set_option linter.unusedSimpArgs false
set_option linter.unusedSectionVars false
variable [Env]

/-! ### An operation looks at its operands alone -/
theorem absP_congr {A A' : Operand → Option S} : ∀ {l : List (Nat × Operand)}, (∀ x ∈ l.map (·.2), A x = A' x) → absP A l = absP A' l
  | [], _ => rfl
  | (i, x) :: l, h => by
    simp only [absP]
    rw [h x (by simp), absP_congr (fun y hy => h y (by simp at hy ⊢; exact .inr hy))]
theorem capsOf_congr {A A' : Operand → Option S} : ∀ {l : List Operand}, (∀ x ∈ l, A x = A' x) → capsOf A l = capsOf A' l
  | [], _ => rfl
  | x :: l, h => by
    simp only [capsOf]
    rw [h x (by simp), capsOf_congr (fun y hy => h y (List.mem_cons_of_mem _ hy))]
theorem low_congr {A A' : Operand → Option S} {lo : Option Operand} (h : ∀ x, lo = some x → A x = A' x) : lowOf A lo = lowOf A' lo := by
  cases lo with
  | none => rfl
  | some x => simp only [lowOf]; rw [h x rfl]
theorem high_congr {A A' : Operand → Option S} {len : Nat} {lo : Option Operand} (h : ∀ x, lo = some x → A x = A' x) : highOf A len lo = highOf A' len lo := by
  cases lo with
  | none => rfl
  | some x => simp only [highOf]; rw [h x rfl]
theorem aop_congr {P : Program} {H : Heap} {n : Nat} {A A' : Operand → Option S} {o : Oper} (h : ∀ x ∈ o.op.operands, A x = A' x) : aop P H n A o = aop P H n A' o := by
  unfold aop
  generalize o.op = p at h
  cases p with
  | call c =>
    have hc : ∀ x ∈ c.args.toList, A x = A' x := fun x hx => h x (by simp only [Op.operands, Call.operands]; rw [Array.mem_append]; exact .inr (by simpa using hx))
    simp only
    split
    · rename_i x t h1 h2 h3; unfold aLen aLenM; rw [hc x (by rw [h2]; simp)]
    · rename_i x y h1 h2; unfold aMax; rw [hc x (by rw [h2]; simp), hc y (by rw [h2]; simp)]
    · rename_i x y t t2 h1 h2 h3; unfold aDel; rw [hc x (by rw [h2]; simp), hc y (by rw [h2]; simp)]
    · rename_i x t h1 h2 h3; unfold aCap; rw [hc x (by rw [h2]; simp)]
    · rename_i x y h1 h2; unfold aMin; rw [hc x (by rw [h2]; simp), hc y (by rw [h2]; simp)]
    · rename_i d x t t2 h1 h2 h3; unfold aCopy; rw [hc x (by rw [h2]; simp), hc d (by rw [h2]; simp)]
    · rename_i x t h1 h2 h3; unfold aClear; rw [hc x (by rw [h2]; simp)]
    · rename_i s x t t2 h1 h2 h3; unfold aApp; rw [hc x (by rw [h2]; simp), hc s (by rw [h2]; simp)]
    · rfl
  | build t parts => simp only [aBuild]; rw [absP_congr (fun x hx => h x (by simp [Op.operands]; simpa using hx))]
  | buildSlice t len parts => simp only [aBs]; rw [absP_congr (fun x hx => h x (by simp [Op.operands]; simpa using hx))]
  | makeFunc fn a b =>
    have ha : ∀ x ∈ a.toList, A x = A' x := fun x hx => h x (by simp [Op.operands]; exact .inl (by simpa using hx))
    simp only [aMf]
    rw [capsOf_congr (fun x hx => h x (by simp [Op.operands]; exact .inr (by simpa using hx)))]
    split
    · rfl
    · rename_i f x hf; rw [ha x (by rw [hf]; simp)]
    · rfl
  | slice t x lo hi mx =>
    have hx := h x (by simp [Op.operands])
    have hl : ∀ y, lo = some y → A y = A' y := fun y hy => h y (by simp [Op.operands, hy])
    have hh : ∀ y, hi = some y → A y = A' y := fun y hy => h y (by simp [Op.operands, hy])
    have hm : ∀ y, mx = some y → A y = A' y := fun y hy => h y (by simp [Op.operands, hy])
    have e1 : aSl P A t x lo hi mx = aSl P A' t x lo hi mx := by
      simp only [aSl]
      rw [hx, low_congr hl]
      simp only [high_congr hh]
    have e2 : aSl2 P H A t x lo hi mx = aSl2 P H A' t x lo hi mx := by
      simp only [aSl2]
      rw [hx, low_congr hl]
      cases mx with
      | none => simp only [high_congr hh]
      | some y3 =>
        cases hi with
        | none => rfl
        | some x3 => simp only [hh x3 rfl, hm y3 rfl]
    simp only [e1, e2]
  | pick c x y => simp only [aPick]; rw [h c (by simp [Op.operands]), h x (by simp [Op.operands]), h y (by simp [Op.operands])]
  | store t x y => simp only [aStore]; rw [h x (by simp [Op.operands]), h y (by simp [Op.operands])]
  | binOp op t x y ty => simp only [aBin2, aBin, aBinS]; rw [h x (by simp [Op.operands]), h y (by simp [Op.operands])]
  | makeSlice t x y => simp only [aMake]; rw [h x (by simp [Op.operands]), h y (by simp [Op.operands])]
  | indexAddr t x y => simp only [aIa]; rw [h x (by simp [Op.operands]), h y (by simp [Op.operands])]
  | index t x y => simp only [aIx]; rw [h x (by simp [Op.operands]), h y (by simp [Op.operands])]
  | move x => simp only; rw [h x (by simp [Op.operands])]
  | assign x => simp only; rw [h x (by simp [Op.operands])]
  | box t x => simp only; rw [h x (by simp [Op.operands])]
  | load t x => simp only [aLoad]; rw [h x (by simp [Op.operands])]
  | nilCheck x => simp only [aNil]; rw [h x (by simp [Op.operands])]
  | unOp op t x => simp only [aUn]; rw [h x (by simp [Op.operands])]
  | convert s d x => simp only [aConv]; rw [h x (by simp [Op.operands])]
  | fieldAddr t x f => simp only [aFa]; rw [h x (by simp [Op.operands])]
  | field t x f => simp only [aField]; rw [h x (by simp [Op.operands])]
  | extract x i => simp only [aExt]; rw [h x (by simp [Op.operands])]
  | lookup t x y ok => simp only [aLk]; rw [h x (by simp [Op.operands]), h y (by simp [Op.operands])]
  | makeChan t x => simp only [aMc]; rw [h x (by simp [Op.operands])]
  | mapEntry t x y => simp only [aMe]; rw [h x (by simp [Op.operands]), h y (by simp [Op.operands])]
  | entryStore t x y z => simp only [aEs]; rw [h x (by simp [Op.operands]), h y (by simp [Op.operands]), h z (by simp [Op.operands])]
  | range t x => simp only [aRange]; rw [h x (by simp [Op.operands])]
  | next x str => simp only [aNext]; rw [h x (by simp [Op.operands])]
  | entry x => simp only [aEntry]; rw [h x (by simp [Op.operands])]
  | mapUpdate t x y z => simp only [aMu]; rw [h x (by simp [Op.operands]), h y (by simp [Op.operands]), h z (by simp [Op.operands])]
  | _ => rfl

/-! ### The run's steps -/
structure St where
  A : TS
  H : HT
  n : Nat
/-- What a call yields: a value, the memory behind it, what it looks at, what it writes. -/
abbrev FunF := FuncId → List S → HT → Nat → Option (S × HT × Nat × Nat × Nat)
/-- How calls go, and operations on values from outside. -/
structure CallF where
  call : FunF
  xo : BinOp → C → C → Option C
noncomputable def xoC (xo : BinOp → C → C → Option C) (op : BinOp) (a b : C) : Option C := match a, b with | .ext _, _ => xo op a b | _, .ext _ => xo op a b | _, _ => none
noncomputable def constS (v : Value) : Option S := match v with
  | .tuple ⟨[]⟩ => some (.tup [])
  | v => (absV v).map .v
noncomputable def opA (A : TS) : Operand → Option S
  | .tmp t => A.get t
  | .const v => constS v
  | .func f => some (.v (.c (.fn f [])))
  | .global _ => none
noncomputable def absArgs (A : Operand → Option S) : List Operand → Option (List S)
  | [] => some []
  | x :: l => match A x, absArgs A l with | some s, some m => some (s :: m) | _, _ => none
noncomputable def opRun (call : CallF) (P : Program) (st : St) (A : Operand → Option S) (o : Oper) : Option (S × HT × Nat × Nat × Nat) := match aop P (hg st.H) st.n A o with
  | some (s, e) => if e.chk st.n st.H then (e.apT st.n st.H).map fun H' => (s, H', e.n' st.n, e.F, e.Wm) else none
  | none => match o.op with
    | .call c => match c.callee with
      | .value x => match S.c? (A x), absArgs A c.args.toList with
        | some (.fn f caps), some l => call.call f (l ++ caps.map fun p => S.v (.c (.ptr p.1 p.2))) st.H st.n
        | some (.bm f i off), some l => call.call f (S.v (.c (.ptr i off)) :: l) st.H st.n
        | _, _ => none
      | _ => none
    | .binOp op t x y _ => match S.c? (A x), S.c? (A y) with
      | some a, some b => (xoC call.xo op a b).map fun c => (.v (.c c), st.H, st.n, 0, 0)
      | _, _ => none
    | _ => none
noncomputable def putS (nt : Nat) (A : TS) (d : Option Tmp) (s : S) : Option (TS) := match d with
  | none => some A
  | some d => if d < nt then TS.put A d (some s) else none
noncomputable def goS (call : CallF) (P : Program) (nt : Nat) (st : St) (o : Oper) : Option (St × Nat × Nat) := match opRun call P st (opA st.A) o with
  | some (s, H', n', F, W) => (putS nt st.A o.dst s).map fun A' => (⟨A', H', n'⟩, F, W)
  | none => none
noncomputable def skipS (nt : Nat) (st : St) (o : Oper) : Option (St × Nat × Nat) := (putS nt st.A o.dst .un).map fun A' => (⟨A', st.H, st.n⟩, 0, 0)
noncomputable def stepG (call : CallF) (P : Program) (ops : Array Oper) (nt : Nat) (st : St) (o : Oper) : Option (St × Nat × Nat) := match o.guard with
  | none => goS call P nt st o
  | some (j, want) => match (ops[j]?).bind (·.dst) with
    | some d => match st.A.get d with
      | some (.v (.c (.bool b))) => if b == want then goS call P nt st o else skipS nt st o
      | some .un => skipS nt st o
      | _ => none
    | none => none
noncomputable def RSL (σ : Nat → Blk) (D : Nat → Prop) : List S → List Value → Prop
  | [], [] => True
  | c :: l, v :: m => RS σ D c v ∧ RSL σ D l m
  | _, _ => False
/-- A way of calling that tells the truth. -/
noncomputable def FunOK (P : Program) (call : FunF) : Prop := ∀ f args H n s H' n' F W, call f args H n = some (s, H', n', F, W) → Inv (hg H) (hg H') n n' F W ∧
  ∀ σ D w vals, RSL σ D args vals → Sat σ D (rst (tb F) (hg H)) w → (∀ i, n ≤ i → hg H i = none) → (∀ i, n ≤ i → i < n' → ¬ D i) →
    Calls P f vals.toArray w fun e w' => ∃ v σ', e = .returned v ∧ RS σ' (more D n n') s v ∧ Out σ D w (rst (tb F) (hg H)) (aft (tb F) n n' (hg H')) n n' (tb W) σ' w'
/-- What operations on values from outside are said to yield is so. -/
def XoOK (P : Program) (xo : BinOp → C → C → Option C) : Prop := ∀ op a b c, xo op a b = some c → ∀ (σ : Nat → Blk) (D : Nat → Prop) (x y : Value) (w : World) (t : TypeId), RC σ D a x → RC σ D b y → ∃ v, RC σ D c v ∧ x.oneCell' = true ∧ x ≠ .nilIface ∧ (binOp op t x y).run P w = .ok v w
def noXo : BinOp → C → C → Option C := fun _ _ _ => none
theorem noXo_ok (P : Program) : XoOK P noXo := fun op a b c h => by cases h
noncomputable def CallOK (P : Program) (call : CallF) : Prop := FunOK P call.call ∧ XoOK P call.xo
theorem xoC_ok {P : Program} {xo : BinOp → C → C → Option C} (h : XoOK P xo) {op : BinOp} {a b c : C} (e : xoC xo op a b = some c) : xo op a b = some c := by
  unfold xoC at e
  split at e
  · exact e
  · exact e
  · cases e
theorem out_still {F n W : Nat} {H : Heap} {σ : Nat → Blk} {D : Nat → Prop} {w w' : World} (hs : Sat σ D (rst (tb F) H) w) (t : Tch No w w') : Out σ D w (rst (tb F) H) (aft (tb F) n n H) n n (tb W) σ w' := by
  have key : ∀ i x, aft (tb F) n n H i = some x → rst (tb F) H i = some x := fun i x e => by
    obtain ⟨h1, h2⟩ := aft_some.1 e
    exact rst_some.2 ⟨h1.resolve_right (by omega), h2⟩
  refine ⟨fun _ _ => rfl, ⟨fun i ob e => ?_, fun i j hi hj e => ?_⟩, t.mono (fun _ _ h => h.elim), fun i _ hh => ?_, fun i h1 h2 => by omega⟩
  · obtain ⟨h1, h2⟩ := hs.obj i ob (key i ob e)
    exact ⟨.inl h1, h2.ext rfl (t.block _ h2.lt (fun h => h)) (fun _ _ => rfl) (fun _ h => .inl h)⟩
  · obtain ⟨x, hx⟩ := Option.isSome_iff_exists.1 hi
    obtain ⟨y, hy⟩ := Option.isSome_iff_exists.1 hj
    exact hs.inj i j (some_of (key i x hx)) (some_of (key j y hy)) e
  · obtain ⟨x, hx⟩ := Option.isSome_iff_exists.1 hh
    exact some_of (key i x hx)
theorem out_refl {σ : Nat → Blk} {D : Nat → Prop} {w : World} {H : Heap} {n F W : Nat} (hs : Sat σ D (rst (tb F) H) w) : Out σ D w (rst (tb F) H) (aft (tb F) n n H) n n (tb W) σ w := by
  exact out_still hs (Tch.refl _ _)
/-- No function of that name has a body. -/
noncomputable def named (P : Program) : Bool := P.funcs.all fun fn => fn.body.isNone || !(fn.name == "runtime.NumGoroutine")
section
variable {P : Program} {call : CallF} {σ : Nat → Blk} {D : Nat → Prop}
theorem RSL.append : ∀ {l l' : List S} {m m' : List Value}, RSL σ D l m → RSL σ D l' m' → RSL σ D (l ++ l') (m ++ m')
  | [], _, [], _, _, h => h
  | _ :: _, _, _ :: _, _, h, k => ⟨h.1, h.2.append k⟩
theorem absArgs_ok {A : Operand → Option S} {ρ : Operand → Value} (hA : Eqv σ D A ρ) : ∀ {l : List Operand} {m : List S}, absArgs A l = some m → RSL σ D m (l.map ρ)
  | [], m, h => by simp only [absArgs, Option.some.injEq] at h; subst h; trivial
  | x :: l, m, h => by
    simp only [absArgs] at h
    split at h
    · rename_i s m' h1 h2
      simp only [Option.some.injEq] at h; subst h
      exact ⟨hA x s h1, absArgs_ok hA h2⟩
    · cases h
theorem absArgs_congr {A A' : Operand → Option S} : ∀ {l : List Operand}, (∀ x ∈ l, A x = A' x) → absArgs A l = absArgs A' l
  | [], _ => rfl
  | x :: l, h => by
    simp only [absArgs]
    rw [h x (by simp), absArgs_congr (fun y hy => h y (List.mem_cons_of_mem _ hy))]
theorem opRun_congr {A A' : Operand → Option S} {st : St} {o : Oper} (h : ∀ x ∈ o.op.operands, A x = A' x) : opRun call P st A o = opRun call P st A' o := by
  unfold opRun
  rw [aop_congr h]
  split
  · rfl
  · split
    · rename_i c hc
      split
      · rename_i x hx
        rw [hc] at h
        rw [h x (by simp [Op.operands, Call.operands, hx]), absArgs_congr (fun y hy => h y (by simp only [Op.operands, Call.operands]; rw [Array.mem_append]; exact .inr (by simpa using hy)))]
      · rfl
    · rename_i op t x y ty hb
      rw [hb] at h
      rw [h x (by simp [Op.operands]), h y (by simp [Op.operands])]
    · rfl
theorem caps_ok {caps : List (Nat × Nat)} (h : ∀ p ∈ caps, D p.1) : RSL σ D (caps.map fun p => S.v (.c (.ptr p.1 p.2))) (caps.map fun p => Value.pointer (some (adr (σ p.1) p.2))) := by
  induction caps with
  | nil => trivial
  | cons p l ih => exact ⟨⟨h p (by simp), rfl⟩, ih (fun q hq => h q (List.mem_cons_of_mem _ hq))⟩
/-- An operation, whatever it is. -/
theorem opRun_ok (hcall : CallOK P call) (hnm : named P = true) (hcl : ∀ f args H n r, call.call f args H n = some r → ∃ fn, P.funcs[f]? = some fn ∧ fn.body.isSome = true) {A : Operand → Option S} {st : St} {o : Oper} {s : S} {H' : HT} {n' F W : Nat} (h : opRun call P st A o = some (s, H', n', F, W)) :
    Inv (hg st.H) (hg H') st.n n' F W ∧ ∀ σ D w a K Q, Eqv σ D A a.eval → Sat σ D (rst (tb F) (hg st.H)) w → (∀ i, st.n ≤ i → hg st.H i = none) → (∀ i, st.n ≤ i → i < n' → ¬ D i) →
      (∀ σ' v w', RS σ' (more D st.n n') s v → Out σ D w (rst (tb F) (hg st.H)) (aft (tb F) st.n n' (hg H')) st.n n' (tb W) σ' w' → K (a.put o.dst v) w') → Oper.wp P o a w K Q := by
  unfold opRun at h
  split at h
  · rename_i s0 e hop
    split at h
    · rename_i hchk
      rw [Option.map_eq_some_iff] at h
      obtain ⟨H1, h1, h2⟩ := h
      simp only [Prod.mk.injEq] at h2
      obtain ⟨rfl, rfl, rfl, rfl, rfl⟩ := h2
      rw [apT_ok h1]
      refine ⟨inv_ef hchk, fun σ D w a K Q hA hs _ hD hK => ?_⟩
      obtain ⟨nx, v, σ', w', hd⟩ := aop_ok hop hA (fun hlt => hD _ (Nat.le_refl _) hlt) hs
      have hout := hd.out
      rw [e.W_eq] at hout
      unfold Oper.wp
      rw [hd.run]
      rcases hd.nx with rfl | ⟨rfl, rfl⟩
      · exact hK _ _ _ hd.val hout
      · exact hK _ _ _ hd.val hout
    · cases h
  · split at h
    · rename_i c hc
      split at h
      · rename_i x hx
        split at h
        · rename_i f caps l hf hl
          obtain ⟨hinv, hcalls⟩ := hcall.1 _ _ _ _ _ _ _ _ _ h
          refine ⟨hinv, fun σ D w a K Q hA hs hdom hD hK => ?_⟩
          obtain ⟨hcp, hfv⟩ := hA.c hf
          have hargs := (absArgs_ok hA hl).append (caps_ok hcp)
          have hC := hcalls σ D w _ hargs hs hdom hD
          obtain ⟨fn, hfn, hbody⟩ := hcl _ _ _ _ _ h
          have hnn : (fn.name == "runtime.NumGoroutine") = false := by
            unfold named at hnm
            rw [Array.all_eq_true_iff_forall_mem] at hnm
            have := hnm fn (Array.mem_of_getElem? hfn)
            cases hb : fn.body with
            | none => rw [hb] at hbody; cases hbody
            | some b => rw [hb] at this; simpa using this
          have hrun : (execOp a.eval o).run P w = .ok (.enter f ((c.args.toList.map a.eval) ++ caps.map fun p => Value.pointer (some (adr (σ p.1) p.2))).toArray) w := by
            unfold execOp
            rw [hc]
            have hb : ¬ fn.body = none := by intro e; rw [e] at hbody; cases hbody
            have hn2 : ¬ fn.name = "runtime.NumGoroutine" := by simpa using hnn
            have hargs2 : c.args.map a.eval = (c.args.toList.map a.eval).toArray := by apply Array.ext'; simp
            simp [resolve, hx, hfv, Deferred.ofValue, invoke, callFunc, hfn, hn2, hb, hargs2]
          unfold Oper.wp
          rw [hrun]
          show Calls P f _ w _
          refine hC.mono ?_
          rintro e w' ⟨v, σ', rfl, h1, h2⟩
          exact hK _ _ _ h1 h2
        · rename_i f i off l hf hl
          obtain ⟨hinv, hcalls⟩ := hcall.1 _ _ _ _ _ _ _ _ _ h
          refine ⟨hinv, fun σ D w a K Q hA hs hdom hD hK => ?_⟩
          obtain ⟨hcp, hfv⟩ := hA.c hf
          have hargs : RSL σ D (S.v (.c (.ptr i off)) :: _) (Value.pointer (some (adr (σ i) off)) :: c.args.toList.map a.eval) := ⟨⟨hcp, rfl⟩, absArgs_ok hA hl⟩
          have hC := hcalls σ D w _ hargs hs hdom hD
          obtain ⟨fn, hfn, hbody⟩ := hcl _ _ _ _ _ h
          have hnn : (fn.name == "runtime.NumGoroutine") = false := by
            unfold named at hnm
            rw [Array.all_eq_true_iff_forall_mem] at hnm
            have := hnm fn (Array.mem_of_getElem? hfn)
            cases hb : fn.body with
            | none => rw [hb] at hbody; cases hbody
            | some b => rw [hb] at this; simpa using this
          have hrun : (execOp a.eval o).run P w = .ok (.enter f (Value.pointer (some (adr (σ i) off)) :: c.args.toList.map a.eval).toArray) w := by
            unfold execOp
            rw [hc]
            have hb : ¬ fn.body = none := by intro e; rw [e] at hbody; cases hbody
            have hn2 : ¬ fn.name = "runtime.NumGoroutine" := by simpa using hnn
            have hargs2 : c.args.map a.eval = (c.args.toList.map a.eval).toArray := by apply Array.ext'; simp
            simp [resolve, hx, hfv, Deferred.ofValue, invoke, callFunc, hfn, hn2, hb, hargs2]
          unfold Oper.wp
          rw [hrun]
          show Calls P f _ w _
          refine hC.mono ?_
          rintro e w' ⟨v, σ', rfl, h1, h2⟩
          exact hK _ _ _ h1 h2
        · cases h
      · cases h
    · rename_i op t x y ty hb
      split at h
      · rename_i a b ha hb2
        rw [Option.map_eq_some_iff] at h
        obtain ⟨c, h1, h2⟩ := h
        simp only [Prod.mk.injEq] at h2
        obtain ⟨rfl, rfl, rfl, rfl, rfl⟩ := h2
        refine ⟨Inv.refl _ _, fun σ D w a' K Q hA hs _ hD hK => ?_⟩
        obtain ⟨v, g1, g3, g4, g2⟩ := hcall.2 _ _ _ _ (xoC_ok hcall.2 h1) σ D _ _ w t (hA.c ha) (hA.c hb2)
        have hrun : (execOp a'.eval o).run P w = .ok (.value v) w := by
          unfold execOp; rw [hb]; simp [guard_ok g3 g4, g2]
        unfold Oper.wp
        rw [hrun]
        exact hK σ v w (RC.ext g1 (fun _ _ => rfl) (fun _ h => .inl h)) (out_refl hs)
      · cases h
    · cases h
end
end Go.Proofs.YtcmlgmiomcegeaaGreat.Ev
