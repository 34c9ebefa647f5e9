/- Part 10 of what the proof of WhereLong rests on. No condition. -/
import Derived.Test.YtafndmnbnmlklaaGreatPWhereLong09
namespace Go.Proofs.YtafndmnbnmlklaaGreat
set_option maxRecDepth 100000
set_option maxHeartbeats 60000000
set_option linter.unusedVariables false
set_option linter.unusedSimpArgs false
set_option linter.unusedSectionVars false
namespace Ev
open Go Go.RowKit Go.Maps
theorem absP_congr {A A' : Operand -> Option S} : ∀ {l : List (Nat × Operand)}, (∀ x ∈ l.map (·.2), A x = A' x) -> absP A l = absP A' l
 | [], _ => rfl
 | (i, x) :: l, h => by
  simp only [absP]
  rw [h x (by simp), absP_congr (fun y hy => h y (by simp at hy ⊢; exact .inr hy))]
theorem capsOf_congr {A A' : Operand -> Option S} : ∀ {l : List Operand}, (∀ x ∈ l, A x = A' x) -> capsOf A l = capsOf A' l
 | [], _ => rfl
 | x :: l, h => by
  simp only [capsOf]
  rw [h x (by simp), capsOf_congr (fun y hy => h y (List.mem_cons_of_mem _ hy))]
theorem low_congr {A A' : Operand -> Option S} {lo : Option Operand} (h : ∀ x, lo = some x -> A x = A' x) : lowOf A lo = lowOf A' lo := by
 cases lo with
 | none => rfl
 | some x => simp only [lowOf]; rw [h x rfl]
theorem high_congr {A A' : Operand -> Option S} {len : Nat} {lo : Option Operand} (h : ∀ x, lo = some x -> A x = A' x) : highOf A len lo = highOf A' len lo := by
 cases lo with
 | none => rfl
 | some x => simp only [highOf]; rw [h x rfl]
theorem aop_congr {P : Program} {H : Heap} {n : Nat} {A A' : Operand -> Option S} {o : Oper} (h : ∀ x ∈ o.op.operands, A x = A' x) : aop P H n A o = aop P H n A' o := by
 unfold aop
 generalize o.op = p at h
 cases p with
 | call c =>
  have hc : ∀ x ∈ c.args.toList, A x = A' x := fun x hx => h x (by simp only [Op.operands, Call.operands]; rw [Array.mem_append]; exact .inr (by simpa using hx))
  simp only
  split
  ·rename_i x t h1 h2 h3; unfold aLen; rw [hc x (by rw [h2]; simp)]
  ·rename_i x t h1 h2 h3; unfold aCap; rw [hc x (by rw [h2]; simp)]
  ·rename_i x y h1 h2; unfold aMin; rw [hc x (by rw [h2]; simp), hc y (by rw [h2]; simp)]
  ·rename_i d x t t2 h1 h2 h3; unfold aCopy; rw [hc x (by rw [h2]; simp), hc d (by rw [h2]; simp)]
  ·rename_i x t h1 h2 h3; unfold aClear; rw [hc x (by rw [h2]; simp)]
  ·rename_i s x t t2 h1 h2 h3; unfold aApp; rw [hc x (by rw [h2]; simp), hc s (by rw [h2]; simp)]
  ·rfl
 | build t parts => simp only [aBuild]; rw [absP_congr (fun x hx => h x (by simp [Op.operands]; simpa using hx))]
 | buildSlice t len parts => simp only [aBs]; rw [absP_congr (fun x hx => h x (by simp [Op.operands]; simpa using hx))]
 | makeFunc fn a b => simp only [aMf]; rw [capsOf_congr (fun x hx => h x (by simp [Op.operands]; exact .inr (by simpa using hx)))]
 | slice t x lo hi mx =>
  have hx := h x (by simp [Op.operands])
  have hl : ∀ y, lo = some y -> A y = A' y := fun y hy => h y (by simp [Op.operands, hy])
  have hh : ∀ y, hi = some y -> A y = A' y := fun y hy => h y (by simp [Op.operands, hy])
  simp only [aSl]
  rw [hx, low_congr hl]
  simp only [high_congr hh]
 | pick c x y => simp only [aPick]; rw [h c (by simp [Op.operands]), h x (by simp [Op.operands]), h y (by simp [Op.operands])]
 | store t x y => simp only [aStore]; rw [h x (by simp [Op.operands]), h y (by simp [Op.operands])]
 | binOp op t x y ty => simp only [aBin2, aBin, aBinS]; rw [h x (by simp [Op.operands]), h y (by simp [Op.operands])]
 | makeSlice t x y => simp only [aMake]; rw [h x (by simp [Op.operands]), h y (by simp [Op.operands])]
 | indexAddr t x y => simp only [aIa]; rw [h x (by simp [Op.operands]), h y (by simp [Op.operands])]
 | index t x y => simp only [aIx]; rw [h x (by simp [Op.operands]), h y (by simp [Op.operands])]
 | move x => simp only; rw [h x (by simp [Op.operands])]
 | assign x => simp only; rw [h x (by simp [Op.operands])]
 | box t x => simp only; rw [h x (by simp [Op.operands])]
 | load t x => simp only [aLoad]; rw [h x (by simp [Op.operands])]
 | nilCheck x => simp only [aNil]; rw [h x (by simp [Op.operands])]
 | unOp op t x => simp only [aUn]; rw [h x (by simp [Op.operands])]
 | convert s d x => simp only [aConv]; rw [h x (by simp [Op.operands])]
 | fieldAddr t x f => simp only [aFa]; rw [h x (by simp [Op.operands])]
 | field t x f => simp only [aField]; rw [h x (by simp [Op.operands])]
 | extract x i => simp only [aExt]; rw [h x (by simp [Op.operands])]
 | lookup t x y ok => simp only [aLk]; rw [h x (by simp [Op.operands]), h y (by simp [Op.operands])]
 | mapUpdate t x y z => simp only [aMu]; rw [h x (by simp [Op.operands]), h y (by simp [Op.operands]), h z (by simp [Op.operands])]
 | _ => rfl
structure St where
 A : T S
 H : HT
 n : Nat
abbrev CallF := FuncId -> List S -> HT -> Nat -> Option (S × HT × Nat × Nat × Nat)
def constS (v : Value) : Option S := match v with
 | .tuple ⟨[]⟩ => some (.tup [])
 | v => (absV v).map .v
def opA (A : T S) : Operand -> Option S
 | .tmp t => A.get t
 | .const v => constS v
 | .func f => some (.v (.c (.fn f [])))
 | .global _ => none
def absArgs (A : Operand -> Option S) : List Operand -> Option (List S)
 | [] => some []
 | x :: l => match A x, absArgs A l with | some s, some m => some (s :: m) | _, _ => none
def opRun (call : CallF) (P : Program) (st : St) (A : Operand -> Option S) (o : Oper) : Option (S × HT × Nat × Nat × Nat) := match aop P (hg st.H) st.n A o with
 | some (s, e) => if e.chk st.n st.H then (e.apT st.n st.H).map fun H' => (s, H', e.n' st.n, e.F, e.Wm) else none
 | none => match o.op with
  | .call c => match c.callee with
   | .value x => match S.c? (A x), absArgs A c.args.toList with
    | some (.fn f caps), some l => call f (l ++ caps.map fun p => S.v (.c (.ptr p.1 p.2))) st.H st.n
    | _, _ => none
   | _ => none
  | _ => none
def putS (nt : Nat) (A : T S) (d : Option Tmp) (s : S) : Option (T S) := match d with
 | none => some A
 | some d => if d < nt then A.put dep d s else none
def goS (call : CallF) (P : Program) (nt : Nat) (st : St) (o : Oper) : Option (St × Nat × Nat) := match opRun call P st (opA st.A) o with
 | some (s, H', n', F, W) => (putS nt st.A o.dst s).map fun A' => (⟨A', H', n'⟩, F, W)
 | none => none
def skipS (nt : Nat) (st : St) (o : Oper) : Option (St × Nat × Nat) := (putS nt st.A o.dst .un).map fun A' => (⟨A', st.H, st.n⟩, 0, 0)
def stepG (call : CallF) (P : Program) (ops : Array Oper) (nt : Nat) (st : St) (o : Oper) : Option (St × Nat × Nat) := match o.guard with
 | none => goS call P nt st o
 | some (j, want) => match (ops[j]?).bind (·.dst) with
  | some d => match st.A.get d with
   | some (.v (.c (.bool b))) => if b == want then goS call P nt st o else skipS nt st o
   | some .un => skipS nt st o
   | _ => none
  | none => none
def RSL (σ : Nat -> Blk) (D : Nat -> Prop) : List S -> List Value -> Prop
 | [], [] => True
 | c :: l, v :: m => RS σ D c v /\ RSL σ D l m
 | _, _ => False
def CallOK (P : Program) (call : CallF) : Prop := ∀ f args H n s H' n' F W, call f args H n = some (s, H', n', F, W) -> Inv (hg H) (hg H') n n' F W /\
 ∀ σ D w vals, RSL σ D args vals -> Sat σ D (rst (tb F) (hg H)) w -> (∀ i, n <= i -> hg H i = none) -> (∀ i, n <= i -> i < n' -> ¬ D i) ->
  Calls P f vals.toArray w fun e w' => ∃ v σ', e = .returned v /\ RS σ' (more D n n') s v /\ Out σ D w (rst (tb F) (hg H)) (aft (tb F) n n' (hg H')) n n' (tb W) σ' w'
def named (P : Program) : Bool := P.funcs.all fun fn => fn.body.isNone || !(fn.name == "runtime.NumGoroutine")
section
variable {P : Program} {call : CallF} {σ : Nat -> Blk} {D : Nat -> Prop}
theorem RSL.append : ∀ {l l' : List S} {m m' : List Value}, RSL σ D l m -> RSL σ D l' m' -> RSL σ D (l ++ l') (m ++ m')
 | [], _, [], _, _, h => h
 | _ :: _, _, _ :: _, _, h, k => ⟨h.1, h.2.append k⟩
theorem absArgs_ok {A : Operand -> Option S} {ρ : Operand -> Value} (hA : Eqv σ D A ρ) : ∀ {l : List Operand} {m : List S}, absArgs A l = some m -> RSL σ D m (l.map ρ)
 | [], m, h => by simp only [absArgs, Option.some.injEq] at h; subst h; trivial
 | x :: l, m, h => by
  simp only [absArgs] at h
  split at h
  ·rename_i s m' h1 h2
   simp only [Option.some.injEq] at h; subst h
   exact ⟨hA x s h1, absArgs_ok hA h2⟩
  ·cases h
theorem absArgs_congr {A A' : Operand -> Option S} : ∀ {l : List Operand}, (∀ x ∈ l, A x = A' x) -> absArgs A l = absArgs A' l
 | [], _ => rfl
 | x :: l, h => by
  simp only [absArgs]
  rw [h x (by simp), absArgs_congr (fun y hy => h y (List.mem_cons_of_mem _ hy))]
theorem opRun_congr {A A' : Operand -> Option S} {st : St} {o : Oper} (h : ∀ x ∈ o.op.operands, A x = A' x) : opRun call P st A o = opRun call P st A' o := by
 unfold opRun
 rw [aop_congr h]
 split
 ·rfl
 ·split
  ·rename_i c hc
   split
   ·rename_i x hx
    rw [hc] at h
    rw [h x (by simp [Op.operands, Call.operands, hx]), absArgs_congr (fun y hy => h y (by simp only [Op.operands, Call.operands]; rw [Array.mem_append]; exact .inr (by simpa using hy)))]
   ·rfl
  ·rfl
theorem caps_ok {caps : List (Nat × Nat)} (h : ∀ p ∈ caps, D p.1) : RSL σ D (caps.map fun p => S.v (.c (.ptr p.1 p.2))) (caps.map fun p => Value.pointer (some (adr (σ p.1) p.2))) := by
 induction caps with
 | nil => trivial
 | cons p l ih => exact ⟨⟨h p (by simp), rfl⟩, ih (fun q hq => h q (List.mem_cons_of_mem _ hq))⟩
theorem opRun_ok (hcall : CallOK P call) (hnm : named P = true) (hcl : ∀ f args H n r, call f args H n = some r -> ∃ fn, P.funcs[f]? = some fn /\ fn.body.isSome = true) {A : Operand -> Option S} {st : St} {o : Oper} {s : S} {H' : HT} {n' F W : Nat} (h : opRun call P st A o = some (s, H', n', F, W)) :
  Inv (hg st.H) (hg H') st.n n' F W /\ ∀ σ D w a K Q, Eqv σ D A a.eval -> Sat σ D (rst (tb F) (hg st.H)) w -> (∀ i, st.n <= i -> hg st.H i = none) -> (∀ i, st.n <= i -> i < n' -> ¬ D i) ->
   (∀ σ' v w', RS σ' (more D st.n n') s v -> Out σ D w (rst (tb F) (hg st.H)) (aft (tb F) st.n n' (hg H')) st.n n' (tb W) σ' w' -> K (a.put o.dst v) w') -> Oper.wp P o a w K Q := by
 unfold opRun at h
 split at h
 ·rename_i s0 e hop
  split at h
  ·rename_i hchk
   rw [Option.map_eq_some_iff] at h
   obtain ⟨H1, h1, h2⟩ := h
   simp only [Prod.mk.injEq] at h2
   obtain ⟨rfl, rfl, rfl, rfl, rfl⟩ := h2
   rw [apT_ok h1]
   refine ⟨inv_ef hchk, fun σ D w a K Q hA hs _ hD hK => ?_⟩
   obtain ⟨nx, v, σ', w', hd⟩ := aop_ok hop hA (fun hlt => hD _ (Nat.le_refl _) hlt) hs
   have hout := hd.out
   rw [e.W_eq] at hout
   unfold Oper.wp
   rw [hd.run]
   rcases hd.nx with rfl | ⟨rfl, rfl⟩
   ·exact hK _ _ _ hd.val hout
   ·exact hK _ _ _ hd.val hout
  ·cases h
 ·split at h
  ·rename_i c hc
   split at h
   ·rename_i x hx
    split at h
    ·rename_i f caps l hf hl
     obtain ⟨hinv, hcalls⟩ := hcall _ _ _ _ _ _ _ _ _ h
     refine ⟨hinv, fun σ D w a K Q hA hs hdom hD hK => ?_⟩
     obtain ⟨hcp, hfv⟩ := hA.c hf
     have hargs := (absArgs_ok hA hl).append (caps_ok hcp)
     have hC := hcalls σ D w _ hargs hs hdom hD
     obtain ⟨fn, hfn, hbody⟩ := hcl _ _ _ _ _ h
     have hnn : (fn.name == "runtime.NumGoroutine") = false := by
      unfold named at hnm
      rw [Array.all_eq_true_iff_forall_mem] at hnm
      have := hnm fn (Array.mem_of_getElem? hfn)
      cases hb : fn.body with
      | none => rw [hb] at hbody; cases hbody
      | some b => rw [hb] at this; simpa using this
     have hrun : (execOp a.eval o).run P w = .ok (.enter f ((c.args.toList.map a.eval) ++ caps.map fun p => Value.pointer (some (adr (σ p.1) p.2))).toArray) w := by
      unfold execOp
      rw [hc]
      have hb : ¬ fn.body = none := by intro e; rw [e] at hbody; cases hbody
      have hn2 : ¬ fn.name = "runtime.NumGoroutine" := by simpa using hnn
      have hargs2 : c.args.map a.eval = (c.args.toList.map a.eval).toArray := by apply Array.ext'; simp
      simp [resolve, hx, hfv, Deferred.ofValue, invoke, callFunc, hfn, hn2, hb, hargs2]
     unfold Oper.wp
     rw [hrun]
     show Calls P f _ w _
     refine hC.mono ?_
     rintro e w' ⟨v, σ', rfl, h1, h2⟩
     exact hK _ _ _ h1 h2
    ·cases h
   ·cases h
  ·cases h
end
end Ev
namespace Ev
open Go Go.RowKit Go.Maps
theorem out_refl {σ : Nat -> Blk} {D : Nat -> Prop} {w : World} {H : Heap} {n F W : Nat} (hs : Sat σ D (rst (tb F) H) w) : Out σ D w (rst (tb F) H) (aft (tb F) n n H) n n (tb W) σ w := by
 have key : ∀ i x, aft (tb F) n n H i = some x -> rst (tb F) H i = some x := fun i x e => by
  obtain ⟨h1, h2⟩ := aft_some.1 e
  exact rst_some.2 ⟨h1.resolve_right (by omega), h2⟩
 refine ⟨fun _ _ => rfl, ⟨fun i ob e => ?_, fun i j hi hj e => ?_⟩, Tch.refl _ _, fun i _ hh => ?_, fun i h1 h2 => by omega⟩
 ·obtain ⟨h1, h2⟩ := hs.obj i ob (key i ob e)
  exact ⟨.inl h1, h2.ext rfl rfl (fun _ _ => rfl) (fun _ h => .inl h)⟩
 ·obtain ⟨x, hx⟩ := Option.isSome_iff_exists.1 hi
  obtain ⟨y, hy⟩ := Option.isSome_iff_exists.1 hj
  exact hs.inj i j (some_of (key i x hx)) (some_of (key j y hy)) e
 ·obtain ⟨x, hx⟩ := Option.isSome_iff_exists.1 hh
  exact some_of (key i x hx)
theorem putS_ok {nt : Nat} {A A' : T S} {d : Option Tmp} {s : S} (h : putS nt A d s = some A') : (∀ t, A'.get t = if d = some t then some s else A.get t) /\ ∀ t, d = some t -> t < nt := by
 unfold putS at h
 split at h
 ·simp only [Option.some.injEq] at h; subst h
  exact ⟨fun t => by simp, fun t e => by cases e⟩
 ·rename_i d'
  split at h
  ·rename_i hlt
   refine ⟨fun t => ?_, fun t e => by cases e; exact hlt⟩
   rw [T.get_put h]
   by_cases e : t = d'
   ·subst e; simp
   ·rw [if_neg e, if_neg (fun h => e (Option.some.inj h).symm)]
  ·cases h
theorem constS_ok {σ : Nat -> Blk} {D : Nat -> Prop} {v : Value} {s : S} (h : constS v = some s) : RS σ D s v := by
 unfold constS at h
 split at h
 ·simp only [Option.some.injEq] at h; subst h; exact ⟨[], trivial, rfl⟩
 ·rw [Option.map_eq_some_iff] at h
  obtain ⟨x, h1, rfl⟩ := h
  exact absV_ok h1
def lookA (L : List Nat) (A : T S) : Operand -> Option S
 | .tmp t => if t ∈ L then A.get t else none
 | x => opA A x
theorem lookA_ok {σ : Nat -> Blk} {D : Nat -> Prop} {L : List Nat} {A : T S} {a : Act} (h : ∀ t ∈ L, ∀ s, A.get t = some s -> RS σ D s (a.eval (.tmp t))) : Eqv σ D (lookA L A) a.eval := by
 intro x s hx
 cases x with
 | tmp t =>
  simp only [lookA] at hx
  split at hx
  ·rename_i ht; exact h t ht s hx
  ·cases hx
 | const v => exact constS_ok (show constS v = some s from hx)
 | func f =>
  simp only [lookA, opA, Option.some.injEq] at hx
  subst hx
  exact ⟨fun p hp => (by cases hp), rfl⟩
 | global g => simp [lookA, opA] at hx
theorem look_op {ops : Array Oper} {o : Oper} {t : Nat} (h : Operand.tmp t ∈ o.op.operands) : t ∈ o.looksAt ops := by
 unfold Oper.looksAt
 rw [List.mem_append]
 refine .inl (List.mem_filterMap.2 ⟨.tmp t, by simpa using h, rfl⟩)
section
variable {P : Program} {call : CallF}
theorem stepG_ok (hcall : CallOK P call) (hnm : named P = true) (hcl : ∀ f args H n r, call f args H n = some r -> ∃ fn, P.funcs[f]? = some fn /\ fn.body.isSome = true) {ops : Array Oper} {nt : Nat} {st st' : St} {o : Oper} {F W : Nat} (h : stepG call P ops nt st o = some (st', F, W)) :
  Inv (hg st.H) (hg st'.H) st.n st'.n F W /\ ∃ s : S, (∀ t, st'.A.get t = if o.dst = some t then some s else st.A.get t) /\ (∀ t, o.dst = some t -> t < nt) /\
   ∀ σ D w a K Q, (∀ t ∈ o.looksAt ops, ∀ s, st.A.get t = some s -> t < nt /\ RS σ D s (a.eval (.tmp t))) -> a.tmps.size = nt -> Sat σ D (rst (tb F) (hg st.H)) w -> (∀ i, st.n <= i -> hg st.H i = none) -> (∀ i, st.n <= i -> i < st'.n -> ¬ D i) ->
    (∀ σ' v w', RS σ' (more D st.n st'.n) s v -> Out σ D w (rst (tb F) (hg st.H)) (aft (tb F) st.n st'.n (hg st'.H)) st.n st'.n (tb W) σ' w' -> K (a.put o.dst v) w') ->
    (if Region.wanted o (yielded ops a.tmps) = true then Oper.wp P o a w K Q else K (a.put o.dst undef) w) := by
 have go : goS call P nt st o = some (st', F, W) -> Inv (hg st.H) (hg st'.H) st.n st'.n F W /\ ∃ s : S, (∀ t, st'.A.get t = if o.dst = some t then some s else st.A.get t) /\ (∀ t, o.dst = some t -> t < nt) /\
   ∀ σ D w a K Q, (∀ t ∈ o.looksAt ops, ∀ s, st.A.get t = some s -> t < nt /\ RS σ D s (a.eval (.tmp t))) -> a.tmps.size = nt -> Sat σ D (rst (tb F) (hg st.H)) w -> (∀ i, st.n <= i -> hg st.H i = none) -> (∀ i, st.n <= i -> i < st'.n -> ¬ D i) ->
    (∀ σ' v w', RS σ' (more D st.n st'.n) s v -> Out σ D w (rst (tb F) (hg st.H)) (aft (tb F) st.n st'.n (hg st'.H)) st.n st'.n (tb W) σ' w' -> K (a.put o.dst v) w') -> Oper.wp P o a w K Q := fun h => by
  unfold goS at h
  split at h
  ·rename_i s H' n' F' W' hop
   rw [Option.map_eq_some_iff] at h
   obtain ⟨A', h1, h2⟩ := h
   simp only [Prod.mk.injEq] at h2
   obtain ⟨rfl, rfl, rfl⟩ := h2
   rw [opRun_congr (A' := lookA (o.looksAt ops) st.A) (fun x hx => by
    cases x with
    | tmp t => simp only [opA, lookA]; rw [if_pos (look_op hx)]
    | _ => rfl)] at hop
   obtain ⟨hinv, hw⟩ := opRun_ok hcall hnm hcl hop
   obtain ⟨p1, p2⟩ := putS_ok h1
   exact ⟨hinv, s, p1, p2, fun σ D w a K Q hL hsz hs hdom hD hK => hw σ D w a K Q (lookA_ok fun t ht s hs => (hL t ht s hs).2) hs hdom hD hK⟩
  ·cases h
 have skip : skipS nt st o = some (st', F, W) -> Inv (hg st.H) (hg st'.H) st.n st'.n F W /\ ∃ s : S, (∀ t, st'.A.get t = if o.dst = some t then some s else st.A.get t) /\ (∀ t, o.dst = some t -> t < nt) /\
   ∀ (σ : Nat -> Blk) (D : Nat -> Prop) (w : World) (a : Act) (K : Act -> World -> Prop), Sat σ D (rst (tb F) (hg st.H)) w ->
    (∀ σ' v w', RS σ' (more D st.n st'.n) s v -> Out σ D w (rst (tb F) (hg st.H)) (aft (tb F) st.n st'.n (hg st'.H)) st.n st'.n (tb W) σ' w' -> K (a.put o.dst v) w') -> K (a.put o.dst undef) w := fun h => by
  unfold skipS at h
  rw [Option.map_eq_some_iff] at h
  obtain ⟨A', h1, h2⟩ := h
  simp only [Prod.mk.injEq] at h2
  obtain ⟨rfl, rfl, rfl⟩ := h2
  obtain ⟨p1, p2⟩ := putS_ok h1
  exact ⟨Inv.refl _ _, .un, p1, p2, fun σ D w a K hs hK => hK σ undef w rfl (out_refl hs)⟩
 unfold stepG at h
 split at h
 ·rename_i hgd
  obtain ⟨a1, s, a2, a3, a4⟩ := go h
  refine ⟨a1, s, a2, a3, fun σ D w a K Q hL hsz hs hdom hD hK => ?_⟩
  rw [if_pos (by simp [Region.wanted, hgd])]
  exact a4 σ D w a K Q hL hsz hs hdom hD hK
 ·rename_i j want hgd
  split at h
  ·rename_i d hd
   have hlk : d ∈ o.looksAt ops := by
    unfold Oper.looksAt
    rw [List.mem_append, hgd]
    exact .inr (by simp [hd])
   split at h
   ·rename_i b hb
    have hy : ∀ σ D (a : Act), (∀ t ∈ o.looksAt ops, ∀ s, st.A.get t = some s -> t < nt /\ RS σ D s (a.eval (.tmp t))) -> a.tmps.size = nt -> Region.wanted o (yielded ops a.tmps) = (b == want) := fun σ D a hL hsz => by
     obtain ⟨h1, h2⟩ := hL d hlk _ hb
     have h3 : a.eval (.tmp d) = .bool b := h2
     have h4 : a.tmps[d]? = some (.bool b) := by
      have hlt : d < a.tmps.size := by rw [hsz]; exact h1
      rw [Array.getElem?_eq_getElem hlt]
      simpa [Act.eval, hlt] using h3
     unfold Region.wanted
     rw [hgd]
     simp only [yielded, hd, Option.bind_some, h4]
     cases b <;> cases want <;> rfl
    split at h
    ·rename_i hbw
     obtain ⟨a1, s, a2, a3, a4⟩ := go h
     refine ⟨a1, s, a2, a3, fun σ D w a K Q hL hsz hs hdom hD hK => ?_⟩
     rw [if_pos (by rw [hy σ D a hL hsz]; exact hbw)]
     exact a4 σ D w a K Q hL hsz hs hdom hD hK
    ·rename_i hbw
     obtain ⟨a1, s, a2, a3, a4⟩ := skip h
     refine ⟨a1, s, a2, a3, fun σ D w a K Q hL hsz hs hdom hD hK => ?_⟩
     rw [if_neg (by rw [hy σ D a hL hsz]; exact hbw)]
     exact a4 σ D w a K hs hK
   ·rename_i hb
    obtain ⟨a1, s, a2, a3, a4⟩ := skip h
    refine ⟨a1, s, a2, a3, fun σ D w a K Q hL hsz hs hdom hD hK => ?_⟩
    have hno : ¬ Region.wanted o (yielded ops a.tmps) = true := by
     obtain ⟨h1, h2⟩ := hL d hlk _ hb
     have h3 : a.eval (.tmp d) = undef := h2
     have h4 : a.tmps[d]? = some undef := by
      have hlt : d < a.tmps.size := by rw [hsz]; exact h1
      rw [Array.getElem?_eq_getElem hlt]
      simpa [Act.eval, hlt] using h3
     unfold Region.wanted
     rw [hgd]
     simp only [yielded, hd, Option.bind_some, h4]
     simp [undef]
    rw [if_neg hno]
    exact a4 σ D w a K hs hK
   ·cases h
  ·cases h
def RA (σ : Nat -> Blk) (D : Nat -> Prop) (nt : Nat) (A : T S) (a : Act) : Prop := a.tmps.size = nt /\ ∀ t s, A.get t = some s -> t < nt /\ RS σ D s (a.eval (.tmp t))
theorem RA.put {σ σ' : Nat -> Blk} {D D' : Nat -> Prop} {nt : Nat} {A A' : T S} {a : Act} {d : Option Tmp} {s : S} {v : Value} (h : RA σ D nt A a) (hs : ∀ i, D i -> σ' i = σ i) (hD : ∀ i, D i -> D' i) (hA : ∀ t, A'.get t = if d = some t then some s else A.get t) (hd : ∀ t, d = some t -> t < nt) (hv : RS σ' D' s v) : RA σ' D' nt A' (a.put d v) := by
 refine ⟨by cases d <;> simp [Act.put, h.1], fun t u e => ?_⟩
 rw [hA] at e
 split at e
 ·rename_i e2
  subst e2
  cases e
  have hlt := hd t rfl
  exact ⟨hlt, by simpa [Act.put, Act.eval, h.1, hlt] using hv⟩
 ·rename_i e2
  obtain ⟨h1, h2⟩ := h.2 t u e
  refine ⟨h1, ?_⟩
  have : (a.put d v).eval (.tmp t) = a.eval (.tmp t) := by
   cases d with
   | none => rfl
   | some d =>
    have hne : d ≠ t := fun e => e2 (by rw [e])
    simp [Act.put, Act.eval, Array.getElem?_setIfInBounds, hne]
  rw [this]
  exact h2.ext hs hD
end
end Ev
namespace Ev
open Go Go.RowKit Go.Maps
def dps (ops : Array Oper) (i : Nat) : List Nat := ((ops[i]?).map fun o => (o.after.toList.filter (Region.binds .any)).map (·.on)).getD []
theorem dps_mem {ops : Array Oper} {i k : Nat} {o : Oper} (ho : ops[i]? = some o) : k ∈ dps ops i ↔ ∃ e ∈ o.after, Region.binds .any e = true /\ e.on = k := by
 unfold dps
 rw [ho]
 simp only [Option.map_some, Option.getD_some, List.mem_map, List.mem_filter, Array.mem_toList_iff]
 exact ⟨fun ⟨e, ⟨h1, h2⟩, h3⟩ => ⟨e, h1, h2, h3⟩, fun ⟨e, h1, h2, h3⟩ => ⟨e, ⟨h1, h2⟩, h3⟩⟩
theorem any_gen {P : Program} {ops : Array Oper} {Q : Exit -> Act -> World -> Prop} (hless : ∀ i, i < ops.size -> ∀ e ∈ dps ops i, e < i) (J : (Nat -> Bool) -> Act -> World -> Prop)
  (hstep : ∀ (S : Nat -> Bool) i o a w, ops[i]? = some o -> J S a w -> S i = false -> (∀ k, k < ops.size -> S k = true -> ∀ e ∈ dps ops k, S e = true) -> (∀ e ∈ dps ops i, S e = true) -> ∀ K : Act -> World -> Prop,
   (∀ a' w', J (fun k => S k || k == i) a' w' -> K a' w') -> if Region.wanted o (yielded ops a.tmps) = true then Oper.wp P o a w K Q else K (a.put o.dst undef) w)
  (hend : ∀ S a w, J S a w -> (∀ i, i < ops.size -> S i = true) -> Q .normal a w) :
  ∀ (m : Nat) (listed : Array Bool) (a : Act) (w : World), listed.size = ops.size -> (∀ i, i < ops.size -> listed.getD i true = true -> ∀ e ∈ dps ops i, listed.getD e true = true) ->
   (List.range ops.size).countP (fun i => !listed.getD i true) = m -> J (fun i => listed.getD i true) a w -> wpAny P .any ops Q m listed a w := by
 have hready : ∀ (listed : Array Bool) i, listed.size = ops.size -> i < ops.size -> listed.getD i true = false -> (∀ e ∈ dps ops i, listed.getD e true = true) -> i ∈ Region.ready .any ops listed := by
  intro listed i hs hi h1 h2
  obtain ⟨o, ho⟩ : ∃ o, ops[i]? = some o := ⟨_, Array.getElem?_eq_getElem hi⟩
  unfold Region.ready
  rw [List.mem_filter]
  refine ⟨List.mem_range.2 hi, ?_⟩
  rw [h1, ho]
  simp only [Option.map_some, Option.getD_some, Bool.not_false, Bool.true_and, Array.all_eq_true_iff_forall_mem]
  intro e he
  cases hb : Region.binds .any e with
  | false => rfl
  | true =>
   have hm : e.on ∈ dps ops i := (dps_mem ho).2 ⟨e, he, hb, rfl⟩
   have h3 := h2 _ hm
   have h4 := hless i hi _ hm
   rw [Array.getD_eq_getD_getElem?, Array.getElem?_eq_getElem (by omega)] at h3 ⊢
   simpa using h3
 have hready2 : ∀ (listed : Array Bool) i, listed.size = ops.size -> i ∈ Region.ready .any ops listed -> i < ops.size /\ listed.getD i true = false /\ ∀ e ∈ dps ops i, listed.getD e true = true := by
  intro listed i hs hi
  unfold Region.ready at hi
  rw [List.mem_filter] at hi
  obtain ⟨h1, h2⟩ := hi
  have h1 := List.mem_range.1 h1
  obtain ⟨o, ho⟩ : ∃ o, ops[i]? = some o := ⟨_, Array.getElem?_eq_getElem h1⟩
  rw [ho] at h2
  simp only [Option.map_some, Option.getD_some, Bool.and_eq_true, Bool.not_eq_true', Array.all_eq_true_iff_forall_mem] at h2
  refine ⟨h1, h2.1, fun e he => ?_⟩
  have h5 := hless i h1 e he
  obtain ⟨ed, hed, hb, rfl⟩ := (dps_mem ho).1 he
  have h3 := h2.2 ed hed
  rw [hb] at h3
  rw [Array.getD_eq_getD_getElem?, Array.getElem?_eq_getElem (by omega)] at h3 ⊢
  simpa using h3
 intro m
 induction m with
 | zero =>
  intro listed a w hs hcl hm hJ
  rw [List.countP_eq_zero] at hm
  have hall : ∀ i, i < ops.size -> listed.getD i true = true := fun i hi => by simpa using hm i (List.mem_range.2 hi)
  have h0 : Region.ready .any ops listed = [] := by
   cases hr : Region.ready .any ops listed with
   | nil => rfl
   | cons x xs =>
    obtain ⟨g1, g2, _⟩ := hready2 listed x hs (by rw [hr]; exact List.mem_cons_self)
    rw [hall x g1] at g2; cases g2
  exact ⟨h0, hend _ a w hJ hall⟩
 | succ m ih =>
  intro listed a w hs hcl hm hJ
  refine ⟨fun h0 => ?_, fun i hi => ?_⟩
  ·exfalso
   have hex : ∃ i, i < ops.size /\ listed.getD i true = false := by
    have hp : 0 < (List.range ops.size).countP (fun i => !listed.getD i true) := by omega
    obtain ⟨i, h1, h2⟩ := List.countP_pos_iff.1 hp
    exact ⟨i, List.mem_range.1 h1, by simpa using h2⟩
   have hmin : ∀ n i, i <= n -> i < ops.size -> listed.getD i true = false -> False := by
    intro n
    induction n with
    | zero =>
     intro i hi hio hl
     have := hready listed i hs hio hl (fun e he => by have := hless i hio e he; omega)
     rw [h0] at this; cases this
    | succ n ihn =>
     intro i hi hio hl
     have := hready listed i hs hio hl (fun e he => by
      have hlt := hless i hio e he
      cases hle : listed.getD e true with
      | true => rfl
      | false => exact (ihn e (by omega) (by omega) hle).elim)
     rw [h0] at this; cases this
   obtain ⟨i, h1, h2⟩ := hex
   exact hmin i i (Nat.le_refl _) h1 h2
  ·obtain ⟨h1, h2, h3⟩ := hready2 listed i hs hi
   obtain ⟨o, ho⟩ : ∃ o, ops[i]? = some o := ⟨_, Array.getElem?_eq_getElem h1⟩
   refine wpOp_step ho (fun K hK => ?_)
   have hget : ∀ j, j ≠ i -> (listed.setIfInBounds i true).getD j true = listed.getD j true := fun j hj => by
    rw [Array.getD_eq_getD_getElem?, Array.getD_eq_getD_getElem?, Array.getElem?_setIfInBounds_ne (fun e => hj e.symm)]
   have hgeti : (listed.setIfInBounds i true).getD i true = true := by
    rw [Array.getD_eq_getD_getElem?, Array.getElem?_setIfInBounds]; simp [hs, h1]
   have hfun : (fun k => listed.getD k true || k == i) = fun k => (listed.setIfInBounds i true).getD k true := by
    funext k
    by_cases e : k = i
    ·subst e; rw [hgeti]; simp
    ·rw [hget k e]; simp [e]
   refine hstep _ i o a w ho hJ h2 hcl h3 K (fun a' w' hJ' => hK _ _ ?_)
   refine ih (listed.setIfInBounds i true) _ w' (by simpa using hs) ?_ ?_ (by rw [<- hfun]; exact hJ')
   ·intro j hj hlj e he
    by_cases hji : j = i
    ·subst hji
     have hne : e ≠ j := fun e2 => by have := hless j hj e he; omega
     rw [hget e hne]; exact h3 e he
    ·rw [hget j hji] at hlj
     by_cases hei : e = i
     ·subst hei; exact hgeti
     ·rw [hget e hei]; exact hcl j hj hlj e he
   ·have hc : (List.range ops.size).countP (fun k => !listed.getD k true) = (List.range ops.size).countP (fun k => !(listed.setIfInBounds i true).getD k true) + 1 := by
     have : ∀ (l : List Nat), l.Nodup -> i ∈ l -> l.countP (fun k => !listed.getD k true) = l.countP (fun k => !(listed.setIfInBounds i true).getD k true) + 1 := by
      intro l hn hil
      induction l with
      | nil => cases hil
      | cons x r ihl =>
       rw [List.nodup_cons] at hn
       rw [List.countP_cons, List.countP_cons]
       by_cases hx : x = i
       ·subst hx
        rw [h2, hgeti]
        have : r.countP (fun k => !listed.getD k true) = r.countP (fun k => !(listed.setIfInBounds x true).getD k true) := List.countP_congr (fun k hk => by
         have hne : k ≠ x := fun e => hn.1 (by subst e; exact hk)
         rw [hget k hne])
        rw [this]; simp
       ·rw [hget x hx]
        have := ihl hn.2 ((List.mem_cons.1 hil).resolve_left (fun e => hx e.symm))
        omega
     exact this _ List.nodup_range (List.mem_range.2 h1)
    omega
def cmb {α : Type} (aff : Nat -> Nat -> Bool) (f : Nat -> Nat -> α) (S : Nat -> Bool) : Nat -> Nat -> α
 | 0, x => f 0 x
 | k + 1, x => if S k && aff k x then f (k + 1) x else cmb aff f S k x
theorem cmb_low {α : Type} {aff : Nat -> Nat -> Bool} {f : Nat -> Nat -> α} {S : Nat -> Bool} {x : Nat} : ∀ {i : Nat}, (∀ k, k < i -> aff k x = false -> f (k + 1) x = f k x) -> (∀ k, k < i -> aff k x = true -> S k = true) -> cmb aff f S i x = f i x
 | 0, _, _ => rfl
 | i + 1, hn, hS => by
  rw [cmb]
  have ih := cmb_low (fun k hk => hn k (Nat.lt_succ_of_lt hk)) (fun k hk => hS k (Nat.lt_succ_of_lt hk))
  cases h : aff i x with
  | true => rw [hS i (Nat.lt_succ_self i) h]; rfl
  | false => rw [Bool.and_false, if_neg (by simp), ih, hn i (Nat.lt_succ_self i) h]
theorem cmb_high {α : Type} {aff : Nat -> Nat -> Bool} {f : Nat -> Nat -> α} {S : Nat -> Bool} {x i : Nat} : ∀ {m : Nat}, i <= m -> (∀ k, i <= k -> k < m -> aff k x = true -> S k = false) -> cmb aff f S m x = cmb aff f S i x
 | 0, h, _ => by rw [Nat.le_zero.1 h]
 | m + 1, h, hS => by
  by_cases e : i = m + 1
  ·rw [e]
  ·rw [cmb]
   have hm : i <= m := by omega
   rw [if_neg, cmb_high hm (fun k h1 h2 => hS k h1 (Nat.lt_succ_of_lt h2))]
   cases ha : aff m x with
   | true => rw [hS m hm (Nat.lt_succ_self m) ha]; simp
   | false => simp
theorem cmb_eq {α : Type} {aff : Nat -> Nat -> Bool} {f : Nat -> Nat -> α} {S : Nat -> Bool} {x i m : Nat} (him : i <= m) (hn : ∀ k, k < m -> aff k x = false -> f (k + 1) x = f k x) (hlo : ∀ k, k < i -> aff k x = true -> S k = true) (hhi : ∀ k, i <= k -> k < m -> aff k x = true -> S k = false) : cmb aff f S m x = f i x := by
 rw [cmb_high him hhi, cmb_low (fun k hk => hn k (Nat.lt_of_lt_of_le hk him)) hlo]
theorem cmb_other {α : Type} {aff : Nat -> Nat -> Bool} {f : Nat -> Nat -> α} {S : Nat -> Bool} {x i : Nat} (hi : aff i x = false) : ∀ m, cmb aff f (fun k => S k || k == i) m x = cmb aff f S m x
 | 0 => rfl
 | m + 1 => by
  rw [cmb, cmb, cmb_other hi m]
  by_cases e : m = i
  ·subst e; rw [hi]; simp
  ·simp [e]
structure OutP (σ : Nat -> Blk) (D : Nat -> Prop) (w : World) (h h' : Heap) (N W : Nat -> Prop) (σ' : Nat -> Blk) (w' : World) : Prop where
 same : ∀ i, ¬ N i -> σ' i = σ i
 sat : Sat σ' (fun i => D i ∨ N i) h' w'
 tch : Tch (fun k => ∃ i, W i /\ (h i).isSome = true /\ k = (σ i).b) w w'
 old : ∀ i, ¬ N i -> (h' i).isSome = true -> (h i).isSome = true
 new : ∀ i, N i -> (h' i).isSome = true -> w.heap.size <= (σ' i).b ∨ ∃ j, W j /\ (h j).isSome = true /\ h' j = none /\ (σ' i).b = (σ j).b
theorem Out.toP {σ σ' : Nat -> Blk} {D : Nat -> Prop} {w w' : World} {h h' : Heap} {n n' : Nat} {W : Nat -> Bool} (a : Out σ D w h h' n n' W σ' w') : OutP σ D w h h' (fun i => n <= i /\ i < n') (fun i => W i = true) σ' w' :=
 ⟨a.same, a.sat, a.tch, a.old, fun i ⟨h1, h2⟩ hh => a.new i h1 h2 hh⟩
theorem OutP.trans {σ σ1 σ2 : Nat -> Blk} {D : Nat -> Prop} {w w1 w2 : World} {h h1 h2 : Heap} {N1 N2 W1 W2 : Nat -> Prop} (hs : Sat σ D h w) (hD : ∀ i, N1 i ∨ N2 i -> ¬ D i)
  (a : OutP σ D w h h1 N1 W1 σ1 w1) (b : OutP σ1 (fun i => D i ∨ N1 i) w1 h1 h2 N2 W2 σ2 w2) (hdis : ∀ i, N1 i -> ¬ N2 i) : OutP σ D w h h2 (fun i => N1 i ∨ N2 i) (fun i => W1 i ∨ W2 i) σ2 w2 := by
 have hne : ∀ i, (h i).isSome = true -> ¬ (N1 i ∨ N2 i) := fun i hh q => by
  obtain ⟨o, ho⟩ := Option.isSome_iff_exists.1 hh
  exact hD i q (hs.obj i o ho).1
 have dead : ∀ j, (h j).isSome = true -> h1 j = none -> h2 j = none := fun j hj e => by
  cases e2 : h2 j with
  | none => rfl
  | some x =>
   have := b.old j (fun q => hne j hj (.inr q)) (some_of e2)
   rw [e] at this; cases this
 have place : ∀ j, (h1 j).isSome = true -> (w.heap.size <= (σ1 j).b) ∨ (∃ i, W1 i /\ (h i).isSome = true /\ h1 i = none /\ (σ1 j).b = (σ i).b) ∨ (¬ N1 j /\ (h j).isSome = true /\ σ1 j = σ j) := fun j hj => by
  by_cases c : N1 j
  ·rcases a.new j c hj with g | ⟨i, g1, g2, g3, g4⟩
   ·exact .inl g
   ·exact .inr (.inl ⟨i, g1, g2, g3, g4⟩)
  ·exact .inr (.inr ⟨c, a.old j c hj, a.same j c⟩)
 refine ⟨fun i hi => ?_, ?_, ?_, fun i hi hh => ?_, fun i hi hh => ?_⟩
 ·rw [b.same i (fun q => hi (.inr q)), a.same i (fun q => hi (.inl q))]
 ·have := b.sat
  have e : (fun i => (D i ∨ N1 i) ∨ N2 i) = fun i => D i ∨ N1 i ∨ N2 i := by funext i; exact propext or_assoc
  rwa [e] at this
 ·refine (a.tch.mono (G := fun k => ∃ i, (W1 i ∨ W2 i) /\ (h i).isSome = true /\ k = (σ i).b) (fun k _ ⟨i, g1, g2, g3⟩ => ⟨i, .inl g1, g2, g3⟩)).trans b.tch (fun k hk ⟨i, g1, g2, g3⟩ => ?_)
  rcases place i g2 with c | ⟨j, c1, c2, c3, c4⟩ | ⟨c1, c2, c3⟩
  ·omega
  ·exact ⟨j, .inl c1, c2, by rw [g3, c4]⟩
  ·exact ⟨i, .inr g1, c2, by rw [g3, c3]⟩
 ·exact a.old i (fun q => hi (.inl q)) (b.old i (fun q => hi (.inr q)) hh)
 ·by_cases c : N2 i
  ·rcases b.new i c hh with g | ⟨j, g1, g2, g3, g4⟩
   ·exact .inl (Nat.le_trans a.tch.size g)
   ·rcases place j g2 with c | ⟨j', c1, c2, c3, c4⟩ | ⟨c1, c2, c3⟩
    ·exact .inl (by rw [g4]; exact c)
    ·exact .inr ⟨j', .inl c1, c2, dead j' c2 c3, by rw [g4, c4]⟩
    ·exact .inr ⟨j, .inr g1, c2, g3, by rw [g4, c3]⟩
  ·have hn1 : N1 i := hi.resolve_right c
   rcases a.new i hn1 (b.old i c hh) with g | ⟨j, g1, g2, g3, g4⟩
   ·exact .inl (by rw [b.same i c]; exact g)
   ·exact .inr ⟨j, .inl g1, g2, dead j g2 g3, by rw [b.same i c]; exact g4⟩
end Ev
end Go.Proofs.YtafndmnbnmlklaaGreat
