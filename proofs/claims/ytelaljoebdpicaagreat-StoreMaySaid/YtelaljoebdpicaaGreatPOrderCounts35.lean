/- Part 35 of what the proof of OrderCounts rests on. No condition. -/
import Derived.Test.YtelaljoebdpicaaGreatPOrderCounts34
namespace Go.Proofs.YtelaljoebdpicaaGreat
set_option maxRecDepth 100000
set_option maxHeartbeats 60000000
set_option linter.unusedVariables false
set_option linter.unusedSimpArgs false
set_option linter.unusedSectionVars false
namespace Ev
open Go Go.RowKit Go.Maps
theorem absP_congr {A A' : Operand -> Option S} : ∀ {l : List (Nat × Operand)}, (∀ x ∈ l.map (·.2), A x = A' x) -> absP A l = absP A' l
 | [], _ => rfl
 | (i, x) :: l, h => by
  simp only [absP]
  rw [h x (by simp), absP_congr (fun y hy => h y (by simp at hy ⊢; exact .inr hy))]
theorem capsOf_congr {A A' : Operand -> Option S} : ∀ {l : List Operand}, (∀ x ∈ l, A x = A' x) -> capsOf A l = capsOf A' l
 | [], _ => rfl
 | x :: l, h => by
  simp only [capsOf]
  rw [h x (by simp), capsOf_congr (fun y hy => h y (List.mem_cons_of_mem _ hy))]
theorem low_congr {A A' : Operand -> Option S} {lo : Option Operand} (h : ∀ x, lo = some x -> A x = A' x) : lowOf A lo = lowOf A' lo := by
 cases lo with
 | none => rfl
 | some x => simp only [lowOf]; rw [h x rfl]
theorem high_congr {A A' : Operand -> Option S} {len : Nat} {lo : Option Operand} (h : ∀ x, lo = some x -> A x = A' x) : highOf A len lo = highOf A' len lo := by
 cases lo with
 | none => rfl
 | some x => simp only [highOf]; rw [h x rfl]
theorem aop_congr {P : Program} {H : Heap} {n : Nat} {A A' : Operand -> Option S} {o : Oper} (h : ∀ x ∈ o.op.operands, A x = A' x) : aop P H n A o = aop P H n A' o := by
 unfold aop
 generalize o.op = p at h
 cases p with
 | call c =>
  have hc : ∀ x ∈ c.args.toList, A x = A' x := fun x hx => h x (by simp only [Op.operands, Call.operands]; rw [Array.mem_append]; exact .inr (by simpa using hx))
  simp only
  split
  ·rename_i x t h1 h2 h3; unfold aLen; rw [hc x (by rw [h2]; simp)]
  ·rename_i x t h1 h2 h3; unfold aCap; rw [hc x (by rw [h2]; simp)]
  ·rename_i x y h1 h2; unfold aMin; rw [hc x (by rw [h2]; simp), hc y (by rw [h2]; simp)]
  ·rename_i d x t t2 h1 h2 h3; unfold aCopy; rw [hc x (by rw [h2]; simp), hc d (by rw [h2]; simp)]
  ·rename_i x t h1 h2 h3; unfold aClear; rw [hc x (by rw [h2]; simp)]
  ·rename_i s x t t2 h1 h2 h3; unfold aApp; rw [hc x (by rw [h2]; simp), hc s (by rw [h2]; simp)]
  ·rfl
 | build t parts => simp only [aBuild]; rw [absP_congr (fun x hx => h x (by simp [Op.operands]; simpa using hx))]
 | buildSlice t len parts => simp only [aBs]; rw [absP_congr (fun x hx => h x (by simp [Op.operands]; simpa using hx))]
 | makeFunc fn a b => simp only [aMf]; rw [capsOf_congr (fun x hx => h x (by simp [Op.operands]; exact .inr (by simpa using hx)))]
 | slice t x lo hi mx =>
  have hx := h x (by simp [Op.operands])
  have hl : ∀ y, lo = some y -> A y = A' y := fun y hy => h y (by simp [Op.operands, hy])
  have hh : ∀ y, hi = some y -> A y = A' y := fun y hy => h y (by simp [Op.operands, hy])
  simp only [aSl]
  rw [hx, low_congr hl]
  simp only [high_congr hh]
 | pick c x y => simp only [aPick]; rw [h c (by simp [Op.operands]), h x (by simp [Op.operands]), h y (by simp [Op.operands])]
 | store t x y => simp only [aStore]; rw [h x (by simp [Op.operands]), h y (by simp [Op.operands])]
 | binOp op t x y ty => simp only [aBin2, aBin, aBinS]; rw [h x (by simp [Op.operands]), h y (by simp [Op.operands])]
 | makeSlice t x y => simp only [aMake]; rw [h x (by simp [Op.operands]), h y (by simp [Op.operands])]
 | indexAddr t x y => simp only [aIa]; rw [h x (by simp [Op.operands]), h y (by simp [Op.operands])]
 | index t x y => simp only [aIx]; rw [h x (by simp [Op.operands]), h y (by simp [Op.operands])]
 | move x => simp only; rw [h x (by simp [Op.operands])]
 | assign x => simp only; rw [h x (by simp [Op.operands])]
 | box t x => simp only; rw [h x (by simp [Op.operands])]
 | load t x => simp only [aLoad]; rw [h x (by simp [Op.operands])]
 | nilCheck x => simp only [aNil]; rw [h x (by simp [Op.operands])]
 | unOp op t x => simp only [aUn]; rw [h x (by simp [Op.operands])]
 | convert s d x => simp only [aConv]; rw [h x (by simp [Op.operands])]
 | fieldAddr t x f => simp only [aFa]; rw [h x (by simp [Op.operands])]
 | field t x f => simp only [aField]; rw [h x (by simp [Op.operands])]
 | extract x i => simp only [aExt]; rw [h x (by simp [Op.operands])]
 | lookup t x y ok => simp only [aLk]; rw [h x (by simp [Op.operands]), h y (by simp [Op.operands])]
 | mapUpdate t x y z => simp only [aMu]; rw [h x (by simp [Op.operands]), h y (by simp [Op.operands]), h z (by simp [Op.operands])]
 | _ => rfl
structure St where
 A : T S
 H : HT
 n : Nat
abbrev CallF := FuncId -> List S -> HT -> Nat -> Option (S × HT × Nat × Nat × Nat)
def constS (v : Value) : Option S := match v with
 | .tuple ⟨[]⟩ => some (.tup [])
 | v => (absV v).map .v
def opA (A : T S) : Operand -> Option S
 | .tmp t => A.get t
 | .const v => constS v
 | .func f => some (.v (.c (.fn f [])))
 | .global _ => none
def absArgs (A : Operand -> Option S) : List Operand -> Option (List S)
 | [] => some []
 | x :: l => match A x, absArgs A l with | some s, some m => some (s :: m) | _, _ => none
def opRun (call : CallF) (P : Program) (st : St) (A : Operand -> Option S) (o : Oper) : Option (S × HT × Nat × Nat × Nat) := match aop P (hg st.H) st.n A o with
 | some (s, e) => if e.chk st.n st.H then (e.apT st.n st.H).map fun H' => (s, H', e.n' st.n, e.F, e.Wm) else none
 | none => match o.op with
  | .call c => match c.callee with
   | .value x => match S.c? (A x), absArgs A c.args.toList with
    | some (.fn f caps), some l => call f (l ++ caps.map fun p => S.v (.c (.ptr p.1 p.2))) st.H st.n
    | _, _ => none
   | _ => none
  | _ => none
def putS (nt : Nat) (A : T S) (d : Option Tmp) (s : S) : Option (T S) := match d with
 | none => some A
 | some d => if d < nt then A.put dep d s else none
def goS (call : CallF) (P : Program) (nt : Nat) (st : St) (o : Oper) : Option (St × Nat × Nat) := match opRun call P st (opA st.A) o with
 | some (s, H', n', F, W) => (putS nt st.A o.dst s).map fun A' => (⟨A', H', n'⟩, F, W)
 | none => none
def skipS (nt : Nat) (st : St) (o : Oper) : Option (St × Nat × Nat) := (putS nt st.A o.dst .un).map fun A' => (⟨A', st.H, st.n⟩, 0, 0)
def stepG (call : CallF) (P : Program) (ops : Array Oper) (nt : Nat) (st : St) (o : Oper) : Option (St × Nat × Nat) := match o.guard with
 | none => goS call P nt st o
 | some (j, want) => match (ops[j]?).bind (·.dst) with
  | some d => match st.A.get d with
   | some (.v (.c (.bool b))) => if b == want then goS call P nt st o else skipS nt st o
   | some .un => skipS nt st o
   | _ => none
  | none => none
def RSL (σ : Nat -> Blk) (D : Nat -> Prop) : List S -> List Value -> Prop
 | [], [] => True
 | c :: l, v :: m => RS σ D c v /\ RSL σ D l m
 | _, _ => False
def CallOK (P : Program) (call : CallF) : Prop := ∀ f args H n s H' n' F W, call f args H n = some (s, H', n', F, W) -> Inv (hg H) (hg H') n n' F W /\
 ∀ σ D w vals, RSL σ D args vals -> Sat σ D (rst (tb F) (hg H)) w -> (∀ i, n <= i -> hg H i = none) -> (∀ i, n <= i -> i < n' -> ¬ D i) ->
  Calls P f vals.toArray w fun e w' => ∃ v σ', e = .returned v /\ RS σ' (more D n n') s v /\ Out σ D w (rst (tb F) (hg H)) (aft (tb F) n n' (hg H')) n n' (tb W) σ' w'
def named (P : Program) : Bool := P.funcs.all fun fn => fn.body.isNone || !(fn.name == "runtime.NumGoroutine")
section
variable {P : Program} {call : CallF} {σ : Nat -> Blk} {D : Nat -> Prop}
theorem RSL.append : ∀ {l l' : List S} {m m' : List Value}, RSL σ D l m -> RSL σ D l' m' -> RSL σ D (l ++ l') (m ++ m')
 | [], _, [], _, _, h => h
 | _ :: _, _, _ :: _, _, h, k => ⟨h.1, h.2.append k⟩
theorem absArgs_ok {A : Operand -> Option S} {ρ : Operand -> Value} (hA : Eqv σ D A ρ) : ∀ {l : List Operand} {m : List S}, absArgs A l = some m -> RSL σ D m (l.map ρ)
 | [], m, h => by simp only [absArgs, Option.some.injEq] at h; subst h; trivial
 | x :: l, m, h => by
  simp only [absArgs] at h
  split at h
  ·rename_i s m' h1 h2
   simp only [Option.some.injEq] at h; subst h
   exact ⟨hA x s h1, absArgs_ok hA h2⟩
  ·cases h
theorem absArgs_congr {A A' : Operand -> Option S} : ∀ {l : List Operand}, (∀ x ∈ l, A x = A' x) -> absArgs A l = absArgs A' l
 | [], _ => rfl
 | x :: l, h => by
  simp only [absArgs]
  rw [h x (by simp), absArgs_congr (fun y hy => h y (List.mem_cons_of_mem _ hy))]
theorem opRun_congr {A A' : Operand -> Option S} {st : St} {o : Oper} (h : ∀ x ∈ o.op.operands, A x = A' x) : opRun call P st A o = opRun call P st A' o := by
 unfold opRun
 rw [aop_congr h]
 split
 ·rfl
 ·split
  ·rename_i c hc
   split
   ·rename_i x hx
    rw [hc] at h
    rw [h x (by simp [Op.operands, Call.operands, hx]), absArgs_congr (fun y hy => h y (by simp only [Op.operands, Call.operands]; rw [Array.mem_append]; exact .inr (by simpa using hy)))]
   ·rfl
  ·rfl
theorem caps_ok {caps : List (Nat × Nat)} (h : ∀ p ∈ caps, D p.1) : RSL σ D (caps.map fun p => S.v (.c (.ptr p.1 p.2))) (caps.map fun p => Value.pointer (some (adr (σ p.1) p.2))) := by
 induction caps with
 | nil => trivial
 | cons p l ih => exact ⟨⟨h p (by simp), rfl⟩, ih (fun q hq => h q (List.mem_cons_of_mem _ hq))⟩
theorem opRun_ok (hcall : CallOK P call) (hnm : named P = true) (hcl : ∀ f args H n r, call f args H n = some r -> ∃ fn, P.funcs[f]? = some fn /\ fn.body.isSome = true) {A : Operand -> Option S} {st : St} {o : Oper} {s : S} {H' : HT} {n' F W : Nat} (h : opRun call P st A o = some (s, H', n', F, W)) :
  Inv (hg st.H) (hg H') st.n n' F W /\ ∀ σ D w a K Q, Eqv σ D A a.eval -> Sat σ D (rst (tb F) (hg st.H)) w -> (∀ i, st.n <= i -> hg st.H i = none) -> (∀ i, st.n <= i -> i < n' -> ¬ D i) ->
   (∀ σ' v w', RS σ' (more D st.n n') s v -> Out σ D w (rst (tb F) (hg st.H)) (aft (tb F) st.n n' (hg H')) st.n n' (tb W) σ' w' -> K (a.put o.dst v) w') -> Oper.wp P o a w K Q := by
 unfold opRun at h
 split at h
 ·rename_i s0 e hop
  split at h
  ·rename_i hchk
   rw [Option.map_eq_some_iff] at h
   obtain ⟨H1, h1, h2⟩ := h
   simp only [Prod.mk.injEq] at h2
   obtain ⟨rfl, rfl, rfl, rfl, rfl⟩ := h2
   rw [apT_ok h1]
   refine ⟨inv_ef hchk, fun σ D w a K Q hA hs _ hD hK => ?_⟩
   obtain ⟨nx, v, σ', w', hd⟩ := aop_ok hop hA (fun hlt => hD _ (Nat.le_refl _) hlt) hs
   have hout := hd.out
   rw [e.W_eq] at hout
   unfold Oper.wp
   rw [hd.run]
   rcases hd.nx with rfl | ⟨rfl, rfl⟩
   ·exact hK _ _ _ hd.val hout
   ·exact hK _ _ _ hd.val hout
  ·cases h
 ·split at h
  ·rename_i c hc
   split at h
   ·rename_i x hx
    split at h
    ·rename_i f caps l hf hl
     obtain ⟨hinv, hcalls⟩ := hcall _ _ _ _ _ _ _ _ _ h
     refine ⟨hinv, fun σ D w a K Q hA hs hdom hD hK => ?_⟩
     obtain ⟨hcp, hfv⟩ := hA.c hf
     have hargs := (absArgs_ok hA hl).append (caps_ok hcp)
     have hC := hcalls σ D w _ hargs hs hdom hD
     obtain ⟨fn, hfn, hbody⟩ := hcl _ _ _ _ _ h
     have hnn : (fn.name == "runtime.NumGoroutine") = false := by
      unfold named at hnm
      rw [Array.all_eq_true_iff_forall_mem] at hnm
      have := hnm fn (Array.mem_of_getElem? hfn)
      cases hb : fn.body with
      | none => rw [hb] at hbody; cases hbody
      | some b => rw [hb] at this; simpa using this
     have hrun : (execOp a.eval o).run P w = .ok (.enter f ((c.args.toList.map a.eval) ++ caps.map fun p => Value.pointer (some (adr (σ p.1) p.2))).toArray) w := by
      unfold execOp
      rw [hc]
      have hb : ¬ fn.body = none := by intro e; rw [e] at hbody; cases hbody
      have hn2 : ¬ fn.name = "runtime.NumGoroutine" := by simpa using hnn
      have hargs2 : c.args.map a.eval = (c.args.toList.map a.eval).toArray := by apply Array.ext'; simp
      simp [resolve, hx, hfv, Deferred.ofValue, invoke, callFunc, hfn, hn2, hb, hargs2]
     unfold Oper.wp
     rw [hrun]
     show Calls P f _ w _
     refine hC.mono ?_
     rintro e w' ⟨v, σ', rfl, h1, h2⟩
     exact hK _ _ _ h1 h2
    ·cases h
   ·cases h
  ·cases h
end
end Ev
namespace Ev
open Go Go.RowKit Go.Maps
theorem out_refl {σ : Nat -> Blk} {D : Nat -> Prop} {w : World} {H : Heap} {n F W : Nat} (hs : Sat σ D (rst (tb F) H) w) : Out σ D w (rst (tb F) H) (aft (tb F) n n H) n n (tb W) σ w := by
 have key : ∀ i x, aft (tb F) n n H i = some x -> rst (tb F) H i = some x := fun i x e => by
  obtain ⟨h1, h2⟩ := aft_some.1 e
  exact rst_some.2 ⟨h1.resolve_right (by omega), h2⟩
 refine ⟨fun _ _ => rfl, ⟨fun i ob e => ?_, fun i j hi hj e => ?_⟩, Tch.refl _ _, fun i _ hh => ?_, fun i h1 h2 => by omega⟩
 ·obtain ⟨h1, h2⟩ := hs.obj i ob (key i ob e)
  exact ⟨.inl h1, h2.ext rfl rfl (fun _ _ => rfl) (fun _ h => .inl h)⟩
 ·obtain ⟨x, hx⟩ := Option.isSome_iff_exists.1 hi
  obtain ⟨y, hy⟩ := Option.isSome_iff_exists.1 hj
  exact hs.inj i j (some_of (key i x hx)) (some_of (key j y hy)) e
 ·obtain ⟨x, hx⟩ := Option.isSome_iff_exists.1 hh
  exact some_of (key i x hx)
theorem putS_ok {nt : Nat} {A A' : T S} {d : Option Tmp} {s : S} (h : putS nt A d s = some A') : (∀ t, A'.get t = if d = some t then some s else A.get t) /\ ∀ t, d = some t -> t < nt := by
 unfold putS at h
 split at h
 ·simp only [Option.some.injEq] at h; subst h
  exact ⟨fun t => by simp, fun t e => by cases e⟩
 ·rename_i d'
  split at h
  ·rename_i hlt
   refine ⟨fun t => ?_, fun t e => by cases e; exact hlt⟩
   rw [T.get_put h]
   by_cases e : t = d'
   ·subst e; simp
   ·rw [if_neg e, if_neg (fun h => e (Option.some.inj h).symm)]
  ·cases h
theorem constS_ok {σ : Nat -> Blk} {D : Nat -> Prop} {v : Value} {s : S} (h : constS v = some s) : RS σ D s v := by
 unfold constS at h
 split at h
 ·simp only [Option.some.injEq] at h; subst h; exact ⟨[], trivial, rfl⟩
 ·rw [Option.map_eq_some_iff] at h
  obtain ⟨x, h1, rfl⟩ := h
  exact absV_ok h1
def lookA (L : List Nat) (A : T S) : Operand -> Option S
 | .tmp t => if t ∈ L then A.get t else none
 | x => opA A x
theorem lookA_ok {σ : Nat -> Blk} {D : Nat -> Prop} {L : List Nat} {A : T S} {a : Act} (h : ∀ t ∈ L, ∀ s, A.get t = some s -> RS σ D s (a.eval (.tmp t))) : Eqv σ D (lookA L A) a.eval := by
 intro x s hx
 cases x with
 | tmp t =>
  simp only [lookA] at hx
  split at hx
  ·rename_i ht; exact h t ht s hx
  ·cases hx
 | const v => exact constS_ok (show constS v = some s from hx)
 | func f =>
  simp only [lookA, opA, Option.some.injEq] at hx
  subst hx
  exact ⟨fun p hp => (by cases hp), rfl⟩
 | global g => simp [lookA, opA] at hx
theorem look_op {ops : Array Oper} {o : Oper} {t : Nat} (h : Operand.tmp t ∈ o.op.operands) : t ∈ o.looksAt ops := by
 unfold Oper.looksAt
 rw [List.mem_append]
 refine .inl (List.mem_filterMap.2 ⟨.tmp t, by simpa using h, rfl⟩)
section
variable {P : Program} {call : CallF}
theorem stepG_ok (hcall : CallOK P call) (hnm : named P = true) (hcl : ∀ f args H n r, call f args H n = some r -> ∃ fn, P.funcs[f]? = some fn /\ fn.body.isSome = true) {ops : Array Oper} {nt : Nat} {st st' : St} {o : Oper} {F W : Nat} (h : stepG call P ops nt st o = some (st', F, W)) :
  Inv (hg st.H) (hg st'.H) st.n st'.n F W /\ ∃ s : S, (∀ t, st'.A.get t = if o.dst = some t then some s else st.A.get t) /\ (∀ t, o.dst = some t -> t < nt) /\
   ∀ σ D w a K Q, (∀ t ∈ o.looksAt ops, ∀ s, st.A.get t = some s -> t < nt /\ RS σ D s (a.eval (.tmp t))) -> a.tmps.size = nt -> Sat σ D (rst (tb F) (hg st.H)) w -> (∀ i, st.n <= i -> hg st.H i = none) -> (∀ i, st.n <= i -> i < st'.n -> ¬ D i) ->
    (∀ σ' v w', RS σ' (more D st.n st'.n) s v -> Out σ D w (rst (tb F) (hg st.H)) (aft (tb F) st.n st'.n (hg st'.H)) st.n st'.n (tb W) σ' w' -> K (a.put o.dst v) w') ->
    (if Region.wanted o (yielded ops a.tmps) = true then Oper.wp P o a w K Q else K (a.put o.dst undef) w) := by
 have go : goS call P nt st o = some (st', F, W) -> Inv (hg st.H) (hg st'.H) st.n st'.n F W /\ ∃ s : S, (∀ t, st'.A.get t = if o.dst = some t then some s else st.A.get t) /\ (∀ t, o.dst = some t -> t < nt) /\
   ∀ σ D w a K Q, (∀ t ∈ o.looksAt ops, ∀ s, st.A.get t = some s -> t < nt /\ RS σ D s (a.eval (.tmp t))) -> a.tmps.size = nt -> Sat σ D (rst (tb F) (hg st.H)) w -> (∀ i, st.n <= i -> hg st.H i = none) -> (∀ i, st.n <= i -> i < st'.n -> ¬ D i) ->
    (∀ σ' v w', RS σ' (more D st.n st'.n) s v -> Out σ D w (rst (tb F) (hg st.H)) (aft (tb F) st.n st'.n (hg st'.H)) st.n st'.n (tb W) σ' w' -> K (a.put o.dst v) w') -> Oper.wp P o a w K Q := fun h => by
  unfold goS at h
  split at h
  ·rename_i s H' n' F' W' hop
   rw [Option.map_eq_some_iff] at h
   obtain ⟨A', h1, h2⟩ := h
   simp only [Prod.mk.injEq] at h2
   obtain ⟨rfl, rfl, rfl⟩ := h2
   rw [opRun_congr (A' := lookA (o.looksAt ops) st.A) (fun x hx => by
    cases x with
    | tmp t => simp only [opA, lookA]; rw [if_pos (look_op hx)]
    | _ => rfl)] at hop
   obtain ⟨hinv, hw⟩ := opRun_ok hcall hnm hcl hop
   obtain ⟨p1, p2⟩ := putS_ok h1
   exact ⟨hinv, s, p1, p2, fun σ D w a K Q hL hsz hs hdom hD hK => hw σ D w a K Q (lookA_ok fun t ht s hs => (hL t ht s hs).2) hs hdom hD hK⟩
  ·cases h
 have skip : skipS nt st o = some (st', F, W) -> Inv (hg st.H) (hg st'.H) st.n st'.n F W /\ ∃ s : S, (∀ t, st'.A.get t = if o.dst = some t then some s else st.A.get t) /\ (∀ t, o.dst = some t -> t < nt) /\
   ∀ (σ : Nat -> Blk) (D : Nat -> Prop) (w : World) (a : Act) (K : Act -> World -> Prop), Sat σ D (rst (tb F) (hg st.H)) w ->
    (∀ σ' v w', RS σ' (more D st.n st'.n) s v -> Out σ D w (rst (tb F) (hg st.H)) (aft (tb F) st.n st'.n (hg st'.H)) st.n st'.n (tb W) σ' w' -> K (a.put o.dst v) w') -> K (a.put o.dst undef) w := fun h => by
  unfold skipS at h
  rw [Option.map_eq_some_iff] at h
  obtain ⟨A', h1, h2⟩ := h
  simp only [Prod.mk.injEq] at h2
  obtain ⟨rfl, rfl, rfl⟩ := h2
  obtain ⟨p1, p2⟩ := putS_ok h1
  exact ⟨Inv.refl _ _, .un, p1, p2, fun σ D w a K hs hK => hK σ undef w rfl (out_refl hs)⟩
 unfold stepG at h
 split at h
 ·rename_i hgd
  obtain ⟨a1, s, a2, a3, a4⟩ := go h
  refine ⟨a1, s, a2, a3, fun σ D w a K Q hL hsz hs hdom hD hK => ?_⟩
  rw [if_pos (by simp [Region.wanted, hgd])]
  exact a4 σ D w a K Q hL hsz hs hdom hD hK
 ·rename_i j want hgd
  split at h
  ·rename_i d hd
   have hlk : d ∈ o.looksAt ops := by
    unfold Oper.looksAt
    rw [List.mem_append, hgd]
    exact .inr (by simp [hd])
   split at h
   ·rename_i b hb
    have hy : ∀ σ D (a : Act), (∀ t ∈ o.looksAt ops, ∀ s, st.A.get t = some s -> t < nt /\ RS σ D s (a.eval (.tmp t))) -> a.tmps.size = nt -> Region.wanted o (yielded ops a.tmps) = (b == want) := fun σ D a hL hsz => by
     obtain ⟨h1, h2⟩ := hL d hlk _ hb
     have h3 : a.eval (.tmp d) = .bool b := h2
     have h4 : a.tmps[d]? = some (.bool b) := by
      have hlt : d < a.tmps.size := by rw [hsz]; exact h1
      rw [Array.getElem?_eq_getElem hlt]
      simpa [Act.eval, hlt] using h3
     unfold Region.wanted
     rw [hgd]
     simp only [yielded, hd, Option.bind_some, h4]
     cases b <;> cases want <;> rfl
    split at h
    ·rename_i hbw
     obtain ⟨a1, s, a2, a3, a4⟩ := go h
     refine ⟨a1, s, a2, a3, fun σ D w a K Q hL hsz hs hdom hD hK => ?_⟩
     rw [if_pos (by rw [hy σ D a hL hsz]; exact hbw)]
     exact a4 σ D w a K Q hL hsz hs hdom hD hK
    ·rename_i hbw
     obtain ⟨a1, s, a2, a3, a4⟩ := skip h
     refine ⟨a1, s, a2, a3, fun σ D w a K Q hL hsz hs hdom hD hK => ?_⟩
     rw [if_neg (by rw [hy σ D a hL hsz]; exact hbw)]
     exact a4 σ D w a K hs hK
   ·rename_i hb
    obtain ⟨a1, s, a2, a3, a4⟩ := skip h
    refine ⟨a1, s, a2, a3, fun σ D w a K Q hL hsz hs hdom hD hK => ?_⟩
    have hno : ¬ Region.wanted o (yielded ops a.tmps) = true := by
     obtain ⟨h1, h2⟩ := hL d hlk _ hb
     have h3 : a.eval (.tmp d) = undef := h2
     have h4 : a.tmps[d]? = some undef := by
      have hlt : d < a.tmps.size := by rw [hsz]; exact h1
      rw [Array.getElem?_eq_getElem hlt]
      simpa [Act.eval, hlt] using h3
     unfold Region.wanted
     rw [hgd]
     simp only [yielded, hd, Option.bind_some, h4]
     simp [undef]
    rw [if_neg hno]
    exact a4 σ D w a K hs hK
   ·cases h
  ·cases h
def RA (σ : Nat -> Blk) (D : Nat -> Prop) (nt : Nat) (A : T S) (a : Act) : Prop := a.tmps.size = nt /\ ∀ t s, A.get t = some s -> t < nt /\ RS σ D s (a.eval (.tmp t))
theorem RA.put {σ σ' : Nat -> Blk} {D D' : Nat -> Prop} {nt : Nat} {A A' : T S} {a : Act} {d : Option Tmp} {s : S} {v : Value} (h : RA σ D nt A a) (hs : ∀ i, D i -> σ' i = σ i) (hD : ∀ i, D i -> D' i) (hA : ∀ t, A'.get t = if d = some t then some s else A.get t) (hd : ∀ t, d = some t -> t < nt) (hv : RS σ' D' s v) : RA σ' D' nt A' (a.put d v) := by
 refine ⟨by cases d <;> simp [Act.put, h.1], fun t u e => ?_⟩
 rw [hA] at e
 split at e
 ·rename_i e2
  subst e2
  cases e
  have hlt := hd t rfl
  exact ⟨hlt, by simpa [Act.put, Act.eval, h.1, hlt] using hv⟩
 ·rename_i e2
  obtain ⟨h1, h2⟩ := h.2 t u e
  refine ⟨h1, ?_⟩
  have : (a.put d v).eval (.tmp t) = a.eval (.tmp t) := by
   cases d with
   | none => rfl
   | some d =>
    have hne : d ≠ t := fun e => e2 (by rw [e])
    simp [Act.put, Act.eval, Array.getElem?_setIfInBounds, hne]
  rw [this]
  exact h2.ext hs hD
end
end Ev
end Go.Proofs.YtelaljoebdpicaaGreat
