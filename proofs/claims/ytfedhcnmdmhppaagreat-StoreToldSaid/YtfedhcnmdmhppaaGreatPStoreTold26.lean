/- Part 26 of what the proof of StoreTold rests on. No condition. -/
import Derived.Test.YtfedhcnmdmhppaaGreatPStoreTold13
import Derived.Test.YtfedhcnmdmhppaaGreatPStoreTold25
namespace Go.Proofs.YtfedhcnmdmhppaaGreat
set_option maxRecDepth 100000
set_option maxHeartbeats 60000000
set_option linter.unusedVariables false
set_option linter.unusedSimpArgs false
namespace Ev
open Go Go.RowKit Go.Maps
theorem argT_ok : ∀ {i : Nat} {l : List S} {A A' : T S}, argT i l A = some A' -> ∀ t, A'.get t = if i <= t /\ t < i + l.length then l[t - i]? else A.get t
 | i, [], A, A', h, t => by
  simp only [argT, Option.some.injEq] at h; subst h
  rw [if_neg (fun ⟨_, h⟩ => by simp at h; omega)]
 | i, s :: l, A, A', h, t => by
  simp only [argT] at h
  split at h
  ·rename_i A1 h1
   rw [argT_ok h t, T.get_put h1]
   by_cases e : t = i
   ·subst e
    rw [if_neg (by omega), if_pos rfl, if_pos (by simp)]
    simp
   ·by_cases c : i + 1 <= t /\ t < i + 1 + l.length
    ·rw [if_pos c, if_pos (by simp; omega)]
     obtain ⟨j, hj⟩ : ∃ j, t - i = j + 1 := ⟨t - i - 1, by omega⟩
     rw [hj, List.getElem?_cons_succ]
     congr 1; omega
    ·rw [if_neg c, if_neg e, if_neg (by simp; omega)]
  ·cases h
theorem RSL.length {σ : Nat -> Blk} {D : Nat -> Prop} : ∀ {l : List S} {m : List Value}, RSL σ D l m -> m.length = l.length
 | [], [], _ => rfl
 | _ :: _, _ :: _, h => by rw [List.length_cons, List.length_cons, h.2.length]
theorem RSL.get {σ : Nat -> Blk} {D : Nat -> Prop} : ∀ {l : List S} {m : List Value} {j : Nat} {c : S}, RSL σ D l m -> l[j]? = some c -> ∃ v, m[j]? = some v /\ RS σ D c v
 | [], [], _, _, _, e => by cases e
 | a :: l, v :: m, 0, c, h, e => by
  rw [List.getElem?_cons_zero] at e
  cases e
  exact ⟨v, rfl, h.1⟩
 | a :: l, v :: m, j + 1, c, h, e => h.2.get (by simpa using e)
section
variable {P : Program}
def resRun (tmps : Array Value) : ResultVar -> Sem Value
 | .tmp t => pure (tmps.getD t undef)
 | .cell a t => do loadVar t (<- asAddr (tmps.getD a undef))
theorem results_eq (fn : Func) (tmps : Array Value) : results fn tmps = (do let vs <- fn.results.mapM (resRun tmps); pure (if h : vs.size = 1 then vs[0] else .tuple vs)) := by
 unfold results
 congr 1
theorem resL_ok {σ : Nat -> Blk} {D : Nat -> Prop} {nt F : Nat} {H : Heap} {A : T S} {a : Act} {w : World} (hA : RA σ D nt A a) (hs : Sat σ D (rst (tb F) H) w) : ∀ {l : List ResultVar} {m : List V} {F' : Nat}, resL P H A l = some (m, F') -> (∀ i, tb F' i = true -> tb F i = true) ->
  ∃ vs : List Value, RVL σ D m vs /\ (l.mapM (resRun a.tmps) : Sem (List Value)).run P w = .ok vs w
 | [], m, F', h, _ => by
  simp only [resL, Option.some.injEq, Prod.mk.injEq] at h
  obtain ⟨rfl, rfl⟩ := h
  exact ⟨[], trivial, rfl⟩
 | .tmp t :: l, m, F', h, hF => by
  simp only [resL] at h
  split at h
  ·rename_i v m' F1 h1 h2
   simp only [Option.some.injEq, Prod.mk.injEq] at h
   obtain ⟨rfl, rfl⟩ := h
   obtain ⟨vs, g1, g2⟩ := resL_ok hA hs h2 hF
   obtain ⟨k1, k2⟩ := hA.2 t _ (v?_some h1)
   refine ⟨a.tmps.getD t undef :: vs, ⟨k2, g1⟩, ?_⟩
   simp only [List.mapM_cons, resRun, Sem.run_bind, Sem.run_pure, Result.andThen_ok, g2]
  ·cases h
 | .cell p ty :: l, m, F', h, hF => by
  simp only [resL] at h
  split at h
  ·rename_i i off m' F1 h1 h2
   split at h
   ·rename_i v hv
    simp only [Option.some.injEq, Prod.mk.injEq] at h
    obtain ⟨rfl, rfl⟩ := h
    obtain ⟨vs, g1, g2⟩ := resL_ok hA hs h2 (fun i hi => hF i (by rw [tb_or, hi, Bool.or_true]))
    obtain ⟨k1, k2⟩ := hA.2 p _ (c?_some h1)
    have hp : a.tmps.getD p undef = .pointer (some (adr (σ i) off)) := k2.2
    obtain ⟨u, u1, u2⟩ := aLd_ok (P := P) hs (hF i (by rw [tb_or, tb_one]; rfl)) hv
    refine ⟨u :: vs, ⟨u1, g1⟩, ?_⟩
    simp only [List.mapM_cons, resRun, Sem.run_bind, Sem.run_pure, Result.andThen_ok, hp, asAddr, u2, g2]
   ·cases h
  ·cases h
theorem RVL.length {σ : Nat -> Blk} {D : Nat -> Prop} : ∀ {l : List V} {m : List Value}, RVL σ D l m -> m.length = l.length
 | [], [], _ => rfl
 | _ :: _, _ :: _, h => by rw [List.length_cons, List.length_cons, h.2.length]
theorem res_ok {σ : Nat -> Blk} {D : Nat -> Prop} {nt F : Nat} {H : Heap} {A : T S} {a : Act} {w : World} {fn : Func} {m : List V} {F' : Nat} (hA : RA σ D nt A a) (hs : Sat σ D (rst (tb F) H) w) (h : resL P H A fn.results.toList = some (m, F')) (hF : ∀ i, tb F' i = true -> tb F i = true) :
  ∃ v, RS σ D (resS m) v /\ (results fn a.tmps).run P w = .ok v w := by
 obtain ⟨vs, g1, g2⟩ := resL_ok hA hs h hF
 have hlen := g1.length
 have hrun : (fn.results.mapM (resRun a.tmps) : Sem (Array Value)).run P w = .ok vs.toArray w := by
  rw [Array.mapM_eq_mapM_toList]
  simp only [Sem.run_map]
  rw [g2]
  rfl
 refine ⟨if h : vs.toArray.size = 1 then vs.toArray[0] else .tuple vs.toArray, ?_, ?_⟩
 ·by_cases h1 : vs.length = 1
  ·obtain ⟨v, rfl⟩ := List.length_eq_one_iff.1 h1
   obtain ⟨x, rfl⟩ := List.length_eq_one_iff.1 (show m.length = 1 by simpa using hlen.symm)
   simpa [resS, RS] using g1.1
  ·rw [dif_neg (by simpa using h1)]
   have : resS m = .tup m := by
    unfold resS
    split
    ·rename_i v; simp at hlen; exact absurd hlen h1
    ·rfl
   rw [this]
   exact ⟨vs, g1, rfl⟩
 ·rw [results_eq, Sem.run_bind, hrun]
  rfl
def progOk (P : Program) : Bool := P.funcs.all fun fn => match fn.body with | some c => regsOk c | none => true
structure POk (P : Program) : Prop where
 mix : P.follows .mixedOrders = true
 name : named P = true
 regs : progOk P = true
def OrcOK (P : Program) (orc : Orc) : Prop := CallOK P orc /\ ∀ f args H n r, orc f args H n = some r -> ∃ fn, P.funcs[f]? = some fn /\ fn.body.isSome = true
theorem noOrc_ok : OrcOK P noOrc := ⟨fun f args H n s H' n' F W h => (by cases h), fun f args H n r h => (by cases h)⟩
theorem evF_body {orc : Orc} {N : Nat} (ho : OrcOK P orc) : ∀ {k : Nat} {f : FuncId} {args : List S} {H : HT} {n : Nat} {r}, evF orc P N k f args H n = some r -> ∃ fn, P.funcs[f]? = some fn /\ fn.body.isSome = true
 | 0, _, _, _, _, _, h => by simp [evF] at h
 | k + 1, f, args, H, n, r, h => by
  simp only [evF] at h
  split at h
  ·rename_i r' hr
   exact ho.2 _ _ _ _ _ hr
  ·split at h
   ·rename_i fn hfn
    split at h
    ·rename_i c hc
     exact ⟨fn, hfn, by rw [hc]; rfl⟩
    ·cases h
   ·cases h
theorem evF_ok {orc : Orc} {N : Nat} (ho : OrcOK P orc) (hP : POk P) : ∀ k, CallOK P (evF orc P N k)
 | 0 => fun f args H n s H' n' F W h => by simp [evF] at h
 | k + 1 => fun f args H n s H' n' F W h => by
  simp only [evF] at h
  split at h
  ·rename_i r hr
   simp only [Option.some.injEq] at h
   subst h
   exact ho.1 _ _ _ _ _ _ _ _ _ hr
  ·split at h
   ·rename_i fn hfn
    split at h
    ·rename_i c hc
     split at h
     ·rename_i hlen
      split at h
      ·rename_i A hAt
       have hreg : regsOk c = true := by
        have := hP.regs
        unfold progOk at this
        rw [Array.all_eq_true_iff_forall_mem] at this
        have h2 := this fn (Array.mem_of_getElem? hfn)
        rw [hc] at h2; exact h2
       have main : ∀ (x : X) (st : St) (F1 W1 : Nat), (x = .rt ∨ x = .nm) -> evC (evF orc P N k) P fn.ntmps N c ⟨A, H, n⟩ = some (x, st, F1, W1) -> (resL P (hg st.H) st.A fn.results.toList).map (fun r => (resS r.1, st.H, st.n, F1 ||| r.2, W1)) = some (s, H', n', F, W) ->
         Inv (hg H) (hg H') n n' F W /\ ∀ σ D w vals, RSL σ D args vals -> Sat σ D (rst (tb F) (hg H)) w -> (∀ i, n <= i -> hg H i = none) -> (∀ i, n <= i -> i < n' -> ¬ D i) ->
          Calls P f vals.toArray w fun e w' => ∃ v σ', e = .returned v /\ RS σ' (more D n n') s v /\ Out σ D w (rst (tb F) (hg H)) (aft (tb F) n n' (hg H')) n n' (tb W) σ' w' := by
        intro x st F1 W1 hx hev hres
        rw [Option.map_eq_some_iff] at hres
        obtain ⟨⟨m, F2⟩, hr, he⟩ := hres
        simp only [Prod.mk.injEq] at he
        obtain ⟨rfl, rfl, rfl, rfl, rfl⟩ := he
        obtain ⟨i1, q1⟩ := evC_ok (evF_ok ho hP k) hP.name (fun f args H n r h => evF_body ho h) hP.mix c hreg _ _ _ _ _ hev
        simp only at i1 q1
        have i2 : Inv (hg st.H) (hg st.H) st.n st.n F2 0 := ⟨Nat.le_refl _, fun _ _ _ => rfl, fun h => h, fun i _ h => by rw [tb_0] at h; cases h⟩
        have eW : tb (W1 ||| 0) = tb W1 := by funext i; rw [tb_or, tb_0, Bool.or_false]
        refine ⟨(i1.seq i2).congr rfl eW, fun σ D w vals hargs hs hdom hD => ?_⟩
        refine calls_of_wp hfn hc ?_
        have hvl := hargs.length
        have hA0 : RA σ D fn.ntmps A { tmps := vals.toArray ++ Array.replicate (fn.ntmps - vals.toArray.size) undef, defers := [] } := by
         refine ⟨by simp; omega, fun t s' e => ?_⟩
         rw [argT_ok hAt] at e
         split at e
         ·rename_i hc2
          obtain ⟨v, v1, v2⟩ := hargs.get e
          rw [Nat.sub_zero] at v1
          have hlt : t < vals.length := by omega
          refine ⟨by omega, ?_⟩
          have : (vals.toArray ++ Array.replicate (fn.ntmps - vals.toArray.size) undef).getD t undef = v := by
           rw [Array.getD_eq_getD_getElem?, Array.getElem?_append_left (by simpa using hlt)]
           simp [v1]
          show RS σ D s' ((vals.toArray ++ Array.replicate (fn.ntmps - vals.toArray.size) undef).getD t undef)
          rw [this]; exact v2
         ·unfold T.get at e; cases e
        have hF1 : ∀ i, tb F1 i = true -> tb (F1 ||| F2) i = true := fun i h => by rw [tb_or, h]; rfl
        have hF2 : ∀ i, tb F2 i = true -> tb (F1 ||| F2) i = true := fun i h => by rw [tb_or, h, Bool.or_true]
        refine q1 σ D w _ _ hA0 (sat_left hs) hdom hD (fun σ1 a1 w1 hA1 hd1 hO => ?_)
        obtain ⟨s1, _, hfin⟩ := out_seq (σ2 := σ1) (w2 := w1) hF1 hF2 hdom i1 i2 hs hD hO
        obtain ⟨v, r1, r2⟩ := res_ok (P := P) hA1 s1 hr (fun i h => h)
        have hOut := hfin (out_refl s1)
        have eW2 : (fun i => tb W1 i || tb 0 i) = tb W1 := by funext i; rw [tb_0, Bool.or_false]
        rw [eW2] at hOut
        have hR : ∃ v_1 σ', Ending.returned v = .returned v_1 /\ RS σ' (more D n st.n) (resS m) v_1 /\ Out σ D w (rst (tb (F1 ||| F2)) (hg H)) (aft (tb (F1 ||| F2)) n st.n (hg st.H)) n st.n (tb W1) σ' w1 := ⟨v, σ1, rfl, r1, hOut⟩
        rcases hx with rfl | rfl
        ·exact ⟨hd1, v, r2, hR⟩
        ·exact ⟨hd1, v, r2, hR⟩
       split at h
       ·rename_i st F1 W1 hev; exact main .rt st F1 W1 (.inl rfl) hev h
       ·rename_i st F1 W1 hev; exact main .nm st F1 W1 (.inr rfl) hev h
       ·cases h
      ·cases h
     ·cases h
    ·cases h
   ·cases h
theorem closed {orc : Orc} {N k : Nat} (ho : OrcOK P orc) (hP : POk P) {f : FuncId} {c : Bool} (h : (match evF orc P N k f [] .lf 0 with | some (.v (.c (.bool b)), _) => b == c | _ => false) = true) (w : World) :
  Calls P f #[] w fun e w' => e = .returned (.bool c) /\ Tch No w w' := by
 split at h
 ·rename_i b r he
  obtain ⟨H', n', F, W⟩ := r
  have hb : b = c := by simpa using h
  subst hb
  obtain ⟨_, q⟩ := evF_ok ho hP k f [] .lf 0 _ _ _ _ _ he
  have hlf : ∀ i, hg (.lf : HT) i = none := fun i => by simp [hg, T.get]
  refine (q (fun _ => ⟨0, 0⟩) (fun _ => False) w [] trivial ⟨fun i o e => ?_, fun i j e => ?_⟩ (fun i _ => hlf i) (fun _ _ _ h => h)).mono ?_
  ·obtain ⟨_, e⟩ := rst_some.1 e; rw [hlf] at e; cases e
  ·obtain ⟨x, hx⟩ := Option.isSome_iff_exists.1 e
   obtain ⟨_, e⟩ := rst_some.1 hx; rw [hlf] at e; cases e
  ·rintro e w' ⟨v, σ', rfl, h1, h2⟩
   refine ⟨by rw [show v = .bool b from h1], h2.tch.mono (fun k _ ⟨i, _, g, _⟩ => ?_)⟩
   obtain ⟨x, hx⟩ := Option.isSome_iff_exists.1 g
   obtain ⟨_, e⟩ := rst_some.1 hx; rw [hlf] at e; cases e
 ·cases h
end
end Ev
namespace Ev
open Go Go.RowKit Go.Maps
theorem pmix : Tryz.prog.follows .mixedOrders = true := by kernel_rfl
theorem pname : named Tryz.prog = true := by kernel_rfl
theorem pregs : progOk Tryz.prog = true := by kernel_rfl
theorem pok : POk Tryz.prog := ⟨pmix, pname, pregs⟩
end Ev
namespace Ev
open Go Go.RowKit Go.Maps
structure InsK (P : Program) (f : FuncId) (el : TypeId) : Prop where
 shift : ∀ (n i c : Nat) (cs : List Value) (vb : Nat) (nb : Array Value) (w : World) (g : Nat) (cur : Array Value), i < n -> n + 1 <= c -> c <= maxLen -> n <= 10000000 -> w.heap[g]? = some (.cells cur el (0, 0)) -> cur.size = c * 2 -> cs.length = n * 2 -> (∀ t, t < n * 2 -> cur[t]? = cs[t]?) -> Ones cs ->
  w.heap[vb]? = some (.cells nb el (0, 0)) -> nb.size = 2 -> Ones nb.toList -> vb ≠ g ->
  Calls P f #[.slice (some ⟨g, 0, none⟩) n c, .int .i64 i, .slice (some ⟨vb, 0, none⟩) 1 1] w fun e w' => e = .returned (.slice (some ⟨g, 0, none⟩) (n + 1) c) /\ w' = (w.drew.setCells g ((i + 1) * 2) (cs.drop (i * 2))).setCells g (i * 2) nb.toList
 grow : ∀ (n i c : Nat) (cs : List Value) (vb : Nat) (nb : Array Value) (w : World) (g : Nat), i < n -> n <= c -> c < n + 1 -> n <= 10000000 -> cs.length = n * 2 -> (∀ t x, cs[t]? = some x -> w.cell? ⟨g, t, none⟩ = some x) -> Ones cs ->
  w.heap[vb]? = some (.cells nb el (0, 0)) -> nb.size = 2 -> Ones nb.toList ->
  Calls P f #[.slice (some ⟨g, 0, none⟩) n c, .int .i64 i, .slice (some ⟨vb, 0, none⟩) 1 1] w fun e w' => ∃ G cur', e = .returned (.slice (some ⟨w.heap.size, 0, none⟩) (n + 1) G) /\ w'.heap[w.heap.size]? = some (.cells cur' el (0, 0)) /\ cur'.size = G * 2 /\ n + 1 <= G /\ G <= maxLen /\
   (∀ t, t < (n + 1) * 2 -> cur'[t]? = (cs.take (i * 2) ++ nb.toList ++ cs.drop (i * 2))[t]?) /\ Tch No w w'
 body : ∃ fn, P.funcs[f]? = some fn /\ fn.body.isSome = true
def insOut (el : TypeId) (len k : Nat) (a b : AO) : Option AO := if k < len /\ len <= 1000000 /\ a.fz = false /\ a.ty = el /\ len * 2 <= a.cs.length /\ b.fz = false /\ b.ty = el /\ b.opn = false /\ b.cs.length = 2 then some ⟨el, (a.cs.take (len * 2)).take (k * 2) ++ b.cs ++ (a.cs.take (len * 2)).drop (k * 2), true, .ok⟩ else none
def insOrc (fid : FuncId) (el : TypeId) (orc : Orc) : Orc := fun f args H n => if f = fid then
  match args with
  | [.v (.c (.sl i 0 len (.op 2))), .v (.c (.int .i64 (.ofNat k))), .v (.c (.sl j 0 1 (.ex 1)))] => match hg H i, hg H j with
   | some a, some b => if i ≠ j /\ i < n then (match insOut el len k a b with
    | some o => (Ef.apT n H (.mv (one i ||| one j) i o)).map fun H' => (.v (.c (.sl n 0 (len + 1) (.op 2))), H', n + 1, one i ||| one j, one i)
    | none => none) else none
   | _, _ => none
  | _ => orc f args H n
 else orc f args H n
theorem insOrc_ok {P : Program} {fid : FuncId} {el : TypeId} {orc : Orc} (hi : InsK P fid el) (ho : OrcOK P orc) : OrcOK P (insOrc fid el orc) := by
 refine ⟨fun f args H n s H' n' F W h => ?_, fun f args H n r h => ?_⟩
 ·unfold insOrc at h
  split at h
  ·rename_i hf
   subst hf
   split at h
   ·rename_i i len k j
    split at h
    ·rename_i a b ha hb
     split at h
     ·rename_i hij
      split at h
      ·rename_i o hout
       rw [Option.map_eq_some_iff] at h
       obtain ⟨H1, h1, h2⟩ := h
       simp only [Prod.mk.injEq] at h2
       obtain ⟨rfl, rfl, rfl, rfl, rfl⟩ := h2
       rw [apT_ok h1]
       have hFi : tb (one i ||| one j) i = true := by rw [tb_or, tb_one]; rfl
       have hFj : tb (one i ||| one j) j = true := by rw [tb_or, tb_one, Bool.or_true]
       refine ⟨inv_ef (e := .mv (one i ||| one j) i o) (by simp [Ef.chk, ha, hFi, hij.2]), fun σ D w vals hargs hs hdom hD => ?_⟩
       unfold insOut at hout
       split at hout
       ·rename_i hc
        cases hout
        obtain ⟨hkl, hl1, hfa, hta, hla, hfb, htb, hob, hlb⟩ := hc
        match vals, hargs with
        | [v1, v2, v3], ⟨r1, r2, r3, _⟩ =>
         obtain ⟨hDi, c, e1, hlc, hcm, hct⟩ := r1
         rw [Nat.zero_add] at hct
         have e2 : v2 = .int .i64 (k : Int) := r2
         obtain ⟨hDj, e3⟩ := r3
         subst e1; subst e2; subst e3
         have hDn : ¬ D n := hD n (Nat.le_refl _) (Nat.lt_succ_self n)
         obtain ⟨_, hOa⟩ := obj_of hs hFi ha
         obtain ⟨_, hOb⟩ := obj_of hs hFj hb
         obtain ⟨ca, fa, a1, a0, a2, a3, a4, a5⟩ := hOa.ok hfa
         obtain ⟨cb, fb, b1, b0, b2, b3, b4, b5⟩ := hOb.ok hfb
         have := a0 hfa; subst this
         have := b0 hfb; subst this
         subst hta
         rw [htb] at b1
         have hA := (cells_of (i := i) a5 (by omega)).take (len * 2)
         have hB := cells_of (i := j) b5 (by omega)
         rw [List.take_take, Nat.min_eq_left hla] at hA
         have hcbs : cb.size = 2 := by rw [b2, <- b4 hob, hlb]
         have hBt : cb.toList.take b.cs.length = cb.toList := by rw [hlb]; apply List.take_of_length_le; simp [hcbs]
         rw [hBt] at hB
         have hne : (σ j).b ≠ (σ i).b := fun e => hij.1 (hs.inj i j (some_of (rst_some.2 ⟨hFi, ha⟩)) (some_of (rst_some.2 ⟨hFj, hb⟩)) e.symm)
         have hl : (ca.toList.take (len * 2)).length = len * 2 := by simp; omega
         have hcells : ∀ t, t < len * 2 -> ca[t]? = (ca.toList.take (len * 2))[t]? := fun t ht => by rw [List.getElem?_take, if_pos ht, Array.getElem?_toList]
         have hnew := ((hA.take (k * 2)).append hB).append (hA.drop (k * 2))
         have hnl : ((ca.toList.take (len * 2)).take (k * 2) ++ cb.toList ++ (ca.toList.take (len * 2)).drop (k * 2)).length = (len + 1) * 2 := by
          simp only [List.length_append, List.length_take, List.length_drop, hl, Array.length_toList, hcbs]; omega
         -- what is left to be shown, wherever the row lies
         have fin : ∀ (g c' : Nat) (cur' : Array Value) (w' : World), w'.heap[g]? = some (.cells cur' a.ty (0, 0)) -> cur'.size = c' * 2 -> len + 1 <= c' -> c' <= maxLen -> (∀ t, t < (len + 1) * 2 -> cur'[t]? = ((ca.toList.take (len * 2)).take (k * 2) ++ cb.toList ++ (ca.toList.take (len * 2)).drop (k * 2))[t]?) -> Tch (fun q => q = (σ i).b) w w' -> (w.heap.size <= g ∨ g = (σ i).b) ->
           ∃ v σ', Ending.returned (.slice (some ⟨g, 0, none⟩) (len + 1) c') = .returned v /\ RS σ' (more D n (n + 1)) (.v (.c (.sl n 0 (len + 1) (.op 2)))) v /\ Out σ D w (rst (tb (one i ||| one j)) (hg H)) (aft (tb (one i ||| one j)) n (n + 1) ((Ef.mv (one i ||| one j) i ⟨a.ty, (a.cs.take (len * 2)).take (k * 2) ++ b.cs ++ (a.cs.take (len * 2)).drop (k * 2), true, .ok⟩).ap n (hg H))) n (n + 1) (tb (one i)) σ' w' := by
          intro g c' cur' w' g1 g2 g3 g4 g5 g6 g7
          have hsm : ∀ q, D q -> at_ σ n ⟨g, cur'.size⟩ q = σ q := fun q hq => at_other (fun e => by subst e; exact hDn hq)
          refine ⟨_, at_ σ n ⟨g, cur'.size⟩, rfl, ⟨.inr ⟨Nat.le_refl _, Nat.lt_succ_self _⟩, c', by rw [at_same]; rfl, g3, g4, by rw [at_same, Nat.zero_add]; exact g2.symm⟩, ?_⟩
          have hO := out_mv (F := one i ||| one j) (i := i) (k := ⟨g, cur'.size⟩) (ob := ⟨a.ty, (a.cs.take (len * 2)).take (k * 2) ++ b.cs ++ (a.cs.take (len * 2)).drop (k * 2), true, .ok⟩) (w' := w') hs hDn hFi (by rw [ha]; rfl) g6 g7 ?_
          ·rw [Ef.W_eq] at hO; exact hO
          ·have hnew' := RL.ext (D' := more D n (n + 1)) hnew hsm (fun _ h => .inl h)
           have hll := hnew'.length
           refine ⟨cur', (0, 0), by rw [at_same]; exact g1, fun _ => rfl, by rw [at_same], ?_, (fun h => by cases h), fun q cc e => ?_⟩
           ·rw [at_same]; simp only; rw [<- hll, hnl, g2]; exact Nat.mul_le_mul_right _ g3
           ·obtain ⟨v, v1, v2⟩ := hnew'.get e
            have hlt := (List.getElem?_eq_some_iff.1 v1).1
            exact ⟨v, by rw [g5 q (by omega)]; exact v1, v2⟩
         by_cases hroom : len + 1 <= c
         ·refine (hi.shift len k c (ca.toList.take (len * 2)) (σ j).b cb w (σ i).b ca hkl hroom hcm (by omega) a1 (by omega) hl hcells hA.ones b1 hcbs hB.ones hne).mono ?_
          rintro e w' ⟨rfl, rfl⟩
          obtain ⟨c1, d1, d2, d3⟩ := blk_sets ((ca.toList.take (len * 2)).drop (k * 2)) ((k + 1) * 2) w.drew ca a1 (by rw [List.length_drop, hl]; omega)
          obtain ⟨c2, f1, f2, f3⟩ := blk_sets cb.toList (k * 2) _ c1 d1 (by rw [d2, Array.length_toList, hcbs]; omega)
          refine fin _ c c2 _ f1 (by omega) hroom hcm (fun t ht => ?_) ?_ (.inr rfl)
          ·rw [f3 t]
           by_cases q1 : t < k * 2
           ·rw [if_neg (by omega), d3 t, if_neg (by omega), hcells t (by omega), List.append_assoc, List.getElem?_append_left (by rw [List.length_take, hl]; omega)]
            conv => rhs; rw [List.getElem?_take, if_pos q1]
           ·by_cases q2 : t < (k + 1) * 2
            ·rw [if_pos ⟨by omega, by rw [Array.length_toList, hcbs]; omega⟩, List.getElem?_append_left (by rw [List.length_append, List.length_take, hl, Array.length_toList, hcbs]; omega), List.getElem?_append_right (by rw [List.length_take, hl]; omega), List.length_take, hl, Nat.min_eq_left (by omega)]
            ·rw [if_neg (by rw [Array.length_toList, hcbs]; omega), d3 t, if_pos ⟨by omega, by rw [List.length_drop, hl]; omega⟩, List.getElem?_append_right (by rw [List.length_append, List.length_take, hl, Array.length_toList, hcbs]; omega), List.length_append, List.length_take, hl, Array.length_toList, hcbs, Nat.min_eq_left (by omega)]
             congr 1; omega
          ·exact ((Tch.drew w).no.trans (Tch.setCells (F := fun q => q = (σ i).b) rfl _ _ _) (fun _ _ h => h)).trans (Tch.setCells (F := fun q => q = (σ i).b) rfl _ _ _) (fun _ _ h => h)
         ·refine (hi.grow len k c (ca.toList.take (len * 2)) (σ j).b cb w (σ i).b hkl hlc (by omega) (by omega) hl (fun t x e => ?_) hA.ones b1 hcbs hB.ones).mono ?_
          ·rw [List.getElem?_take] at e
           split at e
           ·rw [cell_of_row w _ t ca a.ty (0, 0) a1]; simpa using e
           ·cases e
          ·rintro e w' ⟨G, cur', rfl, d1, d2, d3, d4, d5, d6⟩
           exact fin _ G cur' w' d1 d2 d3 d4 d5 d6.no (.inl (Nat.le_refl _))
       ·cases hout
      ·cases h
     ·cases h
    ·cases h
   ·exact ho.1 _ _ _ _ _ _ _ _ _ h
  ·exact ho.1 _ _ _ _ _ _ _ _ _ h
 ·unfold insOrc at h
  split at h
  ·rename_i hf; subst hf; exact hi.body
  ·exact ho.2 _ _ _ _ _ h
theorem insEnd : InsK Tryz.prog 193 59 :=
 ⟨fun n i c cs vb nb w g cur => ins_end_shift n i c cs vb nb w g cur, fun n i c cs vb nb w g => ins_end_grow n i c cs vb nb w g, ⟨_, Tryz.func193, rfl⟩⟩
end Ev
section
open Go.RowKit Go.Maps
theorem begun10_any (w : World) : Calls Tryz.prog 16 #[] w fun e w' => e = .returned (.bool true) /\ Tch No w w' := Ev.closed (orc := Ev.insOrc 193 59 Ev.noOrc) (N := 100) (k := 60) (Ev.insOrc_ok Ev.insEnd Ev.noOrc_ok) Ev.pok (by kernel_rfl) w
end
end Go.Proofs.YtfedhcnmdmhppaaGreat
