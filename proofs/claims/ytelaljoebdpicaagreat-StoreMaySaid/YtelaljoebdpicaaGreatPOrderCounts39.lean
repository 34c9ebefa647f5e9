/- Part 39 of what the proof of OrderCounts rests on. No condition. -/
import Derived.StillTailTactics
import Derived.Test.YtelaljoebdpicaaGreatPOrderCounts25
import Derived.Test.YtelaljoebdpicaaGreatPOrderCounts26
import Derived.Test.YtelaljoebdpicaaGreatPOrderCounts38
namespace Go.Proofs.YtelaljoebdpicaaGreat
set_option maxRecDepth 100000
set_option maxHeartbeats 60000000
set_option linter.unusedVariables false
set_option linter.unusedSimpArgs false
set_option linter.unusedSectionVars false
namespace Ev
open Go Go.RowKit Go.Maps
theorem argT_ok : ∀ {i : Nat} {l : List S} {A A' : T S}, argT i l A = some A' -> ∀ t, A'.get t = if i <= t /\ t < i + l.length then l[t - i]? else A.get t
 | i, [], A, A', h, t => by
  simp only [argT, Option.some.injEq] at h; subst h
  rw [if_neg (fun ⟨_, h⟩ => by simp at h; omega)]
 | i, s :: l, A, A', h, t => by
  simp only [argT] at h
  split at h
  ·rename_i A1 h1
   rw [argT_ok h t, T.get_put h1]
   by_cases e : t = i
   ·subst e
    rw [if_neg (by omega), if_pos rfl, if_pos (by simp)]
    simp
   ·by_cases c : i + 1 <= t /\ t < i + 1 + l.length
    ·rw [if_pos c, if_pos (by simp; omega)]
     obtain ⟨j, hj⟩ : ∃ j, t - i = j + 1 := ⟨t - i - 1, by omega⟩
     rw [hj, List.getElem?_cons_succ]
     congr 1; omega
    ·rw [if_neg c, if_neg e, if_neg (by simp; omega)]
  ·cases h
theorem RSL.length {σ : Nat -> Blk} {D : Nat -> Prop} : ∀ {l : List S} {m : List Value}, RSL σ D l m -> m.length = l.length
 | [], [], _ => rfl
 | _ :: _, _ :: _, h => by rw [List.length_cons, List.length_cons, h.2.length]
theorem RSL.get {σ : Nat -> Blk} {D : Nat -> Prop} : ∀ {l : List S} {m : List Value} {j : Nat} {c : S}, RSL σ D l m -> l[j]? = some c -> ∃ v, m[j]? = some v /\ RS σ D c v
 | [], [], _, _, _, e => by cases e
 | a :: l, v :: m, 0, c, h, e => by
  rw [List.getElem?_cons_zero] at e
  cases e
  exact ⟨v, rfl, h.1⟩
 | a :: l, v :: m, j + 1, c, h, e => h.2.get (by simpa using e)
section
variable {P : Program}
def resRun (tmps : Array Value) : ResultVar -> Sem Value
 | .tmp t => pure (tmps.getD t undef)
 | .cell a t => do loadVar t (<- asAddr (tmps.getD a undef))
theorem results_eq (fn : Func) (tmps : Array Value) : results fn tmps = (do let vs <- fn.results.mapM (resRun tmps); pure (if h : vs.size = 1 then vs[0] else .tuple vs)) := by
 unfold results
 congr 1
theorem resL_ok {σ : Nat -> Blk} {D : Nat -> Prop} {nt F : Nat} {H : Heap} {A : T S} {a : Act} {w : World} (hA : RA σ D nt A a) (hs : Sat σ D (rst (tb F) H) w) : ∀ {l : List ResultVar} {m : List V} {F' : Nat}, resL P H A l = some (m, F') -> (∀ i, tb F' i = true -> tb F i = true) ->
  ∃ vs : List Value, RVL σ D m vs /\ (l.mapM (resRun a.tmps) : Sem (List Value)).run P w = .ok vs w
 | [], m, F', h, _ => by
  simp only [resL, Option.some.injEq, Prod.mk.injEq] at h
  obtain ⟨rfl, rfl⟩ := h
  exact ⟨[], trivial, rfl⟩
 | .tmp t :: l, m, F', h, hF => by
  simp only [resL] at h
  split at h
  ·rename_i v m' F1 h1 h2
   simp only [Option.some.injEq, Prod.mk.injEq] at h
   obtain ⟨rfl, rfl⟩ := h
   obtain ⟨vs, g1, g2⟩ := resL_ok hA hs h2 hF
   obtain ⟨k1, k2⟩ := hA.2 t _ (v?_some h1)
   refine ⟨a.tmps.getD t undef :: vs, ⟨k2, g1⟩, ?_⟩
   simp only [List.mapM_cons, resRun, Sem.run_bind, Sem.run_pure, Result.andThen_ok, g2]
  ·cases h
 | .cell p ty :: l, m, F', h, hF => by
  simp only [resL] at h
  split at h
  ·rename_i i off m' F1 h1 h2
   split at h
   ·rename_i v hv
    simp only [Option.some.injEq, Prod.mk.injEq] at h
    obtain ⟨rfl, rfl⟩ := h
    obtain ⟨vs, g1, g2⟩ := resL_ok hA hs h2 (fun i hi => hF i (by rw [tb_or, hi, Bool.or_true]))
    obtain ⟨k1, k2⟩ := hA.2 p _ (c?_some h1)
    have hp : a.tmps.getD p undef = .pointer (some (adr (σ i) off)) := k2.2
    obtain ⟨u, u1, u2⟩ := aLd_ok (P := P) hs (hF i (by rw [tb_or, tb_one]; rfl)) hv
    refine ⟨u :: vs, ⟨u1, g1⟩, ?_⟩
    simp only [List.mapM_cons, resRun, Sem.run_bind, Sem.run_pure, Result.andThen_ok, hp, asAddr, u2, g2]
   ·cases h
  ·cases h
theorem RVL.length {σ : Nat -> Blk} {D : Nat -> Prop} : ∀ {l : List V} {m : List Value}, RVL σ D l m -> m.length = l.length
 | [], [], _ => rfl
 | _ :: _, _ :: _, h => by rw [List.length_cons, List.length_cons, h.2.length]
theorem res_ok {σ : Nat -> Blk} {D : Nat -> Prop} {nt F : Nat} {H : Heap} {A : T S} {a : Act} {w : World} {fn : Func} {m : List V} {F' : Nat} (hA : RA σ D nt A a) (hs : Sat σ D (rst (tb F) H) w) (h : resL P H A fn.results.toList = some (m, F')) (hF : ∀ i, tb F' i = true -> tb F i = true) :
  ∃ v, RS σ D (resS m) v /\ (results fn a.tmps).run P w = .ok v w := by
 obtain ⟨vs, g1, g2⟩ := resL_ok hA hs h hF
 have hlen := g1.length
 have hrun : (fn.results.mapM (resRun a.tmps) : Sem (Array Value)).run P w = .ok vs.toArray w := by
  rw [Array.mapM_eq_mapM_toList]
  simp only [Sem.run_map]
  rw [g2]
  rfl
 refine ⟨if h : vs.toArray.size = 1 then vs.toArray[0] else .tuple vs.toArray, ?_, ?_⟩
 ·by_cases h1 : vs.length = 1
  ·obtain ⟨v, rfl⟩ := List.length_eq_one_iff.1 h1
   obtain ⟨x, rfl⟩ := List.length_eq_one_iff.1 (show m.length = 1 by simpa using hlen.symm)
   simpa [resS, RS] using g1.1
  ·rw [dif_neg (by simpa using h1)]
   have : resS m = .tup m := by
    unfold resS
    split
    ·rename_i v; simp at hlen; exact absurd hlen h1
    ·rfl
   rw [this]
   exact ⟨vs, g1, rfl⟩
 ·rw [results_eq, Sem.run_bind, hrun]
  rfl
def progOk (P : Program) : Bool := P.funcs.all fun fn => match fn.body with | some c => regsOk c | none => true
structure POk (P : Program) : Prop where
 mix : P.follows .mixedOrders = true
 name : named P = true
 regs : progOk P = true
def OrcOK (P : Program) (orc : Orc) : Prop := CallOK P orc /\ ∀ f args H n r, orc f args H n = some r -> ∃ fn, P.funcs[f]? = some fn /\ fn.body.isSome = true
theorem noOrc_ok : OrcOK P noOrc := ⟨fun f args H n s H' n' F W h => (by cases h), fun f args H n r h => (by cases h)⟩
theorem evF_body {orc : Orc} {N : Nat} (ho : OrcOK P orc) : ∀ {k : Nat} {f : FuncId} {args : List S} {H : HT} {n : Nat} {r}, evF orc P N k f args H n = some r -> ∃ fn, P.funcs[f]? = some fn /\ fn.body.isSome = true
 | 0, _, _, _, _, _, h => by simp [evF] at h
 | k + 1, f, args, H, n, r, h => by
  simp only [evF] at h
  split at h
  ·rename_i r' hr
   exact ho.2 _ _ _ _ _ hr
  ·split at h
   ·rename_i fn hfn
    split at h
    ·rename_i c hc
     exact ⟨fn, hfn, by rw [hc]; rfl⟩
    ·cases h
   ·cases h
theorem evF_ok {orc : Orc} {N : Nat} (ho : OrcOK P orc) (hP : POk P) : ∀ k, CallOK P (evF orc P N k)
 | 0 => fun f args H n s H' n' F W h => by simp [evF] at h
 | k + 1 => fun f args H n s H' n' F W h => by
  simp only [evF] at h
  split at h
  ·rename_i r hr
   simp only [Option.some.injEq] at h
   subst h
   exact ho.1 _ _ _ _ _ _ _ _ _ hr
  ·split at h
   ·rename_i fn hfn
    split at h
    ·rename_i c hc
     split at h
     ·rename_i hlen
      split at h
      ·rename_i A hAt
       have hreg : regsOk c = true := by
        have := hP.regs
        unfold progOk at this
        rw [Array.all_eq_true_iff_forall_mem] at this
        have h2 := this fn (Array.mem_of_getElem? hfn)
        rw [hc] at h2; exact h2
       have main : ∀ (x : X) (st : St) (F1 W1 : Nat), (x = .rt ∨ x = .nm) -> evC (evF orc P N k) P fn.ntmps N c ⟨A, H, n⟩ = some (x, st, F1, W1) -> (resL P (hg st.H) st.A fn.results.toList).map (fun r => (resS r.1, st.H, st.n, F1 ||| r.2, W1)) = some (s, H', n', F, W) ->
         Inv (hg H) (hg H') n n' F W /\ ∀ σ D w vals, RSL σ D args vals -> Sat σ D (rst (tb F) (hg H)) w -> (∀ i, n <= i -> hg H i = none) -> (∀ i, n <= i -> i < n' -> ¬ D i) ->
          Calls P f vals.toArray w fun e w' => ∃ v σ', e = .returned v /\ RS σ' (more D n n') s v /\ Out σ D w (rst (tb F) (hg H)) (aft (tb F) n n' (hg H')) n n' (tb W) σ' w' := by
        intro x st F1 W1 hx hev hres
        rw [Option.map_eq_some_iff] at hres
        obtain ⟨⟨m, F2⟩, hr, he⟩ := hres
        simp only [Prod.mk.injEq] at he
        obtain ⟨rfl, rfl, rfl, rfl, rfl⟩ := he
        obtain ⟨i1, q1⟩ := evC_ok (evF_ok ho hP k) hP.name (fun f args H n r h => evF_body ho h) hP.mix c hreg _ _ _ _ _ hev
        simp only at i1 q1
        have i2 : Inv (hg st.H) (hg st.H) st.n st.n F2 0 := ⟨Nat.le_refl _, fun _ _ _ => rfl, fun h => h, fun i _ h => by rw [tb_0] at h; cases h⟩
        have eW : tb (W1 ||| 0) = tb W1 := by funext i; rw [tb_or, tb_0, Bool.or_false]
        refine ⟨(i1.seq i2).congr rfl eW, fun σ D w vals hargs hs hdom hD => ?_⟩
        refine calls_of_wp hfn hc ?_
        have hvl := hargs.length
        have hA0 : RA σ D fn.ntmps A { tmps := vals.toArray ++ Array.replicate (fn.ntmps - vals.toArray.size) undef, defers := [] } := by
         refine ⟨by simp; omega, fun t s' e => ?_⟩
         rw [argT_ok hAt] at e
         split at e
         ·rename_i hc2
          obtain ⟨v, v1, v2⟩ := hargs.get e
          rw [Nat.sub_zero] at v1
          have hlt : t < vals.length := by omega
          refine ⟨by omega, ?_⟩
          have : (vals.toArray ++ Array.replicate (fn.ntmps - vals.toArray.size) undef).getD t undef = v := by
           rw [Array.getD_eq_getD_getElem?, Array.getElem?_append_left (by simpa using hlt)]
           simp [v1]
          show RS σ D s' ((vals.toArray ++ Array.replicate (fn.ntmps - vals.toArray.size) undef).getD t undef)
          rw [this]; exact v2
         ·unfold T.get at e; cases e
        have hF1 : ∀ i, tb F1 i = true -> tb (F1 ||| F2) i = true := fun i h => by rw [tb_or, h]; rfl
        have hF2 : ∀ i, tb F2 i = true -> tb (F1 ||| F2) i = true := fun i h => by rw [tb_or, h, Bool.or_true]
        refine q1 σ D w _ _ hA0 (sat_left hs) hdom hD (fun σ1 a1 w1 hA1 hd1 hO => ?_)
        obtain ⟨s1, _, hfin⟩ := out_seq (σ2 := σ1) (w2 := w1) hF1 hF2 hdom i1 i2 hs hD hO
        obtain ⟨v, r1, r2⟩ := res_ok (P := P) hA1 s1 hr (fun i h => h)
        have hOut := hfin (out_refl s1)
        have eW2 : (fun i => tb W1 i || tb 0 i) = tb W1 := by funext i; rw [tb_0, Bool.or_false]
        rw [eW2] at hOut
        have hR : ∃ v_1 σ', Ending.returned v = .returned v_1 /\ RS σ' (more D n st.n) (resS m) v_1 /\ Out σ D w (rst (tb (F1 ||| F2)) (hg H)) (aft (tb (F1 ||| F2)) n st.n (hg st.H)) n st.n (tb W1) σ' w1 := ⟨v, σ1, rfl, r1, hOut⟩
        rcases hx with rfl | rfl
        ·exact ⟨hd1, v, r2, hR⟩
        ·exact ⟨hd1, v, r2, hR⟩
       split at h
       ·rename_i st F1 W1 hev; exact main .rt st F1 W1 (.inl rfl) hev h
       ·rename_i st F1 W1 hev; exact main .nm st F1 W1 (.inr rfl) hev h
       ·cases h
      ·cases h
     ·cases h
    ·cases h
   ·cases h
theorem closed {orc : Orc} {N k : Nat} (ho : OrcOK P orc) (hP : POk P) {f : FuncId} {c : Bool} (h : (match evF orc P N k f [] .lf 0 with | some (.v (.c (.bool b)), _) => b == c | _ => false) = true) (w : World) :
  Calls P f #[] w fun e w' => e = .returned (.bool c) /\ Tch No w w' := by
 split at h
 ·rename_i b r he
  obtain ⟨H', n', F, W⟩ := r
  have hb : b = c := by simpa using h
  subst hb
  obtain ⟨_, q⟩ := evF_ok ho hP k f [] .lf 0 _ _ _ _ _ he
  have hlf : ∀ i, hg (.lf : HT) i = none := fun i => by simp [hg, T.get]
  refine (q (fun _ => ⟨0, 0⟩) (fun _ => False) w [] trivial ⟨fun i o e => ?_, fun i j e => ?_⟩ (fun i _ => hlf i) (fun _ _ _ h => h)).mono ?_
  ·obtain ⟨_, e⟩ := rst_some.1 e; rw [hlf] at e; cases e
  ·obtain ⟨x, hx⟩ := Option.isSome_iff_exists.1 e
   obtain ⟨_, e⟩ := rst_some.1 hx; rw [hlf] at e; cases e
  ·rintro e w' ⟨v, σ', rfl, h1, h2⟩
   refine ⟨by rw [show v = .bool b from h1], h2.tch.mono (fun k _ ⟨i, _, g, _⟩ => ?_)⟩
   obtain ⟨x, hx⟩ := Option.isSome_iff_exists.1 g
   obtain ⟨_, e⟩ := rst_some.1 hx; rw [hlf] at e; cases e
 ·cases h
end
end Ev
section
open Go.RowKit Go.Maps
theorem stw_fwd {G : Nat -> Prop} {v : Value} {s : StM} {w WE : World} (h : StW (Tch G w) v s) (t : Tch No w WE) : StW (Tch G WE) v s := h.mono (fun X tx => t.no.trans tx (fun _ _ e => e))
theorem stw_vals {Al : World -> Prop} {v : Value} {s : StM} {W : World} (h : StW Al v s) (hW : Al W) : ∃ am cm aw cw ae ce ao co an cn, v = .agg #[.int .i64 s.broker, .int .i64 s.nid, .int .i64 s.nseq, .int .i64 s.tx, .slice am s.ms.length cm, .slice aw s.waits.length cw, .slice ae s.ends.length ce, .slice ao s.opens.length co, .slice an s.noes.length cn] := (h.is hW).vals
instance (x : Int) : Decidable (I64 x) := by unfold I64; infer_instance
instance (s : Txt) : Decidable (OkT s) := by unfold OkT; infer_instance
instance (p : PutM) : Decidable (OkPut p) := by unfold OkPut; infer_instance
instance (m : MsgM) : Decidable (OkMsg m) := by unfold OkMsg; infer_instance
structure SB (G : Nat -> Prop) (w0 : World) (b : Nat) (s : StM) (w : World) : Prop where
 mem : G b
 own : ∀ k, G k -> w0.heap.size <= k
 lt : ∀ k, G k -> k < w.heap.size
 t : Tch No w0 w
 ex : ∃ A : Array Value, A.size = 9 /\ w.heap[b]? = some (.cells A 27 (0, 0)) /\ StW (Tch G w) (.agg A) s
theorem SB.keep {G : Nat -> Prop} {w0 w w' : World} {b : Nat} {s : StM} (h : SB G w0 b s w) (t : Tch No w w') : SB G w0 b s w' := by
 obtain ⟨A, h1, h2, h3⟩ := h.ex
 exact ⟨h.mem, h.own, fun k hk => Nat.lt_of_lt_of_le (h.lt k hk) t.size, h.t.trans0 t, A, h1, blk_tch t h2 (fun h => h), stw_fwd h3 t⟩
theorem SB.is {G : Nat -> Prop} {w0 w : World} {b : Nat} {s : StM} (h : SB G w0 b s w) : ∃ A : Array Value, w.heap[b]? = some (.cells A 27 (0, 0)) /\ IsSt w (.agg A) s := by
 obtain ⟨A, h1, h2, h3⟩ := h.ex
 exact ⟨A, h2, h3.is (Tch.refl _ _)⟩
theorem szSt : Ev.szOf Tryz.prog 27 = some 9 := by kernel_rfl
theorem agSt : Ev.isAg Tryz.prog 27 = some true := by kernel_rfl
theorem run_ldst {ρ : Operand -> Value} {o : Oper} {x : Operand} {b : Nat} {A : Array Value} {fr : Nat × Nat} {w : World} (ho : o.op = .load 27 x) (hp : ρ x = .pointer (some ⟨b, 0, none⟩)) (h1 : A.size = 9) (h2 : w.heap[b]? = some (.cells A 27 fr)) :
  (execOp ρ o).run Tryz.prog w = .ok (.value (.agg A)) w := by
 have hl := run_loadCells_list (P := Tryz.prog) w ⟨b, 0, none⟩ A.toList (fun j x hx => by have h3 := blk_cell h2 j; have e : (⟨b, 0, none⟩ : Addr).add j = ⟨b, j, none⟩ := (by unfold Addr.add; split <;> simp_all); rw [e, h3]; simpa using hx)
 have hlen : A.toList.length = 9 := by simp [h1]
 rw [hlen] at hl
 unfold execOp
 rw [ho]
 simp [hp, Instr.loadAt, Instr.sureAddr, loadVar, Sem.run_bind, Ev.run_isAg agSt, Ev.run_sz szSt, hl]
theorem run_stst {ρ : Operand -> Value} {o : Oper} {x y : Operand} {b : Nat} {l : List Value} {w w' : World} (ho : o.op = .store 27 x y) (hp : ρ x = .pointer (some ⟨b, 0, none⟩)) (hv : ρ y = .agg l.toArray) (h1 : l.length = 9) (hst : (storeCells ⟨b, 0, none⟩ l).run Tryz.prog w = .ok () w') :
  (execOp ρ o).run Tryz.prog w = .ok .skip w' := by
 unfold execOp
 rw [ho]
 simp [hp, hv, Value.cells, Instr.storeAt, Instr.sureAddr, storeVar, Sem.run_bind, Ev.run_sz szSt, h1, hst]
theorem SB.load {G : Nat -> Prop} {w0 w : World} {b : Nat} {s : StM} (h : SB G w0 b s w) {ops : Array Oper} {Q : Exit -> Act -> World -> Prop} {rest : List Oper} {a : Act} {d k : Nat} {ty : TypeId} {pos : String} {af : Array Edge}
  (ha : a.eval (.tmp k) = .pointer (some ⟨b, 0, none⟩)) (hK : ∀ A : Array Value, Hid (StW (Tch G w) (.agg A) s) -> wpList Tryz.prog ops Q rest (a.put (some d) (.agg A)) w) :
  wpList Tryz.prog ops Q (⟨some d, .load 27 (.tmp k), ty, pos, af, none⟩ :: rest) a w := by
 obtain ⟨A, h1, h2, h3⟩ := h.ex
 refine wpList_plain rfl fun K hK2 => ?_
 unfold Oper.wp
 rw [run_ldst rfl ha h1 h2]
 exact hK2 _ _ (hK A h3)
structure SB0 (G : Nat -> Prop) (w0 : World) (b : Nat) (w : World) : Prop where
 mem : G b
 own : ∀ k, G k -> w0.heap.size <= k
 lt : ∀ k, G k -> k < w.heap.size
 t : Tch No w0 w
 ex : ∃ A : Array Value, A.size = 9 /\ w.heap[b]? = some (.cells A 27 (0, 0))
theorem SB0.store {G : Nat -> Prop} {w0 w w7 : World} {b : Nat} {s' : StM} {v7 : Value} (h : SB0 G w0 b w) (t : Tch No w w7) (s7 : StW (Tch (fun k => G k /\ k < w.heap.size) w7) v7 s') {ops : Array Oper} {Q : Exit -> Act -> World -> Prop} {rest : List Oper} {a : Act} {k j : Nat} {ty : TypeId} {pos : String} {af : Array Edge}
  (ha : a.eval (.tmp k) = .pointer (some ⟨b, 0, none⟩)) (hv : a.eval (.tmp j) = v7) (hK : ∀ wz, Hid (SB G w0 b s' wz) -> Hid (Tch (fun k => k = b) w7 wz) -> wpList Tryz.prog ops Q rest a wz) :
  wpList Tryz.prog ops Q (⟨none, .store 27 (.tmp k) (.tmp j), ty, pos, af, none⟩ :: rest) a w7 := by
 obtain ⟨A, h1, h2⟩ := h.ex
 have h2' := blk_tch t h2 (fun h => h)
 obtain ⟨am, cm, aw, cw, ae, ce, ao, co, an, cn, rfl⟩ := stw_vals s7 (Tch.refl _ _)
 refine wpList_plain rfl fun K hK2 => ?_
 obtain ⟨l, hl⟩ : ∃ l : List Value, [.int .i64 s'.broker, .int .i64 s'.nid, .int .i64 s'.nseq, .int .i64 s'.tx, .slice am s'.ms.length cm, .slice aw s'.waits.length cw, .slice ae s'.ends.length ce, .slice ao s'.opens.length co, .slice an s'.noes.length cn] = l := ⟨_, rfl⟩
 have hl9 : l.length = 9 := by rw [<- hl]; rfl
 have hone : ∀ u ∈ l, u.oneCell' = true := by
  rw [<- hl]
  intro u hu
  simp only [List.mem_cons, List.not_mem_nil, or_false] at hu
  rcases hu with rfl | rfl | rfl | rfl | rfl | rfl | rfl | rfl | rfl <;> rfl
 have hst := run_storeCells_cells (P := Tryz.prog) b 0 l 0 w7 (by intro j hj; rw [Nat.zero_add, blk_cell h2' j]; simp; omega) (by intro j hj; exact blk_free h2' _) hone
 obtain ⟨cur, g1, g2, g3⟩ := blk_sets l 0 w7 A h2' (by omega)
 have hcur : cur = l.toArray := by
  apply Array.ext_getElem?
  intro i
  rw [g3 i]
  simp only [Nat.zero_le, Nat.zero_add, Nat.sub_zero, true_and, List.getElem?_toArray]
  split
  ·rfl
  ·rw [List.getElem?_eq_none (by omega), Array.getElem?_eq_none (by omega)]
 have hsb : SB G w0 b s' (w7.setCells b 0 l) := by
  have tz : Tch (fun k => k = b) w7 (w7.setCells b 0 l) := Tch.setCells (F := fun k => k = b) rfl l 0 w7
  refine ⟨h.mem, h.own, fun k hk => Nat.lt_of_lt_of_le (Nat.lt_of_lt_of_le (h.lt k hk) t.size) tz.size, (h.t.trans0 t).fresh tz (fun q e => by rw [e]; exact h.own _ h.mem), l.toArray, by simpa using hl9, by rw [<- hcur]; exact g1, ?_⟩
  rw [<- hl] at tz ⊢
  exact s7.mono (fun X tx => (tz.mono (fun k _ e => by rw [e]; exact ⟨h.mem, h.lt _ h.mem⟩)).trans (tx.mono (fun k hk e => ⟨e, h.lt k e⟩)) (fun _ _ e => e))
 rw [hl] at hv
 unfold Oper.wp
 rw [run_stst rfl ha hv hl9 (by simpa using hst)]
 exact hK2 _ _ (hK _ hsb (Tch.setCells (F := fun k => k = b) rfl l 0 w7))
theorem SB.store {G : Nat -> Prop} {w0 w w7 : World} {b : Nat} {s s' : StM} {v7 : Value} (h : SB G w0 b s w) (t : Tch No w w7) (s7 : StW (Tch (fun k => G k /\ k < w.heap.size) w7) v7 s') {ops : Array Oper} {Q : Exit -> Act -> World -> Prop} {rest : List Oper} {a : Act} {k j : Nat} {ty : TypeId} {pos : String} {af : Array Edge}
  (ha : a.eval (.tmp k) = .pointer (some ⟨b, 0, none⟩)) (hv : a.eval (.tmp j) = v7) (hK : ∀ wz, Hid (SB G w0 b s' wz) -> Hid (Tch (fun k => k = b) w7 wz) -> wpList Tryz.prog ops Q rest a wz) :
  wpList Tryz.prog ops Q (⟨none, .store 27 (.tmp k) (.tmp j), ty, pos, af, none⟩ :: rest) a w7 :=
 SB0.store (by obtain ⟨A, h1, h2, h3⟩ := h.ex; exact ⟨h.mem, h.own, h.lt, h.t, A, h1, h2⟩) t s7 ha hv hK
theorem SB.new {w0 w2 : World} {b : Nat} {s : StM} {v : Value} {Z : Array Value} (t : Tch No w0 w2) (h : StW (Tch No w2) v s) (hb : w2.heap.size = b) (hZ : Z.size = 9) {ops : Array Oper} {Q : Exit -> Act -> World -> Prop} {rest : List Oper} {a : Act} {k j : Nat} {ty : TypeId} {pos : String} {af : Array Edge}
  (ha : a.eval (.tmp k) = .pointer (some ⟨b, 0, none⟩)) (hv : a.eval (.tmp j) = v) (hK : ∀ wz, Hid (SB (fun q => q = b) w0 b s wz) -> wpList Tryz.prog ops Q rest a wz) :
  wpList Tryz.prog ops Q (⟨none, .store 27 (.tmp k) (.tmp j), ty, pos, af, none⟩ :: rest) a (w2.alloc (.cells Z 27 (0, 0))) := by
 subst hb
 refine SB0.store (G := fun q => q = w2.heap.size) (w0 := w0) (w := w2.alloc (.cells Z 27 (0, 0))) ⟨rfl, fun k e => ?_, fun k e => ?_, t.trans0 (Tch.alloc _ _), Z, hZ, blk_new _ _⟩ (Tch.refl _ _) ?_ ha hv (fun wz h1 _ => hK wz h1)
 ·subst e; exact t.size
 ·subst e; exact blk_lt (blk_new _ _)
 ·exact h.mono (fun X tx => (Tch.alloc w2 _).trans tx (fun i hi e => absurd e.1 (Nat.ne_of_lt hi)))
theorem SB.cell {G : Nat -> Prop} {w0 w : World} {b : Nat} {s : StM} (h : SB G w0 b s w) : ∃ am cm aw cw ae ce ao co an cn, w.heap[b]? = some (.cells #[.int .i64 s.broker, .int .i64 s.nid, .int .i64 s.nseq, .int .i64 s.tx, .slice am s.ms.length cm, .slice aw s.waits.length cw, .slice ae s.ends.length ce, .slice ao s.opens.length co, .slice an s.noes.length cn] 27 (0, 0)) /\ IsSt w (.agg #[.int .i64 s.broker, .int .i64 s.nid, .int .i64 s.nseq, .int .i64 s.tx, .slice am s.ms.length cm, .slice aw s.waits.length cw, .slice ae s.ends.length ce, .slice ao s.opens.length co, .slice an s.noes.length cn]) s := by
 obtain ⟨A, h1, h2⟩ := h.is
 obtain ⟨am, cm, aw, cw, ae, ce, ao, co, an, cn, e⟩ := h2.vals
 injection e with e
 subst e
 exact ⟨am, cm, aw, cw, ae, ce, ao, co, an, cn, h1, h2⟩
theorem IsSt.ms {W : World} {a b c d vm vw ve vo vn : Value} {s : StM} (h : IsSt W (.agg #[a, b, c, d, vm, vw, ve, vo, vn]) s) : IsMsgs W vm s.ms := by
 obtain ⟨vm', vw', ve', vo', vn', e, h1, _⟩ := h
 injection e with e
 injection e with e
 simp only [List.cons.injEq] at e
 obtain ⟨_, _, _, _, rfl, _⟩ := e
 exact h1
theorem SB.ms0 {G : Nat -> Prop} {w0 w : World} {b : Nat} {s : StM} (h : SB G w0 b s w) {n : Nat} (hm : s.ms.length = n) : ∃ am cm, w.cell? ⟨b, 4, none⟩ = some (.slice am n cm) := by
 obtain ⟨am, cm, aw, cw, ae, ce, ao, co, an, cn, h1, h2⟩ := h.cell
 exact ⟨am, cm, by rw [<- hm]; exact (blk_cell h1 4).trans rfl⟩
theorem IsSt.rest {W : World} {a b c d vm vw ve vo vn : Value} {s : StM} (h : IsSt W (.agg #[a, b, c, d, vm, vw, ve, vo, vn]) s) : IsBrs W vw s.waits /\ IsEnds W ve s.ends /\ IsPends W vo s.opens /\ IsPends W vn s.noes := by
 obtain ⟨vm', vw', ve', vo', vn', e, h1, h2, h3, h4, h5⟩ := h
 injection e with e
 injection e with e
 simp only [List.cons.injEq] at e
 obtain ⟨_, _, _, _, _, rfl, rfl, rfl, rfl, _⟩ := e
 exact ⟨h2, h3, h4, h5⟩
end
section
open Go.RowKit Go.Maps
theorem argst_vals {w : World} {v : Value} {s : StM} (h : ArgSt w v s) : ∃ br ni ns tx am nm cm aw nw cw ae ne ce ao no co an nn cn, v = .agg #[.int .i64 br, .int .i64 ni, .int .i64 ns, .int .i64 tx, .slice am nm cm, .slice aw nw cw, .slice ae ne ce, .slice ao no co, .slice an nn cn] := by
 obtain ⟨vm, vw, ve, vo, vn, prb, pro, prn, rfl, hA⟩ := h
 obtain ⟨am, cm, rfl, _, _⟩ := hA.ms.shape
 obtain ⟨aw, cw, rfl, _, _⟩ := hA.cb.shape
 obtain ⟨ae, ce, rfl, _, _⟩ := hA.en.shape
 obtain ⟨ao, co, rfl, _, _⟩ := hA.co.shape
 obtain ⟨an, cn, rfl, _, _⟩ := hA.cn.shape
 exact ⟨_, _, _, _, _, _, _, _, _, _, _, _, _, _, _, _, _, _, _, rfl⟩
theorem SB0.made {w W : World} {b : Nat} {A : Array Value} (t : Tch No w W) (hA : A.size = 9) (hb : W.heap[b]? = some (.cells A 27 (0, 0))) (hw : w.heap.size <= b) : SB0 (fun q => q = b) w b W :=
 ⟨rfl, fun k e => by subst e; exact hw, fun k e => by subst e; exact blk_lt hb, t, A, hA, hb⟩
theorem stw_one {b : Nat} {v : Value} {s : StM} {w1 w2 : World} (h : StW (Tch (fun k => k < w1.heap.size) w2) v s) : StW (Tch (fun k => k = b /\ k < w1.heap.size) w2) v s :=
 h.mono (fun X t => t.mono (fun k _ e => e.2))
theorem SB.msAt {G : Nat -> Prop} {w0 w : World} {b : Nat} {s : StM} (h : SB G w0 b s w) {k : Nat} (hk : k < s.ms.length) : ∃ mb mo cm, w.cell? ⟨b, 4, none⟩ = some (.slice (some ⟨mb, mo, none⟩) s.ms.length cm) /\ w.cell? ⟨mb, mo + k * 6, none⟩ = some (.int .i64 s.ms[k].id) /\ w.cell? ⟨mb, mo + k * 6 + 1, none⟩ = some (strV s.ms[k].q) /\ w.cell? ⟨mb, mo + k * 6 + 2, none⟩ = some (strV s.ms[k].b) /\ w.cell? ⟨mb, mo + k * 6 + 3, none⟩ = some (.int .i64 s.ms[k].seq) /\ w.cell? ⟨mb, mo + k * 6 + 4, none⟩ = some (.int .i64 s.ms[k].cnt) /\ w.cell? ⟨mb, mo + k * 6 + 5, none⟩ = some (.int .i64 s.ms[k].who) := by
 obtain ⟨am, cm, aw, cw, ae, ce, ao, co, an, cn, h1, h2⟩ := h.cell
 obtain ⟨mb, mo, cm2, e, g⟩ := CellsAt.elem (enc := encMsg) (m := 6) (fun _ => rfl) h2.ms hk
 injection e with e1 _ _
 subst e1
 have g2 : ∀ j x, j < 6 -> (encMsg s.ms[k])[j]? = some x -> w.cell? ⟨mb, mo + k * 6 + j, none⟩ = some x := fun j x hj hx => by rw [Nat.add_assoc]; exact g j x hj hx
 exact ⟨mb, mo, cm, (blk_cell h1 4).trans rfl, g2 0 _ (by decide) rfl, g2 1 _ (by decide) rfl, g2 2 _ (by decide) rfl, g2 3 _ (by decide) rfl, g2 4 _ (by decide) rfl, g2 5 _ (by decide) rfl⟩
end
end Go.Proofs.YtelaljoebdpicaaGreat
