/- Part 11 of what the proof of StoreTold rests on. No condition. -/
import Derived.Test.YtfedhcnmdmhppaaGreatPStoreTold09
import Derived.Test.YtfedhcnmdmhppaaGreatPStoreTold10
namespace Go.Proofs.YtfedhcnmdmhppaaGreat
set_option maxRecDepth 100000
set_option maxHeartbeats 60000000
set_option linter.unusedVariables false
set_option linter.unusedSimpArgs false
section
open Go.RowKit Go.Maps
structure Runs (P : Program) (ρ : Operand -> Value) (o : Oper) (W : World) (v : Value) (W' : World) : Prop where
 out : (execOp ρ o).run P W = .ok (.value v) W'
section
variable {P : Program} {ops : Array Oper} {Q : Exit -> Act -> World -> Prop} {a0 : Act} {ds : List Nat} {C : World -> Prop} {R : Nat -> Value -> World -> Prop} {wd : List Nat} {need kill later : Nat -> List Nat}
theorem iwanted_no {o : Oper} {a : Act} (hg : o.guard = none) : Region.wanted o (yielded ops a.tmps) = true := by simp [Region.wanted, hg]
theorem istep_of {i : Nat} (o : Oper) (ho : ops[i]? = some o)
  (h : ∀ a w, Fr a0 ds a -> C w -> (∀ k ∈ need i, R k (slotV ops a k) w) -> ∀ K : Act -> World -> Prop, (∀ v w', C w' -> R i (match o.dst with | some _ => v | none => undef) w' -> (∀ j ∈ wd, j ≠ i -> j ∉ kill i -> j ∉ later i -> ∀ x, R j x w -> R j x w') -> K (a.put o.dst v) w') ->
   if Region.wanted o (yielded ops a.tmps) = true then Oper.wp P o a w K Q else K (a.put o.dst undef) w) : IStep P ops Q a0 ds C R wd need kill later i := by
 intro o' a w ho' hf hC hn K hK
 rw [ho] at ho'
 injection ho' with ho'
 subst ho'
 exact h a w hf hC hn K hK
theorem istep_q {i d : Nat} (v : Value) (o : Oper) (ho : ops[i]? = some o) (hd : o.dst = some d) (hw : ∀ a w, Fr a0 ds a -> C w -> (∀ k ∈ need i, R k (slotV ops a k) w) -> Region.wanted o (yielded ops a.tmps) = true) (hR : ∀ w, C w -> R i v w)
  (h : ∀ a w, Fr a0 ds a -> C w -> (∀ k ∈ need i, R k (slotV ops a k) w) -> Runs P a.eval o w v w) : IStep P ops Q a0 ds C R wd need kill later i := by
 refine istep_of o ho (fun a w hf hC hn K hK => ?_)
 rw [if_pos (hw a w hf hC hn)]
 unfold Oper.wp
 rw [(h a w hf hC hn).out]
 exact hK v w hC (by rw [hd]; exact hR w hC) (fun j _ _ _ _ x h => h)
theorem iq {i d : Nat} (v : Value) {b : Op} {c : TypeId} {e : String} {f : Array Edge} (ho : ops[i]? = some ⟨some d, b, c, e, f, none⟩) (hR : ∀ w, C w -> R i v w) (h : ∀ a w, Fr a0 ds a -> C w -> (∀ k ∈ need i, R k (slotV ops a k) w) -> Runs P a.eval ⟨some d, b, c, e, f, none⟩ w v w) : IStep P ops Q a0 ds C R wd need kill later i :=
  istep_q v _ ho rfl (fun _ _ _ _ _ => iwanted_no rfl) hR h
theorem istep_w {i : Nat} (o : Oper) (ho : ops[i]? = some o) (hw : ∀ a w, Fr a0 ds a -> C w -> (∀ k ∈ need i, R k (slotV ops a k) w) -> Region.wanted o (yielded ops a.tmps) = true)
  (h : ∀ a w, Fr a0 ds a -> C w -> (∀ k ∈ need i, R k (slotV ops a k) w) -> ∀ K : Act -> World -> Prop, (∀ v w', C w' -> R i (match o.dst with | some _ => v | none => undef) w' -> (∀ j ∈ wd, j ≠ i -> j ∉ kill i -> j ∉ later i -> ∀ x, R j x w -> R j x w') -> K (a.put o.dst v) w') -> Oper.wp P o a w K Q) : IStep P ops Q a0 ds C R wd need kill later i := by
 refine istep_of o ho (fun a w hf hC hn K hK => ?_)
 rw [if_pos (hw a w hf hC hn)]
 exact h a w hf hC hn K hK
theorem wp_runs {o : Oper} {a : Act} {w : World} {K : Act -> World -> Prop} {v : Value} {w' : World} (hr : Runs P a.eval o w v w') (h : K (a.put o.dst v) w') : Oper.wp P o a w K Q := by
 unfold Oper.wp
 rw [hr.out]
 exact h
end
variable {ρ : Operand -> Value} {o : Oper}
theorem y_move {P : Program} (x : Operand) {v : Value} (ho : o.op = .move x) (hx : ρ x = v) (W : World) : Runs P ρ o W v W := by
 constructor
 unfold execOp; rw [ho]; subst hx; rfl
theorem y_assign {P : Program} (x : Operand) {v : Value} (ho : o.op = .assign x) (hx : ρ x = v) (W : World) : Runs P ρ o W v W := by
 constructor
 unfold execOp; rw [ho]; subst hx; rfl
theorem y_faState0 (x : Operand) {b off : Nat} (ho : o.op = .fieldAddr 27 x 0) (hx : ρ x = .pointer (some ⟨b, off, none⟩)) (W : World) : Runs Tryz.prog ρ o W (.pointer (some ⟨b, off, none⟩)) W := by
 constructor
 unfold execOp
 simp only [ho, hx]
 go_simp
theorem y_faState1 (x : Operand) {b off : Nat} (ho : o.op = .fieldAddr 27 x 1) (hx : ρ x = .pointer (some ⟨b, off, none⟩)) (W : World) : Runs Tryz.prog ρ o W (.pointer (some ⟨b, off + 1, none⟩)) W := by
 constructor
 unfold execOp
 simp only [ho, hx]
 go_simp
theorem y_faState2 (x : Operand) {b off : Nat} (ho : o.op = .fieldAddr 27 x 2) (hx : ρ x = .pointer (some ⟨b, off, none⟩)) (W : World) : Runs Tryz.prog ρ o W (.pointer (some ⟨b, off + 2, none⟩)) W := by
 constructor
 unfold execOp
 simp only [ho, hx]
 go_simp
theorem y_faState4 (x : Operand) {b off : Nat} (ho : o.op = .fieldAddr 27 x 4) (hx : ρ x = .pointer (some ⟨b, off, none⟩)) (W : World) : Runs Tryz.prog ρ o W (.pointer (some ⟨b, off + 4, none⟩)) W := by
 constructor
 unfold execOp
 simp only [ho, hx]
 go_simp
theorem y_faState5 (x : Operand) {b off : Nat} (ho : o.op = .fieldAddr 27 x 5) (hx : ρ x = .pointer (some ⟨b, off, none⟩)) (W : World) : Runs Tryz.prog ρ o W (.pointer (some ⟨b, off + 5, none⟩)) W := by
 constructor
 unfold execOp
 simp only [ho, hx]
 go_simp
theorem y_faState6 (x : Operand) {b off : Nat} (ho : o.op = .fieldAddr 27 x 6) (hx : ρ x = .pointer (some ⟨b, off, none⟩)) (W : World) : Runs Tryz.prog ρ o W (.pointer (some ⟨b, off + 6, none⟩)) W := by
 constructor
 unfold execOp
 simp only [ho, hx]
 go_simp
theorem y_ldState (x : Operand) {b off : Nat} {v0 v1 v2 v3 v4 v5 v6 v7 v8 : Value} (ho : o.op = .load 27 x) (hx : ρ x = .pointer (some ⟨b, off, none⟩)) (W : World) (h0 : W.cell? ⟨b, off, none⟩ = some v0) (h1 : W.cell? ⟨b, off + 1, none⟩ = some v1) (h2 : W.cell? ⟨b, off + 2, none⟩ = some v2) (h3 : W.cell? ⟨b, off + 3, none⟩ = some v3) (h4 : W.cell? ⟨b, off + 4, none⟩ = some v4) (h5 : W.cell? ⟨b, off + 5, none⟩ = some v5) (h6 : W.cell? ⟨b, off + 6, none⟩ = some v6) (h7 : W.cell? ⟨b, off + 7, none⟩ = some v7) (h8 : W.cell? ⟨b, off + 8, none⟩ = some v8) : Runs Tryz.prog ρ o W (.agg #[v0, v1, v2, v3, v4, v5, v6, v7, v8]) W := by
 constructor
 unfold execOp
 simp only [ho, hx]
 go_simp
theorem y_faMessage5 (x : Operand) {b off : Nat} (ho : o.op = .fieldAddr 50 x 5) (hx : ρ x = .pointer (some ⟨b, off, none⟩)) (W : World) : Runs Tryz.prog ρ o W (.pointer (some ⟨b, off + 5, none⟩)) W := by
 constructor
 unfold execOp
 simp only [ho, hx]
 go_simp
theorem y_faPut0 (x : Operand) {b off : Nat} (ho : o.op = .fieldAddr 45 x 0) (hx : ρ x = .pointer (some ⟨b, off, none⟩)) (W : World) : Runs Tryz.prog ρ o W (.pointer (some ⟨b, off, none⟩)) W := by
 constructor
 unfold execOp
 simp only [ho, hx]
 go_simp
theorem y_faPut1 (x : Operand) {b off : Nat} (ho : o.op = .fieldAddr 45 x 1) (hx : ρ x = .pointer (some ⟨b, off, none⟩)) (W : World) : Runs Tryz.prog ρ o W (.pointer (some ⟨b, off + 1, none⟩)) W := by
 constructor
 unfold execOp
 simp only [ho, hx]
 go_simp
theorem y_faRecord1 (x : Operand) {b off : Nat} (ho : o.op = .fieldAddr 37 x 1) (hx : ρ x = .pointer (some ⟨b, off, none⟩)) (W : World) : Runs Tryz.prog ρ o W (.pointer (some ⟨b, off + 1, none⟩)) W := by
 constructor
 unfold execOp
 simp only [ho, hx]
 go_simp
theorem y_faRecord2 (x : Operand) {b off : Nat} (ho : o.op = .fieldAddr 37 x 2) (hx : ρ x = .pointer (some ⟨b, off, none⟩)) (W : World) : Runs Tryz.prog ρ o W (.pointer (some ⟨b, off + 2, none⟩)) W := by
 constructor
 unfold execOp
 simp only [ho, hx]
 go_simp
theorem y_faRecord5 (x : Operand) {b off : Nat} (ho : o.op = .fieldAddr 37 x 5) (hx : ρ x = .pointer (some ⟨b, off, none⟩)) (W : World) : Runs Tryz.prog ρ o W (.pointer (some ⟨b, off + 5, none⟩)) W := by
 constructor
 unfold execOp
 simp only [ho, hx]
 go_simp
theorem y_ldint (x : Operand) {ad : Addr} {v : Value} (ho : o.op = .load 3 x) (hx : ρ x = .pointer (some ad)) (W : World) (hc : W.cell? ad = some v) : Runs Tryz.prog ρ o W (v) W := by
 constructor
 unfold execOp
 simp only [ho, hx]
 go_simp
theorem y_ldint64 (x : Operand) {ad : Addr} {v : Value} (ho : o.op = .load 2 x) (hx : ρ x = .pointer (some ad)) (W : World) (hc : W.cell? ad = some v) : Runs Tryz.prog ρ o W (v) W := by
 constructor
 unfold execOp
 simp only [ho, hx]
 go_simp
theorem y_ldstring (x : Operand) {ad : Addr} {v : Value} (ho : o.op = .load 9 x) (hx : ρ x = .pointer (some ad)) (W : World) (hc : W.cell? ad = some v) : Runs Tryz.prog ρ o W (v) W := by
 constructor
 unfold execOp
 simp only [ho, hx]
 go_simp
theorem y_ldSMessage (x : Operand) {ad : Addr} {v : Value} (ho : o.op = .load 22 x) (hx : ρ x = .pointer (some ad)) (W : World) (hc : W.cell? ad = some v) : Runs Tryz.prog ρ o W (v) W := by
 constructor
 unfold execOp
 simp only [ho, hx]
 go_simp
theorem y_ixMessage (x y : Operand) {b off n c k : Nat} (ho : o.op = .indexAddr 22 x y) (hx : ρ x = .slice (some ⟨b, off, none⟩) n c) (hy : ρ y = .int .i64 (k : Nat)) (hk : k < n) (W : World) : Runs Tryz.prog ρ o W (.pointer (some ⟨b, off + k * 6, none⟩)) W := by
 constructor
 have h1 : (k : Int) < (n : Int) := by omega
 unfold execOp
 simp only [ho, hx, hy]
 go_simp
theorem y_ldSBranch (x : Operand) {ad : Addr} {v : Value} (ho : o.op = .load 23 x) (hx : ρ x = .pointer (some ad)) (W : World) (hc : W.cell? ad = some v) : Runs Tryz.prog ρ o W (v) W := by
 constructor
 unfold execOp
 simp only [ho, hx]
 go_simp
theorem y_ldSEnd (x : Operand) {ad : Addr} {v : Value} (ho : o.op = .load 24 x) (hx : ρ x = .pointer (some ad)) (W : World) (hc : W.cell? ad = some v) : Runs Tryz.prog ρ o W (v) W := by
 constructor
 unfold execOp
 simp only [ho, hx]
 go_simp
theorem y_ldSPut (x : Operand) {ad : Addr} {v : Value} (ho : o.op = .load 35 x) (hx : ρ x = .pointer (some ad)) (W : World) (hc : W.cell? ad = some v) : Runs Tryz.prog ρ o W (v) W := by
 constructor
 unfold execOp
 simp only [ho, hx]
 go_simp
theorem y_bdBranch (x0 x1 : Operand) {v0 v1 : Value} (ho : o.op = .build 81 #[(0, x0), (1, x1)]) (h0 : ρ x0 = v0) (h1 : ρ x1 = v1) (k0 : v0.oneCell' = true) (k1 : v1.oneCell' = true) (W : World) : Runs Tryz.prog ρ o W (.agg #[v0, v1]) W := by
 constructor
 have c0 := one_cells k0; have c1 := one_cells k1;
 simp only [Value.cells] at c0 c1
 unfold execOp
 simp only [ho, h0, h1]
 go_simp
theorem y_bdEnd (x0 x1 : Operand) {v0 v1 : Value} (ho : o.op = .build 59 #[(0, x0), (1, x1)]) (h0 : ρ x0 = v0) (h1 : ρ x1 = v1) (k0 : v0.oneCell' = true) (k1 : v1.oneCell' = true) (W : World) : Runs Tryz.prog ρ o W (.agg #[v0, v1]) W := by
 constructor
 have c0 := one_cells k0; have c1 := one_cells k1;
 simp only [Value.cells] at c0 c1
 unfold execOp
 simp only [ho, h0, h1]
 go_simp
end
section
open Go.RowKit Go.Maps
variable {ρ : Operand -> Value} {o : Oper}
theorem w_call {f : FuncId} {F : Func} (hF : Tryz.prog.funcs[f]? = some F) (hn : (F.name == "runtime.NumGoroutine") = false) (hb : F.body.isNone = false) {a : Act} {w : World} {K : Act -> World -> Prop} {Q : Exit -> Act -> World -> Prop} (xs : List Operand) (ts : Array TypeId)
  (ho : o.op = .call { callee := .value (.func f), args := xs.toArray, argTypes := ts }) (us : List Value) (hxs : xs.map a.eval = us) {R : Ending -> World -> Prop} (hc : Calls Tryz.prog f us.toArray w R) (hR : ∀ e w', R e w' -> ∃ v, e = .returned v /\ K (a.put o.dst v) w') :
  Oper.wp Tryz.prog o a w K Q := by
 unfold Oper.wp execOp
 have he : a.eval (.func f) = .func (.func f) #[] #[] := rfl
 have hp : program.run Tryz.prog w = .ok Tryz.prog w := rfl
 simp only [ho, resolve, invoke, Sem.run_bind, Sem.run_pure, Result.andThen_ok, List.map_toArray, hxs, he, Deferred.ofValue, callFunc, Array.append_empty, hp, hF, hn, hb, Bool.false_eq_true, if_false, Oper.upon_enter, Array.empty_append]
 with_reducible refine hc.mono ?_
 intro e w' hr
 obtain ⟨v, rfl, hk⟩ := hR e w' hr
 exact hk
theorem y_bsMessage (x : Operand) {v0 v1 v2 v3 v4 v5 : Value} (ho : o.op = .buildSlice 22 1 #[(0, x)]) (hx : ρ x = .agg #[v0, v1, v2, v3, v4, v5]) (k0 : v0.oneCell' = true) (k1 : v1.oneCell' = true) (k2 : v2.oneCell' = true) (k3 : v3.oneCell' = true) (k4 : v4.oneCell' = true) (k5 : v5.oneCell' = true) (W : World) : Runs Tryz.prog ρ o W (.slice (some ⟨W.heap.size, 0, none⟩) 1 1) (W.alloc (.cells #[v0, v1, v2, v3, v4, v5] 50)) := by
 constructor
 have c0 := one_cells k0; have c1 := one_cells k1; have c2 := one_cells k2; have c3 := one_cells k3; have c4 := one_cells k4; have c5 := one_cells k5;
 simp only [Value.cells] at c0 c1 c2 c3 c4 c5
 unfold execOp
 simp only [ho, hx]
 go_simp
theorem y_bsBranch (x : Operand) {v0 v1 : Value} (ho : o.op = .buildSlice 23 1 #[(0, x)]) (hx : ρ x = .agg #[v0, v1]) (k0 : v0.oneCell' = true) (k1 : v1.oneCell' = true) (W : World) : Runs Tryz.prog ρ o W (.slice (some ⟨W.heap.size, 0, none⟩) 1 1) (W.alloc (.cells #[v0, v1] 81)) := by
 constructor
 have c0 := one_cells k0; have c1 := one_cells k1;
 simp only [Value.cells] at c0 c1
 unfold execOp
 simp only [ho, hx]
 go_simp
theorem y_bsEnd (x : Operand) {v0 v1 : Value} (ho : o.op = .buildSlice 24 1 #[(0, x)]) (hx : ρ x = .agg #[v0, v1]) (k0 : v0.oneCell' = true) (k1 : v1.oneCell' = true) (W : World) : Runs Tryz.prog ρ o W (.slice (some ⟨W.heap.size, 0, none⟩) 1 1) (W.alloc (.cells #[v0, v1] 59)) := by
 constructor
 have c0 := one_cells k0; have c1 := one_cells k1;
 simp only [Value.cells] at c0 c1
 unfold execOp
 simp only [ho, hx]
 go_simp
theorem w_stint64 (x y : Operand) {a : Act} {w : World} {K : Act -> World -> Prop} {Q : Exit -> Act -> World -> Prop} {ad : Addr} {v u : Value} (ho : o.op = .store 2 x y) (hd : o.dst = none) (hx : a.eval x = .pointer (some ad)) (hy : a.eval y = v) (hv : v.oneCell' = true) (hc : w.cell? ad = some u) (hf : w.frozen? ad = false)
  (h : ∀ z, K (a.put o.dst z) (w.setCell ad v)) : Oper.wp Tryz.prog o a w K Q := by
 have hr := fun m => run_store Tryz.prog w ad v m hv
 have c := one_cells hv
 simp only [Value.cells] at c
 have h' : K a (w.setCell ad v) := by have := h undef; rw [hd] at this; exact this
 unfold Oper.wp execOp
 simp only [ho, hx, hy]
 go_simp
 exact h'
theorem w_stSMessage (x y : Operand) {a : Act} {w : World} {K : Act -> World -> Prop} {Q : Exit -> Act -> World -> Prop} {ad : Addr} {v u : Value} (ho : o.op = .store 22 x y) (hd : o.dst = none) (hx : a.eval x = .pointer (some ad)) (hy : a.eval y = v) (hv : v.oneCell' = true) (hc : w.cell? ad = some u) (hf : w.frozen? ad = false)
  (h : ∀ z, K (a.put o.dst z) (w.setCell ad v)) : Oper.wp Tryz.prog o a w K Q := by
 have hr := fun m => run_store Tryz.prog w ad v m hv
 have c := one_cells hv
 simp only [Value.cells] at c
 have h' : K a (w.setCell ad v) := by have := h undef; rw [hd] at this; exact this
 unfold Oper.wp execOp
 simp only [ho, hx, hy]
 go_simp
 exact h'
theorem w_stSBranch (x y : Operand) {a : Act} {w : World} {K : Act -> World -> Prop} {Q : Exit -> Act -> World -> Prop} {ad : Addr} {v u : Value} (ho : o.op = .store 23 x y) (hd : o.dst = none) (hx : a.eval x = .pointer (some ad)) (hy : a.eval y = v) (hv : v.oneCell' = true) (hc : w.cell? ad = some u) (hf : w.frozen? ad = false)
  (h : ∀ z, K (a.put o.dst z) (w.setCell ad v)) : Oper.wp Tryz.prog o a w K Q := by
 have hr := fun m => run_store Tryz.prog w ad v m hv
 have c := one_cells hv
 simp only [Value.cells] at c
 have h' : K a (w.setCell ad v) := by have := h undef; rw [hd] at this; exact this
 unfold Oper.wp execOp
 simp only [ho, hx, hy]
 go_simp
 exact h'
theorem w_stSEnd (x y : Operand) {a : Act} {w : World} {K : Act -> World -> Prop} {Q : Exit -> Act -> World -> Prop} {ad : Addr} {v u : Value} (ho : o.op = .store 24 x y) (hd : o.dst = none) (hx : a.eval x = .pointer (some ad)) (hy : a.eval y = v) (hv : v.oneCell' = true) (hc : w.cell? ad = some u) (hf : w.frozen? ad = false)
  (h : ∀ z, K (a.put o.dst z) (w.setCell ad v)) : Oper.wp Tryz.prog o a w K Q := by
 have hr := fun m => run_store Tryz.prog w ad v m hv
 have c := one_cells hv
 simp only [Value.cells] at c
 have h' : K a (w.setCell ad v) := by have := h undef; rw [hd] at this; exact this
 unfold Oper.wp execOp
 simp only [ho, hx, hy]
 go_simp
 exact h'
end
section
open Go.RowKit Go.Maps
section
variable {ops : Array Oper} {Q : Exit -> Act -> World -> Prop} {a0 : Act} {ds : List Nat} {C : World -> Prop} {R : Nat -> Value -> World -> Prop} {wd : List Nat} {need kill later : Nat -> List Nat}
theorem map1 {a : Act} {x : Operand} {u : Value} (h : a.eval x = u) : [x].map a.eval = [u] := by simp [h]
theorem map2 {a : Act} {x y : Operand} {u v : Value} (h : a.eval x = u) (k : a.eval y = v) : [x, y].map a.eval = [u, v] := by simp [h, k]
theorem map3 {a : Act} {x y z : Operand} {u v t : Value} (h : a.eval x = u) (k : a.eval y = v) (l : a.eval z = t) : [x, y, z].map a.eval = [u, v, t] := by simp [h, k, l]
theorem wp_callv {f : FuncId} {F : Func} (hF : Tryz.prog.funcs[f]? = some F) (hn : (F.name == "runtime.NumGoroutine") = false) (hb : F.body.isNone = false) {o : Oper} {a : Act} {w : World} {K : Act -> World -> Prop} (xs : List Operand) (ts : Array TypeId)
  (ho : o.op = .call { callee := .value (.func f), args := xs.toArray, argTypes := ts }) (us : List Value) (hxs : xs.map a.eval = us) (v : Value) (hc : Calls Tryz.prog f us.toArray w fun e w' => e = .returned v /\ Tch No w w') (hK : ∀ w', Tch No w w' -> K (a.put o.dst v) w') :
  Oper.wp Tryz.prog o a w K Q := by
 refine w_call hF hn hb xs ts ho us hxs hc ?_
 rintro e w' ⟨rfl, t⟩
 exact ⟨v, rfl, hK w' t⟩
theorem istep_c {i d : Nat} (v : Value) (o : Oper) (ho : ops[i]? = some o) (hd : o.dst = some d) (hw : ∀ a w, Fr a0 ds a -> C w -> (∀ k ∈ need i, R k (slotV ops a k) w) -> Region.wanted o (yielded ops a.tmps) = true)
  {f : FuncId} {F : Func} (hF : Tryz.prog.funcs[f]? = some F) (hn' : (F.name == "runtime.NumGoroutine") = false) (hb : F.body.isNone = false) (xs : List Operand) (ts : Array TypeId) (ho' : o.op = .call { callee := .value (.func f), args := xs.toArray, argTypes := ts }) (us : List Value)
  (hxs : ∀ a w, Fr a0 ds a -> C w -> (∀ k ∈ need i, R k (slotV ops a k) w) -> xs.map a.eval = us) (hc : ∀ w, C w -> Calls Tryz.prog f us.toArray w fun e w' => e = .returned v /\ Tch No w w') (hC' : ∀ w w', C w -> Tch No w w' -> C w') (hst : ∀ j, Stb (R j)) (hR : ∀ w, C w -> R i v w) :
  IStep Tryz.prog ops Q a0 ds C R wd need kill later i :=
 istep_w o ho hw (fun a w hf hC hn K hK => wp_callv hF hn' hb xs ts ho' us (hxs a w hf hC hn) v (hc w hC) (fun w' t => hK v w' (hC' w w' hC t) (by rw [hd]; exact hR w' (hC' w w' hC t)) (fun j _ _ _ _ x h => hst j x w w' t h)))
end
variable {ρ : Operand -> Value} {o : Oper}
end
section
open Go.RowKit Go.Maps
def atI {α : Type} (f : α -> Int) (l : List α) (t : Int) : Int := match atP f l t with | some i => (i : Int) | none => -1
theorem atP_hit {α : Type} {f : α -> Int} {l : List α} {t : Int} {k : Nat} (hk : k < l.length) (e : f l[k] = t) (h : ∀ i (hi : i < l.length), i < k -> f l[i] ≠ t) : atP f l t = some k := by
 unfold atP
 rw [List.findIdx?_eq_some_iff_getElem]
 exact ⟨hk, by simpa using e, fun j hj => by simpa using h j (by omega) hj⟩
theorem atP_miss {α : Type} {f : α -> Int} {l : List α} {t : Int} (h : ∀ i (hi : i < l.length), f l[i] ≠ t) : atP f l t = none := by
 unfold atP
 rw [List.findIdx?_eq_none_iff]
 intro x hx
 obtain ⟨i, hi, rfl⟩ := List.getElem_of_mem hx
 simpa using h i hi
theorem atI_hit {α : Type} {f : α -> Int} {l : List α} {t : Int} {k : Nat} (hk : k < l.length) (e : f l[k] = t) (h : ∀ i (hi : i < l.length), i < k -> f l[i] ≠ t) : atI f l t = (k : Int) := by
 unfold atI; rw [atP_hit hk e h]
theorem atI_miss {α : Type} {f : α -> Int} {l : List α} {t : Int} (h : ∀ i (hi : i < l.length), f l[i] ≠ t) : atI f l t = -1 := by
 unfold atI; rw [atP_miss h]
theorem atI_cases {α : Type} (f : α -> Int) (l : List α) (t : Int) : (hasP f l t = false /\ atI f l t = -1) ∨ ∃ k, ∃ h : k < l.length, atI f l t = (k : Int) /\ f l[k] = t /\ hasP f l t = true /\ ∀ i (hi : i < l.length), i < k -> f l[i] ≠ t := by
 unfold atI
 cases e : atP f l t with
 | none =>
  left
  unfold atP at e
  rw [List.findIdx?_eq_none_iff] at e
  refine ⟨?_, rfl⟩
  cases e2 : hasP f l t with
  | false => rfl
  | true =>
   obtain ⟨x, hx, e3⟩ := hasP_iff.1 e2
   have := e x hx
   simp [e3] at this
 | some k =>
  right
  unfold atP at e
  rw [List.findIdx?_eq_some_iff_getElem] at e
  obtain ⟨h, h1, h2⟩ := e
  exact ⟨k, h, rfl, by simpa using h1, hasP_iff.2 ⟨_, List.getElem_mem h, by simpa using h1⟩, fun i hi hk => by simpa using h2 i hk⟩
theorem atI_pos {α : Type} {f : α -> Int} {l : List α} (hs : strictB (l.map f) = true) {t : Int} (h : hasP f l t = true) : atI f l t = (posP f l t : Nat) := by
 obtain ⟨hp, e⟩ := (hasP_pos hs t).1 h
 refine atI_hit hp e fun i hi hlt he => ?_
 have := strictB_get hs hlt (by simpa using hp)
 simp only [List.getElem_map] at this
 omega
end
section
open Go.RowKit Go.Maps
def OwnN (w0 : World) (e : TypeId) (size n : Nat) (cs : List Value) : Value -> World -> Prop := fun v W => W.ownsRow 0 e size v n cs /\ ∀ b, v.ownBlock = some b -> w0.heap.size <= b
theorem stb_own {w0 : World} {e : TypeId} {size n : Nat} {cs : List Value} : Stb (OwnN w0 e size n cs) := fun x w w' t h => ⟨own_tch h.1 t (fun _ _ h => h), h.2⟩
def SrcC (n size : Nat) (cs : List Value) : Value -> World -> Prop := fun v W => CellsAt W v n size cs
theorem stb_src {n size : Nat} {cs : List Value} : Stb (SrcC n size cs) := fun x w w' t h => CellsAt.keep h t
end
section
open Go.RowKit Go.Maps Go.Shelf
theorem clone_gen {ρ : Ren} (L : SlLaysE0.n41 Tryz.prog ρ) {t : TypeId} {size bytes : Nat} (E : ElT t (ρ.t 23) size bytes) (hz : ∀ w, (Go.sizeOf (ρ.t 23)).run Tryz.prog w = .ok size w) (v : Value) (n : Nat) (cs : List Value) (w : World) (h : CellsAt w v n size cs) (h1 : Ones cs) (hn : n <= 100000000) :
  Calls Tryz.prog (ρ.f 41) #[v] w fun e w' => ∃ a cap, e = .returned (.slice a n cap) /\ OwnN w (ρ.t 23) size n cs (.slice a n cap) w' /\ Tch No w w' /\ (a = none ↔ v = .slice none 0 0) := by
 obtain ⟨i0, z, hi0, hz0, hz1, hz2, hzs⟩ := E.info
 have hb := E.byt
 rcases h.2 with ⟨rfl, rfl⟩ | ⟨b, o, c, rfl, _, _, _, hc⟩
 ·obtain rfl : cs = [] := List.eq_nil_of_length_eq_zero (by simpa using h.1)
  refine (AnyE.slices_Clone_nil L 0 0 w).mono ?_
  rintro e w' ⟨rfl, rfl⟩
  exact ⟨none, 0, rfl, ⟨own_nil _ _ _, fun b hb => by simp [Value.ownBlock] at hb⟩, Tch.refl _ _, by simp⟩
 ·have hby : n * bytes <= 140737488355328 := by
   have : n * bytes <= 100000000 * 1000 := Nat.mul_le_mul hn hb
   omega
  refine (AnyE.slices_Clone L i0 z size bytes hi0 hz0 hz1 hz2 hzs E.pos hz b o n c cs w h.1 (by simp only [maxLen]; omega) hby hc h1).mono ?_
  rintro e w' ⟨v', rfl, hown, hnil, hbl⟩
  rcases hown.2 with ⟨h0, _⟩ | ⟨g, cap, cur, rfl, h3, h4⟩
  ·exact absurd h0 (by rintro rfl; exact hnil rfl)
  ·refine ⟨some ⟨g, 0, none⟩, cap, rfl, ⟨⟨hown.1, .inr ⟨g, cap, cur, rfl, Nat.zero_le _, h4⟩⟩, fun b hb => ?_⟩, Tch.ofBelow hbl, by simp⟩
   simp only [Value.ownBlock, Option.some.injEq] at hb
   omega
theorem clone_msg (v : Value) (l : List MsgM) (w : World) (h : IsMsgs w v l) (h1 : Ones (l.flatMap encMsg)) (hn : l.length <= 100000000) :
  Calls Tryz.prog 90 #[v] w fun e w' => ∃ a cap, e = .returned (.slice a l.length cap) /\ OwnN w 50 6 l.length (l.flatMap encMsg) (.slice a l.length cap) w' /\ Tch No w w' /\ (a = none ↔ v = .slice none 0 0) :=
 clone_gen ShM.clone eltMsg Tryz.sizeOf50 v _ _ w h h1 hn
theorem clone_end (v : Value) (l : List EndM) (w : World) (h : IsEnds w v l) (h1 : Ones (l.flatMap encEnd)) (hn : l.length <= 100000000) :
  Calls Tryz.prog 194 #[v] w fun e w' => ∃ a cap, e = .returned (.slice a l.length cap) /\ OwnN w 59 2 l.length (l.flatMap encEnd) (.slice a l.length cap) w' /\ Tch No w w' /\ (a = none ↔ v = .slice none 0 0) :=
 clone_gen ShE.clone eltEnd Tryz.sizeOf59 v _ _ w h h1 hn
theorem clone_put (v : Value) (l : List PutM) (w : World) (h : IsPuts w v l) (h1 : Ones (l.flatMap encPut)) (hn : l.length <= 100000000) :
  Calls Tryz.prog 158 #[v] w fun e w' => ∃ a cap, e = .returned (.slice a l.length cap) /\ OwnN w 45 2 l.length (l.flatMap encPut) (.slice a l.length cap) w' /\ Tch No w w' /\ (a = none ↔ v = .slice none 0 0) :=
 clone_gen ShU.clone eltPut Tryz.sizeOf45 v _ _ w h h1 hn
theorem clone_br (v : Value) (n : Nat) (cs : List Value) (w : World) (h : CellsAt w v n 2 cs) (h1 : Ones cs) (hn : n <= 100000000) :
  Calls Tryz.prog 157 #[v] w fun e w' => ∃ a cap, e = .returned (.slice a n cap) /\ OwnN w 81 2 n cs (.slice a n cap) w' /\ Tch No w w' /\ (a = none ↔ v = .slice none 0 0) :=
 clone_gen ShB.clone eltBr Tryz.sizeOf81 v _ _ w h h1 hn
theorem clone_pend (v : Value) (n : Nat) (cs : List Value) (w : World) (h : CellsAt w v n 2 cs) (h1 : Ones cs) (hn : n <= 100000000) :
  Calls Tryz.prog 200 #[v] w fun e w' => ∃ a cap, e = .returned (.slice a n cap) /\ OwnN w 63 2 n cs (.slice a n cap) w' /\ Tch No w w' /\ (a = none ↔ v = .slice none 0 0) :=
 clone_gen ShP.clone eltPend Tryz.sizeOf63 v _ _ w h h1 hn
theorem clone_int (v : Value) (l : List Int) (w : World) (h : IsInts w v l) (hn : l.length <= 100000000) :
  Calls Tryz.prog 161 #[v] w fun e w' => ∃ a cap, e = .returned (.slice a l.length cap) /\ OwnN w 3 1 l.length (l.map (fun x => .int .i64 x)) (.slice a l.length cap) w' /\ Tch No w w' /\ (a = none ↔ v = .slice none 0 0) :=
 clone_gen ShI.clone eltInt Tryz.sizeOf3 v _ _ w h (fun u hu => by obtain ⟨x, _, rfl⟩ := List.mem_map.1 hu; rfl) hn
end
end Go.Proofs.YtfedhcnmdmhppaaGreat
