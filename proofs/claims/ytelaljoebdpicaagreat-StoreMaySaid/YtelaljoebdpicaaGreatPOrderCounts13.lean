/- Part 13 of what the proof of OrderCounts rests on. No condition. -/
import Derived.Test.YtelaljoebdpicaaGreatPOrderCounts12
namespace Go.Proofs.YtelaljoebdpicaaGreat
set_option maxRecDepth 100000
set_option maxHeartbeats 60000000
set_option linter.unusedVariables false
set_option linter.unusedSimpArgs false
set_option linter.unusedSectionVars false
section
open Go.RowKit Go.Maps
structure Runs (P : Program) (ρ : Operand -> Value) (o : Oper) (W : World) (v : Value) (W' : World) : Prop where
 out : (execOp ρ o).run P W = .ok (.value v) W'
section
variable {P : Program} {ops : Array Oper} {Q : Exit -> Act -> World -> Prop} {a0 : Act} {ds : List Nat} {C : World -> Prop} {R : Nat -> Value -> World -> Prop} {wd : List Nat} {need kill later : Nat -> List Nat}
theorem iwanted_no {o : Oper} {a : Act} (hg : o.guard = none) : Region.wanted o (yielded ops a.tmps) = true := by simp [Region.wanted, hg]
theorem istep_of {i : Nat} (o : Oper) (ho : ops[i]? = some o)
  (h : ∀ a w, Fr a0 ds a -> C w -> (∀ k ∈ need i, R k (slotV ops a k) w) -> ∀ K : Act -> World -> Prop, (∀ v w', C w' -> R i (match o.dst with | some _ => v | none => undef) w' -> (∀ j ∈ wd, j ≠ i -> j ∉ kill i -> j ∉ later i -> ∀ x, R j x w -> R j x w') -> K (a.put o.dst v) w') ->
   if Region.wanted o (yielded ops a.tmps) = true then Oper.wp P o a w K Q else K (a.put o.dst undef) w) : IStep P ops Q a0 ds C R wd need kill later i := by
 intro o' a w ho' hf hC hn K hK
 rw [ho] at ho'
 injection ho' with ho'
 subst ho'
 exact h a w hf hC hn K hK
theorem istep_q {i d : Nat} (v : Value) (o : Oper) (ho : ops[i]? = some o) (hd : o.dst = some d) (hw : ∀ a w, Fr a0 ds a -> C w -> (∀ k ∈ need i, R k (slotV ops a k) w) -> Region.wanted o (yielded ops a.tmps) = true) (hR : ∀ w, C w -> R i v w)
  (h : ∀ a w, Fr a0 ds a -> C w -> (∀ k ∈ need i, R k (slotV ops a k) w) -> Runs P a.eval o w v w) : IStep P ops Q a0 ds C R wd need kill later i := by
 refine istep_of o ho (fun a w hf hC hn K hK => ?_)
 rw [if_pos (hw a w hf hC hn)]
 unfold Oper.wp
 rw [(h a w hf hC hn).out]
 exact hK v w hC (by rw [hd]; exact hR w hC) (fun j _ _ _ _ x h => h)
theorem iq {i d : Nat} (v : Value) {b : Op} {c : TypeId} {e : String} {f : Array Edge} (ho : ops[i]? = some ⟨some d, b, c, e, f, none⟩) (hR : ∀ w, C w -> R i v w) (h : ∀ a w, Fr a0 ds a -> C w -> (∀ k ∈ need i, R k (slotV ops a k) w) -> Runs P a.eval ⟨some d, b, c, e, f, none⟩ w v w) : IStep P ops Q a0 ds C R wd need kill later i :=
  istep_q v _ ho rfl (fun _ _ _ _ _ => iwanted_no rfl) hR h
theorem istep_w {i : Nat} (o : Oper) (ho : ops[i]? = some o) (hw : ∀ a w, Fr a0 ds a -> C w -> (∀ k ∈ need i, R k (slotV ops a k) w) -> Region.wanted o (yielded ops a.tmps) = true)
  (h : ∀ a w, Fr a0 ds a -> C w -> (∀ k ∈ need i, R k (slotV ops a k) w) -> ∀ K : Act -> World -> Prop, (∀ v w', C w' -> R i (match o.dst with | some _ => v | none => undef) w' -> (∀ j ∈ wd, j ≠ i -> j ∉ kill i -> j ∉ later i -> ∀ x, R j x w -> R j x w') -> K (a.put o.dst v) w') -> Oper.wp P o a w K Q) : IStep P ops Q a0 ds C R wd need kill later i := by
 refine istep_of o ho (fun a w hf hC hn K hK => ?_)
 rw [if_pos (hw a w hf hC hn)]
 exact h a w hf hC hn K hK
theorem wp_runs {o : Oper} {a : Act} {w : World} {K : Act -> World -> Prop} {v : Value} {w' : World} (hr : Runs P a.eval o w v w') (h : K (a.put o.dst v) w') : Oper.wp P o a w K Q := by
 unfold Oper.wp
 rw [hr.out]
 exact h
end
variable {ρ : Operand -> Value} {o : Oper}
theorem y_move {P : Program} (x : Operand) {v : Value} (ho : o.op = .move x) (hx : ρ x = v) (W : World) : Runs P ρ o W v W := by
 constructor
 unfold execOp; rw [ho]; subst hx; rfl
theorem y_assign {P : Program} (x : Operand) {v : Value} (ho : o.op = .assign x) (hx : ρ x = v) (W : World) : Runs P ρ o W v W := by
 constructor
 unfold execOp; rw [ho]; subst hx; rfl
theorem y_not (x : Operand) {b : Bool} (ho : o.op = .unOp .not 4 x) (hx : ρ x = .bool b) (W : World) : Runs Tryz.prog ρ o W (.bool (!b)) W := by
 constructor
 unfold execOp
 simp only [ho, hx]
 go_simp
theorem y_pick (x y z : Operand) {b : Bool} {v : Value} (ho : o.op = .pick x y z) (hx : ρ x = .bool b) (hv : (if b then ρ y else ρ z) = v) (W : World) : Runs Tryz.prog ρ o W v W := by
 constructor
 subst hv
 unfold execOp
 simp only [ho, hx]
 cases b <;> go_simp
theorem y_faState0 (x : Operand) {b off : Nat} (ho : o.op = .fieldAddr 27 x 0) (hx : ρ x = .pointer (some ⟨b, off, none⟩)) (W : World) : Runs Tryz.prog ρ o W (.pointer (some ⟨b, off, none⟩)) W := by
 constructor
 unfold execOp
 simp only [ho, hx]
 go_simp
theorem y_faState1 (x : Operand) {b off : Nat} (ho : o.op = .fieldAddr 27 x 1) (hx : ρ x = .pointer (some ⟨b, off, none⟩)) (W : World) : Runs Tryz.prog ρ o W (.pointer (some ⟨b, off + 1, none⟩)) W := by
 constructor
 unfold execOp
 simp only [ho, hx]
 go_simp
theorem y_faState2 (x : Operand) {b off : Nat} (ho : o.op = .fieldAddr 27 x 2) (hx : ρ x = .pointer (some ⟨b, off, none⟩)) (W : World) : Runs Tryz.prog ρ o W (.pointer (some ⟨b, off + 2, none⟩)) W := by
 constructor
 unfold execOp
 simp only [ho, hx]
 go_simp
theorem y_faState4 (x : Operand) {b off : Nat} (ho : o.op = .fieldAddr 27 x 4) (hx : ρ x = .pointer (some ⟨b, off, none⟩)) (W : World) : Runs Tryz.prog ρ o W (.pointer (some ⟨b, off + 4, none⟩)) W := by
 constructor
 unfold execOp
 simp only [ho, hx]
 go_simp
theorem y_faState5 (x : Operand) {b off : Nat} (ho : o.op = .fieldAddr 27 x 5) (hx : ρ x = .pointer (some ⟨b, off, none⟩)) (W : World) : Runs Tryz.prog ρ o W (.pointer (some ⟨b, off + 5, none⟩)) W := by
 constructor
 unfold execOp
 simp only [ho, hx]
 go_simp
theorem y_faState7 (x : Operand) {b off : Nat} (ho : o.op = .fieldAddr 27 x 7) (hx : ρ x = .pointer (some ⟨b, off, none⟩)) (W : World) : Runs Tryz.prog ρ o W (.pointer (some ⟨b, off + 7, none⟩)) W := by
 constructor
 unfold execOp
 simp only [ho, hx]
 go_simp
theorem y_faState8 (x : Operand) {b off : Nat} (ho : o.op = .fieldAddr 27 x 8) (hx : ρ x = .pointer (some ⟨b, off, none⟩)) (W : World) : Runs Tryz.prog ρ o W (.pointer (some ⟨b, off + 8, none⟩)) W := by
 constructor
 unfold execOp
 simp only [ho, hx]
 go_simp
theorem y_ldState (x : Operand) {b off : Nat} {v0 v1 v2 v3 v4 v5 v6 v7 v8 : Value} (ho : o.op = .load 27 x) (hx : ρ x = .pointer (some ⟨b, off, none⟩)) (W : World) (h0 : W.cell? ⟨b, off, none⟩ = some v0) (h1 : W.cell? ⟨b, off + 1, none⟩ = some v1) (h2 : W.cell? ⟨b, off + 2, none⟩ = some v2) (h3 : W.cell? ⟨b, off + 3, none⟩ = some v3) (h4 : W.cell? ⟨b, off + 4, none⟩ = some v4) (h5 : W.cell? ⟨b, off + 5, none⟩ = some v5) (h6 : W.cell? ⟨b, off + 6, none⟩ = some v6) (h7 : W.cell? ⟨b, off + 7, none⟩ = some v7) (h8 : W.cell? ⟨b, off + 8, none⟩ = some v8) : Runs Tryz.prog ρ o W (.agg #[v0, v1, v2, v3, v4, v5, v6, v7, v8]) W := by
 constructor
 unfold execOp
 simp only [ho, hx]
 go_simp
theorem y_faMessage0 (x : Operand) {b off : Nat} (ho : o.op = .fieldAddr 50 x 0) (hx : ρ x = .pointer (some ⟨b, off, none⟩)) (W : World) : Runs Tryz.prog ρ o W (.pointer (some ⟨b, off, none⟩)) W := by
 constructor
 unfold execOp
 simp only [ho, hx]
 go_simp
theorem y_faMessage1 (x : Operand) {b off : Nat} (ho : o.op = .fieldAddr 50 x 1) (hx : ρ x = .pointer (some ⟨b, off, none⟩)) (W : World) : Runs Tryz.prog ρ o W (.pointer (some ⟨b, off + 1, none⟩)) W := by
 constructor
 unfold execOp
 simp only [ho, hx]
 go_simp
theorem y_faMessage2 (x : Operand) {b off : Nat} (ho : o.op = .fieldAddr 50 x 2) (hx : ρ x = .pointer (some ⟨b, off, none⟩)) (W : World) : Runs Tryz.prog ρ o W (.pointer (some ⟨b, off + 2, none⟩)) W := by
 constructor
 unfold execOp
 simp only [ho, hx]
 go_simp
theorem y_faMessage3 (x : Operand) {b off : Nat} (ho : o.op = .fieldAddr 50 x 3) (hx : ρ x = .pointer (some ⟨b, off, none⟩)) (W : World) : Runs Tryz.prog ρ o W (.pointer (some ⟨b, off + 3, none⟩)) W := by
 constructor
 unfold execOp
 simp only [ho, hx]
 go_simp
theorem y_faMessage4 (x : Operand) {b off : Nat} (ho : o.op = .fieldAddr 50 x 4) (hx : ρ x = .pointer (some ⟨b, off, none⟩)) (W : World) : Runs Tryz.prog ρ o W (.pointer (some ⟨b, off + 4, none⟩)) W := by
 constructor
 unfold execOp
 simp only [ho, hx]
 go_simp
theorem y_faMessage5 (x : Operand) {b off : Nat} (ho : o.op = .fieldAddr 50 x 5) (hx : ρ x = .pointer (some ⟨b, off, none⟩)) (W : World) : Runs Tryz.prog ρ o W (.pointer (some ⟨b, off + 5, none⟩)) W := by
 constructor
 unfold execOp
 simp only [ho, hx]
 go_simp
theorem y_ldMessage (x : Operand) {b off : Nat} {v0 v1 v2 v3 v4 v5 : Value} (ho : o.op = .load 50 x) (hx : ρ x = .pointer (some ⟨b, off, none⟩)) (W : World) (h0 : W.cell? ⟨b, off, none⟩ = some v0) (h1 : W.cell? ⟨b, off + 1, none⟩ = some v1) (h2 : W.cell? ⟨b, off + 2, none⟩ = some v2) (h3 : W.cell? ⟨b, off + 3, none⟩ = some v3) (h4 : W.cell? ⟨b, off + 4, none⟩ = some v4) (h5 : W.cell? ⟨b, off + 5, none⟩ = some v5) : Runs Tryz.prog ρ o W (.agg #[v0, v1, v2, v3, v4, v5]) W := by
 constructor
 unfold execOp
 simp only [ho, hx]
 go_simp
theorem y_faBranch1 (x : Operand) {b off : Nat} (ho : o.op = .fieldAddr 74 x 1) (hx : ρ x = .pointer (some ⟨b, off, none⟩)) (W : World) : Runs Tryz.prog ρ o W (.pointer (some ⟨b, off + 1, none⟩)) W := by
 constructor
 unfold execOp
 simp only [ho, hx]
 go_simp
theorem y_faPend1 (x : Operand) {b off : Nat} (ho : o.op = .fieldAddr 76 x 1) (hx : ρ x = .pointer (some ⟨b, off, none⟩)) (W : World) : Runs Tryz.prog ρ o W (.pointer (some ⟨b, off + 1, none⟩)) W := by
 constructor
 unfold execOp
 simp only [ho, hx]
 go_simp
theorem y_faPut0 (x : Operand) {b off : Nat} (ho : o.op = .fieldAddr 45 x 0) (hx : ρ x = .pointer (some ⟨b, off, none⟩)) (W : World) : Runs Tryz.prog ρ o W (.pointer (some ⟨b, off, none⟩)) W := by
 constructor
 unfold execOp
 simp only [ho, hx]
 go_simp
theorem y_faPut1 (x : Operand) {b off : Nat} (ho : o.op = .fieldAddr 45 x 1) (hx : ρ x = .pointer (some ⟨b, off, none⟩)) (W : World) : Runs Tryz.prog ρ o W (.pointer (some ⟨b, off + 1, none⟩)) W := by
 constructor
 unfold execOp
 simp only [ho, hx]
 go_simp
theorem y_faRecord5 (x : Operand) {b off : Nat} (ho : o.op = .fieldAddr 37 x 5) (hx : ρ x = .pointer (some ⟨b, off, none⟩)) (W : World) : Runs Tryz.prog ρ o W (.pointer (some ⟨b, off + 5, none⟩)) W := by
 constructor
 unfold execOp
 simp only [ho, hx]
 go_simp
theorem y_ldint (x : Operand) {ad : Addr} {v : Value} (ho : o.op = .load 3 x) (hx : ρ x = .pointer (some ad)) (W : World) (hc : W.cell? ad = some v) : Runs Tryz.prog ρ o W (v) W := by
 constructor
 unfold execOp
 simp only [ho, hx]
 go_simp
theorem y_ldint64 (x : Operand) {ad : Addr} {v : Value} (ho : o.op = .load 2 x) (hx : ρ x = .pointer (some ad)) (W : World) (hc : W.cell? ad = some v) : Runs Tryz.prog ρ o W (v) W := by
 constructor
 unfold execOp
 simp only [ho, hx]
 go_simp
theorem y_ldstring (x : Operand) {ad : Addr} {v : Value} (ho : o.op = .load 9 x) (hx : ρ x = .pointer (some ad)) (W : World) (hc : W.cell? ad = some v) : Runs Tryz.prog ρ o W (v) W := by
 constructor
 unfold execOp
 simp only [ho, hx]
 go_simp
theorem y_ldSMessage (x : Operand) {ad : Addr} {v : Value} (ho : o.op = .load 22 x) (hx : ρ x = .pointer (some ad)) (W : World) (hc : W.cell? ad = some v) : Runs Tryz.prog ρ o W (v) W := by
 constructor
 unfold execOp
 simp only [ho, hx]
 go_simp
theorem y_ixMessage (x y : Operand) {b off n c k : Nat} (ho : o.op = .indexAddr 22 x y) (hx : ρ x = .slice (some ⟨b, off, none⟩) n c) (hy : ρ y = .int .i64 (k : Nat)) (hk : k < n) (W : World) : Runs Tryz.prog ρ o W (.pointer (some ⟨b, off + k * 6, none⟩)) W := by
 constructor
 have h1 : (k : Int) < (n : Int) := by omega
 unfold execOp
 simp only [ho, hx, hy]
 go_simp
theorem y_ldSBranch (x : Operand) {ad : Addr} {v : Value} (ho : o.op = .load 23 x) (hx : ρ x = .pointer (some ad)) (W : World) (hc : W.cell? ad = some v) : Runs Tryz.prog ρ o W (v) W := by
 constructor
 unfold execOp
 simp only [ho, hx]
 go_simp
theorem y_ixBranch (x y : Operand) {b off n c k : Nat} (ho : o.op = .indexAddr 23 x y) (hx : ρ x = .slice (some ⟨b, off, none⟩) n c) (hy : ρ y = .int .i64 (k : Nat)) (hk : k < n) (W : World) : Runs Tryz.prog ρ o W (.pointer (some ⟨b, off + k * 2, none⟩)) W := by
 constructor
 have h1 : (k : Int) < (n : Int) := by omega
 unfold execOp
 simp only [ho, hx, hy]
 go_simp
theorem y_ldSPend (x : Operand) {ad : Addr} {v : Value} (ho : o.op = .load 25 x) (hx : ρ x = .pointer (some ad)) (W : World) (hc : W.cell? ad = some v) : Runs Tryz.prog ρ o W (v) W := by
 constructor
 unfold execOp
 simp only [ho, hx]
 go_simp
theorem y_ixPend (x y : Operand) {b off n c k : Nat} (ho : o.op = .indexAddr 25 x y) (hx : ρ x = .slice (some ⟨b, off, none⟩) n c) (hy : ρ y = .int .i64 (k : Nat)) (hk : k < n) (W : World) : Runs Tryz.prog ρ o W (.pointer (some ⟨b, off + k * 2, none⟩)) W := by
 constructor
 have h1 : (k : Int) < (n : Int) := by omega
 unfold execOp
 simp only [ho, hx, hy]
 go_simp
theorem y_lenPend (x : Operand) {a : Option Addr} {n c : Nat} (ho : o.op = .call { callee := .builtin .len, args := #[x], argTypes := #[25] }) (hx : ρ x = .slice a n c) (W : World) : Runs Tryz.prog ρ o W (.int .i64 (n : Nat)) W := by
 constructor
 unfold execOp
 simp only [ho, resolve, invoke, builtin, Sem.run_bind, Sem.run_pure, Result.andThen_ok, List.map_toArray, List.map_cons, List.map_nil, hx]
 go_simp
theorem y_sfPend (x h : Operand) {a : Option Addr} {m c n : Nat} (ho : o.op = .slice 25 x none (some h) none) (hx : ρ x = .slice a m c) (hh : ρ h = .int .i64 (n : Nat)) (hn : n <= c) (W : World) : Runs Tryz.prog ρ o W (.slice a n c) W := by
 constructor
 have h1 : (n : Int) <= (c : Int) := by omega
 unfold execOp
 simp only [ho, hx, hh]
 go_simp
theorem y_ldSPut (x : Operand) {ad : Addr} {v : Value} (ho : o.op = .load 35 x) (hx : ρ x = .pointer (some ad)) (W : World) (hc : W.cell? ad = some v) : Runs Tryz.prog ρ o W (v) W := by
 constructor
 unfold execOp
 simp only [ho, hx]
 go_simp
theorem y_ixPut (x y : Operand) {b off n c k : Nat} (ho : o.op = .indexAddr 35 x y) (hx : ρ x = .slice (some ⟨b, off, none⟩) n c) (hy : ρ y = .int .i64 (k : Nat)) (hk : k < n) (W : World) : Runs Tryz.prog ρ o W (.pointer (some ⟨b, off + k * 2, none⟩)) W := by
 constructor
 have h1 : (k : Int) < (n : Int) := by omega
 unfold execOp
 simp only [ho, hx, hy]
 go_simp
theorem y_ldSInt (x : Operand) {ad : Addr} {v : Value} (ho : o.op = .load 34 x) (hx : ρ x = .pointer (some ad)) (W : World) (hc : W.cell? ad = some v) : Runs Tryz.prog ρ o W (v) W := by
 constructor
 unfold execOp
 simp only [ho, hx]
 go_simp
theorem y_lenInt (x : Operand) {a : Option Addr} {n c : Nat} (ho : o.op = .call { callee := .builtin .len, args := #[x], argTypes := #[34] }) (hx : ρ x = .slice a n c) (W : World) : Runs Tryz.prog ρ o W (.int .i64 (n : Nat)) W := by
 constructor
 unfold execOp
 simp only [ho, resolve, invoke, builtin, Sem.run_bind, Sem.run_pure, Result.andThen_ok, List.map_toArray, List.map_cons, List.map_nil, hx]
 go_simp
theorem y_sfInt (x h : Operand) {a : Option Addr} {m c n : Nat} (ho : o.op = .slice 34 x none (some h) none) (hx : ρ x = .slice a m c) (hh : ρ h = .int .i64 (n : Nat)) (hn : n <= c) (W : World) : Runs Tryz.prog ρ o W (.slice a n c) W := by
 constructor
 have h1 : (n : Int) <= (c : Int) := by omega
 unfold execOp
 simp only [ho, hx, hh]
 go_simp
theorem y_lss_int (p q : Operand) {x y : Int} (ho : o.op = .binOp .lss 3 p q 3) (hx : ρ p = .int .i64 x) (hy : ρ q = .int .i64 y) (W : World) : Runs Tryz.prog ρ o W (.bool (decide (x < y))) W := by
 constructor
 unfold execOp
 simp only [ho, hx, hy]
 go_simp
theorem y_gtr_int (p q : Operand) {x y : Int} (ho : o.op = .binOp .gtr 3 p q 3) (hx : ρ p = .int .i64 x) (hy : ρ q = .int .i64 y) (W : World) : Runs Tryz.prog ρ o W (.bool (decide (y < x))) W := by
 constructor
 unfold execOp
 simp only [ho, hx, hy]
 go_simp
theorem y_geq_int (p q : Operand) {x y : Int} (ho : o.op = .binOp .geq 3 p q 3) (hx : ρ p = .int .i64 x) (hy : ρ q = .int .i64 y) (W : World) : Runs Tryz.prog ρ o W (.bool (decide (y <= x))) W := by
 constructor
 unfold execOp
 simp only [ho, hx, hy]
 go_simp
theorem y_neq_int (p q : Operand) {x y : Int} (ho : o.op = .binOp .neq 3 p q 3) (hx : ρ p = .int .i64 x) (hy : ρ q = .int .i64 y) (W : World) : Runs Tryz.prog ρ o W (.bool (x != y)) W := by
 constructor
 unfold execOp
 simp only [ho, hx, hy]
 go_simp
theorem y_sub_int (p q : Operand) {x y z : Int} (ho : o.op = .binOp .sub 3 p q 3) (hx : ρ p = .int .i64 x) (hy : ρ q = .int .i64 y) (hz : IntKind.i64.wrap (x - y) = z) (W : World) : Runs Tryz.prog ρ o W (.int .i64 z) W := by
 constructor
 subst hz
 unfold execOp
 simp only [ho, hx, hy]
 go_simp
theorem y_lss_int64 (p q : Operand) {x y : Int} (ho : o.op = .binOp .lss 2 p q 2) (hx : ρ p = .int .i64 x) (hy : ρ q = .int .i64 y) (W : World) : Runs Tryz.prog ρ o W (.bool (decide (x < y))) W := by
 constructor
 unfold execOp
 simp only [ho, hx, hy]
 go_simp
theorem y_leq_int64 (p q : Operand) {x y : Int} (ho : o.op = .binOp .leq 2 p q 2) (hx : ρ p = .int .i64 x) (hy : ρ q = .int .i64 y) (W : World) : Runs Tryz.prog ρ o W (.bool (decide (x <= y))) W := by
 constructor
 unfold execOp
 simp only [ho, hx, hy]
 go_simp
theorem y_geq_int64 (p q : Operand) {x y : Int} (ho : o.op = .binOp .geq 2 p q 2) (hx : ρ p = .int .i64 x) (hy : ρ q = .int .i64 y) (W : World) : Runs Tryz.prog ρ o W (.bool (decide (y <= x))) W := by
 constructor
 unfold execOp
 simp only [ho, hx, hy]
 go_simp
theorem y_neq_int64 (p q : Operand) {x y : Int} (ho : o.op = .binOp .neq 2 p q 2) (hx : ρ p = .int .i64 x) (hy : ρ q = .int .i64 y) (W : World) : Runs Tryz.prog ρ o W (.bool (x != y)) W := by
 constructor
 unfold execOp
 simp only [ho, hx, hy]
 go_simp
theorem y_sub_int64 (p q : Operand) {x y z : Int} (ho : o.op = .binOp .sub 2 p q 2) (hx : ρ p = .int .i64 x) (hy : ρ q = .int .i64 y) (hz : IntKind.i64.wrap (x - y) = z) (W : World) : Runs Tryz.prog ρ o W (.int .i64 z) W := by
 constructor
 subst hz
 unfold execOp
 simp only [ho, hx, hy]
 go_simp
theorem y_mul_int64 (p q : Operand) {x y z : Int} (ho : o.op = .binOp .mul 2 p q 2) (hx : ρ p = .int .i64 x) (hy : ρ q = .int .i64 y) (hz : IntKind.i64.wrap (x * y) = z) (W : World) : Runs Tryz.prog ρ o W (.int .i64 z) W := by
 constructor
 subst hz
 unfold execOp
 simp only [ho, hx, hy]
 go_simp
theorem y_bdPut (x0 x1 : Operand) {v0 v1 : Value} (ho : o.op = .build 45 #[(0, x0), (1, x1)]) (h0 : ρ x0 = v0) (h1 : ρ x1 = v1) (k0 : v0.oneCell' = true) (k1 : v1.oneCell' = true) (W : World) : Runs Tryz.prog ρ o W (.agg #[v0, v1]) W := by
 constructor
 have c0 := one_cells k0; have c1 := one_cells k1;
 simp only [Value.cells] at c0 c1
 unfold execOp
 simp only [ho, h0, h1]
 go_simp
end
section
open Go.RowKit Go.Maps
variable {ρ : Operand -> Value} {o : Oper}
theorem w_call {f : FuncId} {F : Func} (hF : Tryz.prog.funcs[f]? = some F) (hn : (F.name == "runtime.NumGoroutine") = false) (hb : F.body.isNone = false) {a : Act} {w : World} {K : Act -> World -> Prop} {Q : Exit -> Act -> World -> Prop} (xs : List Operand) (ts : Array TypeId)
  (ho : o.op = .call { callee := .value (.func f), args := xs.toArray, argTypes := ts }) (us : List Value) (hxs : xs.map a.eval = us) {R : Ending -> World -> Prop} (hc : Calls Tryz.prog f us.toArray w R) (hR : ∀ e w', R e w' -> ∃ v, e = .returned v /\ K (a.put o.dst v) w') :
  Oper.wp Tryz.prog o a w K Q := by
 unfold Oper.wp execOp
 have he : a.eval (.func f) = .func (.func f) #[] #[] := rfl
 have hp : program.run Tryz.prog w = .ok Tryz.prog w := rfl
 simp only [ho, resolve, invoke, Sem.run_bind, Sem.run_pure, Result.andThen_ok, List.map_toArray, hxs, he, Deferred.ofValue, callFunc, Array.append_empty, hp, hF, hn, hb, Bool.false_eq_true, if_false, Oper.upon_enter, Array.empty_append]
 with_reducible refine hc.mono ?_
 intro e w' hr
 obtain ⟨v, rfl, hk⟩ := hR e w' hr
 exact hk
theorem y_bsPut (x : Operand) {v0 v1 : Value} (ho : o.op = .buildSlice 35 1 #[(0, x)]) (hx : ρ x = .agg #[v0, v1]) (k0 : v0.oneCell' = true) (k1 : v1.oneCell' = true) (W : World) : Runs Tryz.prog ρ o W (.slice (some ⟨W.heap.size, 0, none⟩) 1 1) (W.alloc (.cells #[v0, v1] 45)) := by
 constructor
 have c0 := one_cells k0; have c1 := one_cells k1;
 simp only [Value.cells] at c0 c1
 unfold execOp
 simp only [ho, hx]
 go_simp
theorem w_ststring (x y : Operand) {a : Act} {w : World} {K : Act -> World -> Prop} {Q : Exit -> Act -> World -> Prop} {ad : Addr} {v u : Value} (ho : o.op = .store 9 x y) (hd : o.dst = none) (hx : a.eval x = .pointer (some ad)) (hy : a.eval y = v) (hv : v.oneCell' = true) (hc : w.cell? ad = some u) (hf : w.frozen? ad = false)
  (h : ∀ z, K (a.put o.dst z) (w.setCell ad v)) : Oper.wp Tryz.prog o a w K Q := by
 have hr := fun m => run_store Tryz.prog w ad v m hv
 have c := one_cells hv
 simp only [Value.cells] at c
 have h' : K a (w.setCell ad v) := by have := h undef; rw [hd] at this; exact this
 unfold Oper.wp execOp
 simp only [ho, hx, hy]
 go_simp
 exact h'
theorem w_stSPend (x y : Operand) {a : Act} {w : World} {K : Act -> World -> Prop} {Q : Exit -> Act -> World -> Prop} {ad : Addr} {v u : Value} (ho : o.op = .store 25 x y) (hd : o.dst = none) (hx : a.eval x = .pointer (some ad)) (hy : a.eval y = v) (hv : v.oneCell' = true) (hc : w.cell? ad = some u) (hf : w.frozen? ad = false)
  (h : ∀ z, K (a.put o.dst z) (w.setCell ad v)) : Oper.wp Tryz.prog o a w K Q := by
 have hr := fun m => run_store Tryz.prog w ad v m hv
 have c := one_cells hv
 simp only [Value.cells] at c
 have h' : K a (w.setCell ad v) := by have := h undef; rw [hd] at this; exact this
 unfold Oper.wp execOp
 simp only [ho, hx, hy]
 go_simp
 exact h'
theorem w_stSPut (x y : Operand) {a : Act} {w : World} {K : Act -> World -> Prop} {Q : Exit -> Act -> World -> Prop} {ad : Addr} {v u : Value} (ho : o.op = .store 35 x y) (hd : o.dst = none) (hx : a.eval x = .pointer (some ad)) (hy : a.eval y = v) (hv : v.oneCell' = true) (hc : w.cell? ad = some u) (hf : w.frozen? ad = false)
  (h : ∀ z, K (a.put o.dst z) (w.setCell ad v)) : Oper.wp Tryz.prog o a w K Q := by
 have hr := fun m => run_store Tryz.prog w ad v m hv
 have c := one_cells hv
 simp only [Value.cells] at c
 have h' : K a (w.setCell ad v) := by have := h undef; rw [hd] at this; exact this
 unfold Oper.wp execOp
 simp only [ho, hx, hy]
 go_simp
 exact h'
theorem w_stSInt (x y : Operand) {a : Act} {w : World} {K : Act -> World -> Prop} {Q : Exit -> Act -> World -> Prop} {ad : Addr} {v u : Value} (ho : o.op = .store 34 x y) (hd : o.dst = none) (hx : a.eval x = .pointer (some ad)) (hy : a.eval y = v) (hv : v.oneCell' = true) (hc : w.cell? ad = some u) (hf : w.frozen? ad = false)
  (h : ∀ z, K (a.put o.dst z) (w.setCell ad v)) : Oper.wp Tryz.prog o a w K Q := by
 have hr := fun m => run_store Tryz.prog w ad v m hv
 have c := one_cells hv
 simp only [Value.cells] at c
 have h' : K a (w.setCell ad v) := by have := h undef; rw [hd] at this; exact this
 unfold Oper.wp execOp
 simp only [ho, hx, hy]
 go_simp
 exact h'
end
end Go.Proofs.YtelaljoebdpicaaGreat
