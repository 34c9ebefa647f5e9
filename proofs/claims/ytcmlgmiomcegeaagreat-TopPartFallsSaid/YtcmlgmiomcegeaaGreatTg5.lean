/- The texts Hat, HatP, Sof, one behind the other. No condition. -/
import Derived.Test.YtcmlgmiomcegeaaGreatTg1
import Derived.Conc.LoneSelect
import Derived.Laws.Rows
import Derived.Laws.Runes
import Derived.Laws.Tables
import Derived.Maps.RangeRun
namespace Go.Proofs.YtcmlgmiomcegeaaGreat
open Go Go.Conc Go.RowKit
set_option linter.unusedVariables false
set_option linter.unusedSimpArgs false
set_option maxRecDepth 100000 in
theorem puts_room (h x : Value) (c cap s r : Nat) (buf : Array Value) (w : World) (hc : w.heap[c]? = some (.chan cap buf false s r false)) (hroom : buf.size < cap) :
    Calls Tryz.prog 485 #[h, .chan (some c), x] w fun e w' => e = .returned (.bool true) ∧ w' = w.setChan c cap (buf.push x) false (s + 1) r false := by
  refine calls_of_loneTo fun cs => ?_
  have e : Frame.enter Tryz.prog 485 #[h, .chan (some c), x] .normal = (base 485).at ⟨#[h, .chan (some c), x, undef, undef, undef, undef, undef, undef, undef, undef, undef, undef, undef, undef, undef, undef, undef, undef], []⟩ [.code (Tryz.f485.body.getD .skip)] := by
    simp [Frame.enter, Frame.at, Tryz.func485, base, Tryz.f485]
  rw [e]
  refine LoneTo.goes (n := 40) ?_
  simp only [Tryz.f485, Option.getD_some]
  s_c stepG_seq
  s_reg
  s_op
  s_c stepG_region_end
  s_c stepG_seq
  s_c stepG_seq
  s_reg
  s_op
  s_c stepG_region_end
  s_reg
  s_op
  s_c stepG_region_end
  s_c stepG_seq
  s_reg
  s_stop
  refine LoneTo.step (step_lone_select_send_room (c := c) (cap := cap) (buf := buf) (s := s) (r := r) (tm := false) (stepG_comm (cases := #[scase c x (.string ⟨#[]⟩)]) (blocking := false) (shape := .select) (w' := w) rfl rfl (by decide) (by simp [go_sem, execOp, scase, Act.eval])) hc hroom) ?_
  rw [Frame.finish_at]
  walk_nrm
  refine LoneTo.goes (n := 20) ?_
  s_op
  s_op
  s_c stepG_region_end
  s_c stepG_block
  s_cond true
  s_c stepG_seq
  s_reg
  s_op
  s_c stepG_region_end
  s_c stepG_ret'
  s_stop
  exact LoneTo.done ⟨.returned (.bool true), _, rfl, ⟨rfl, rfl⟩, rfl, rfl, rfl, rfl, _, Tryz.func485, by simp [results, Tryz.f485, Frame.at]⟩
set_option maxRecDepth 100000 in
theorem puts_full (hb ho : Nat) (n : Int) (x : Value) (c cap s r : Nat) (buf : Array Value) (w : World) (hc : w.heap[c]? = some (.chan cap buf false s r false)) (hfull : cap ≤ buf.size) (hn : w.cell? ⟨hb, ho + 2, none⟩ = some (.int .i64 n)) (hz : w.frozen? ⟨hb, ho + 2, none⟩ = false) (h0 : 0 ≤ n) (h1 : n < 1000000) :
    Calls Tryz.prog 485 #[.pointer (some ⟨hb, ho, none⟩), .chan (some c), x] w fun e w' => e = .returned (.bool false) ∧ w' = w.setCell ⟨hb, ho + 2, none⟩ (.int .i64 (n + 1)) := by
  have hw : IntKind.i64.wrap (n + 1) = n + 1 := by rw [IntKind.wrap_i64]; omega
  refine calls_of_loneTo fun cs => ?_
  have e : Frame.enter Tryz.prog 485 #[.pointer (some ⟨hb, ho, none⟩), .chan (some c), x] .normal = (base 485).at ⟨#[.pointer (some ⟨hb, ho, none⟩), .chan (some c), x, undef, undef, undef, undef, undef, undef, undef, undef, undef, undef, undef, undef, undef, undef, undef, undef], []⟩ [.code (Tryz.f485.body.getD .skip)] := by
    simp [Frame.enter, Frame.at, Tryz.func485, base, Tryz.f485]
  rw [e]
  refine LoneTo.goes (n := 40) ?_
  simp only [Tryz.f485, Option.getD_some]
  s_c stepG_seq
  s_reg
  s_op
  s_c stepG_region_end
  s_c stepG_seq
  s_c stepG_seq
  s_reg
  s_op
  s_c stepG_region_end
  s_reg
  s_op
  s_c stepG_region_end
  s_c stepG_seq
  s_reg
  s_stop
  refine LoneTo.step (step_lone_select_send_full (c := c) (cap := cap) (buf := buf) (s := s) (r := r) (tm := false) (stepG_comm (cases := #[scase c x (.string ⟨#[]⟩)]) (blocking := false) (shape := .select) (w' := w) rfl rfl (by decide) (by simp [go_sem, execOp, scase, Act.eval])) hc hfull) ?_
  rw [Frame.finish_at]
  walk_nrm
  refine LoneTo.goes (n := 30) ?_
  s_op
  s_op
  s_c stepG_region_end
  s_c stepG_block
  s_cond false
  s_c stepG_seq
  s_reg
  s_op
  s_op
  s_op
  s_op
  s_op
  s_op
  s_op
  s_op
  s_c stepG_region_end
  s_c stepG_seq
  s_reg
  s_op
  s_c stepG_region_end
  s_c stepG_ret'
  s_stop
  exact LoneTo.done ⟨.returned (.bool false), _, rfl, ⟨rfl, rfl⟩, rfl, rfl, rfl, rfl, _, Tryz.func485, by simp [results, Tryz.f485, Frame.at]⟩
set_option maxRecDepth 100000 in
theorem takes_fast (hb ho c d capc sc rc capd sd rd : Nat) (bc bd : List Value) (w : World) (hf : w.cell? ⟨hb, ho, none⟩ = some (.chan (some c))) (hs : w.cell? ⟨hb, ho + 1, none⟩ = some (.chan (some d))) (hc : w.heap[c]? = some (.chan capc bc.toArray false sc rc false)) (hd : w.heap[d]? = some (.chan capd bd.toArray false sd rd false)) (v : Value) (vs : List Value) (hv : bc = v :: vs) :
    Calls Tryz.prog 457 #[.pointer (some ⟨hb, ho, none⟩)] w fun e w' => e = .returned (.tuple #[v, .bool true]) ∧ w' = w.setChan c capc vs.toArray false sc (rc + 1) false := by
  subst hv
  refine calls_of_loneTo fun cs => ?_
  have e : Frame.enter Tryz.prog 457 #[.pointer (some ⟨hb, ho, none⟩)] .normal = (base 457).at ⟨#[.pointer (some ⟨hb, ho, none⟩), undef, undef, undef, undef, undef, undef, undef, undef, undef, undef, undef, undef, undef, undef, undef, undef, undef, undef, undef, undef, undef, undef, undef, undef, undef, undef, undef, undef], []⟩ [.code (Tryz.f457.body.getD .skip)] := by
    simp [Frame.enter, Frame.at, Tryz.func457, base, Tryz.f457]
  rw [e]
  refine LoneTo.goes (n := 40) ?_
  simp only [Tryz.f457, Option.getD_some]
  s_c stepG_seq
  s_reg
  s_op
  s_op
  s_c stepG_region_end
  s_c stepG_seq
  s_reg
  s_op
  s_c stepG_region_end
  s_c stepG_seq
  s_c stepG_seq
  s_reg
  s_op
  s_op
  s_c stepG_region_end
  s_cond false
  s_c stepG_skip
  s_c stepG_seq
  s_c stepG_seq
  s_reg
  s_op
  s_op
  s_op
  s_op
  s_c stepG_region_end
  s_c stepG_seq
  s_reg
  s_stop
  refine LoneTo.step (step_lone_select_recv_buf (c := c) (cap := capc) (buf := (v :: vs).toArray) (closed := false) (s := sc) (r := rc) (tm := false) (stepG_comm (cases := #[rcase c (.string ⟨#[]⟩)]) (blocking := false) (shape := .select) (w' := w) rfl rfl (by decide) (by simp [go_sem, execOp, rcase, Act.eval])) hc (by simp)) ?_
  rw [Frame.finish_at]
  walk_nrm
  refine LoneTo.goes (n := 30) ?_
  s_op
  s_op
  s_c stepG_region_end
  s_c stepG_block
  s_cond true
  s_c stepG_seq
  s_reg
  s_op
  s_op
  s_c stepG_region_end
  s_c stepG_seq
  s_reg
  s_op
  s_op
  s_op
  s_c stepG_region_end
  s_c stepG_ret'
  s_stop
  exact LoneTo.done ⟨.returned (.tuple #[v, .bool true]), _, rfl, ⟨rfl, (by simp)⟩, rfl, rfl, rfl, rfl, _, Tryz.func457, by simp [results, Tryz.f457, Frame.at]⟩
set_option maxRecDepth 100000 in
theorem takes_slow (hb ho c d capc sc rc capd sd rd : Nat) (bc bd : List Value) (w : World) (hf : w.cell? ⟨hb, ho, none⟩ = some (.chan (some c))) (hs : w.cell? ⟨hb, ho + 1, none⟩ = some (.chan (some d))) (hc : w.heap[c]? = some (.chan capc bc.toArray false sc rc false)) (hd : w.heap[d]? = some (.chan capd bd.toArray false sd rd false)) (v : Value) (vs : List Value) (hb0 : bc = []) (hv : bd = v :: vs) :
    Calls Tryz.prog 457 #[.pointer (some ⟨hb, ho, none⟩)] w fun e w' => e = .returned (.tuple #[v, .bool true]) ∧ w' = w.setChan d capd vs.toArray false sd (rd + 1) false := by
  subst hb0; subst hv
  refine calls_of_loneTo fun cs => ?_
  have e : Frame.enter Tryz.prog 457 #[.pointer (some ⟨hb, ho, none⟩)] .normal = (base 457).at ⟨#[.pointer (some ⟨hb, ho, none⟩), undef, undef, undef, undef, undef, undef, undef, undef, undef, undef, undef, undef, undef, undef, undef, undef, undef, undef, undef, undef, undef, undef, undef, undef, undef, undef, undef, undef], []⟩ [.code (Tryz.f457.body.getD .skip)] := by
    simp [Frame.enter, Frame.at, Tryz.func457, base, Tryz.f457]
  rw [e]
  refine LoneTo.goes (n := 40) ?_
  simp only [Tryz.f457, Option.getD_some]
  s_c stepG_seq
  s_reg
  s_op
  s_op
  s_c stepG_region_end
  s_c stepG_seq
  s_reg
  s_op
  s_c stepG_region_end
  s_c stepG_seq
  s_c stepG_seq
  s_reg
  s_op
  s_op
  s_c stepG_region_end
  s_cond false
  s_c stepG_skip
  s_c stepG_seq
  s_c stepG_seq
  s_reg
  s_op
  s_op
  s_op
  s_op
  s_c stepG_region_end
  s_c stepG_seq
  s_reg
  s_stop
  refine LoneTo.step (step_lone_select_default (c := c) (cap := capc) (s := sc) (r := rc) (tm := false) (z := .string ⟨#[]⟩) (stepG_comm (cases := #[rcase c (.string ⟨#[]⟩)]) (blocking := false) (shape := .select) (w' := w) rfl rfl (by decide) (by simp [go_sem, execOp, rcase, Act.eval])) hc) ?_
  rw [Frame.finish_at]
  walk_nrm
  refine LoneTo.goes (n := 30) ?_
  s_op
  s_op
  s_c stepG_region_end
  s_c stepG_block
  s_cond false
  s_c stepG_skip
  s_c stepG_inBlock
  s_c stepG_seq
  s_reg
  s_op
  s_op
  s_op
  s_op
  s_c stepG_region_end
  s_c stepG_seq
  s_reg
  s_stop
  refine LoneTo.step (step_lone_select_recv_buf (c := d) (cap := capd) (buf := (v :: vs).toArray) (closed := false) (s := sd) (r := rd) (tm := false) (stepG_comm (cases := #[rcase d (.string ⟨#[]⟩)]) (blocking := false) (shape := .select) (w' := w) rfl rfl (by decide) (by simp [go_sem, execOp, rcase, Act.eval])) hd (by simp)) ?_
  rw [Frame.finish_at]
  walk_nrm
  refine LoneTo.goes (n := 30) ?_
  s_op
  s_op
  s_c stepG_region_end
  s_c stepG_block
  s_cond true
  s_c stepG_seq
  s_reg
  s_op
  s_op
  s_c stepG_region_end
  s_c stepG_seq
  s_reg
  s_op
  s_op
  s_op
  s_c stepG_region_end
  s_c stepG_ret'
  s_stop
  exact LoneTo.done ⟨.returned (.tuple #[v, .bool true]), _, rfl, ⟨rfl, (by simp)⟩, rfl, rfl, rfl, rfl, _, Tryz.func457, by simp [results, Tryz.f457, Frame.at]⟩
set_option maxRecDepth 100000 in
theorem takes_none (hb ho c d capc sc rc capd sd rd : Nat) (bc bd : List Value) (w : World) (hf : w.cell? ⟨hb, ho, none⟩ = some (.chan (some c))) (hs : w.cell? ⟨hb, ho + 1, none⟩ = some (.chan (some d))) (hc : w.heap[c]? = some (.chan capc bc.toArray false sc rc false)) (hd : w.heap[d]? = some (.chan capd bd.toArray false sd rd false)) (hb0 : bc = []) (hv : bd = []) :
    Calls Tryz.prog 457 #[.pointer (some ⟨hb, ho, none⟩)] w fun e w' => e = .returned (.tuple #[.string ⟨#[]⟩, .bool false]) ∧ w' = w := by
  subst hb0; subst hv
  refine calls_of_loneTo fun cs => ?_
  have e : Frame.enter Tryz.prog 457 #[.pointer (some ⟨hb, ho, none⟩)] .normal = (base 457).at ⟨#[.pointer (some ⟨hb, ho, none⟩), undef, undef, undef, undef, undef, undef, undef, undef, undef, undef, undef, undef, undef, undef, undef, undef, undef, undef, undef, undef, undef, undef, undef, undef, undef, undef, undef, undef], []⟩ [.code (Tryz.f457.body.getD .skip)] := by
    simp [Frame.enter, Frame.at, Tryz.func457, base, Tryz.f457]
  rw [e]
  refine LoneTo.goes (n := 40) ?_
  simp only [Tryz.f457, Option.getD_some]
  s_c stepG_seq
  s_reg
  s_op
  s_op
  s_c stepG_region_end
  s_c stepG_seq
  s_reg
  s_op
  s_c stepG_region_end
  s_c stepG_seq
  s_c stepG_seq
  s_reg
  s_op
  s_op
  s_c stepG_region_end
  s_cond false
  s_c stepG_skip
  s_c stepG_seq
  s_c stepG_seq
  s_reg
  s_op
  s_op
  s_op
  s_op
  s_c stepG_region_end
  s_c stepG_seq
  s_reg
  s_stop
  refine LoneTo.step (step_lone_select_default (c := c) (cap := capc) (s := sc) (r := rc) (tm := false) (z := .string ⟨#[]⟩) (stepG_comm (cases := #[rcase c (.string ⟨#[]⟩)]) (blocking := false) (shape := .select) (w' := w) rfl rfl (by decide) (by simp [go_sem, execOp, rcase, Act.eval])) hc) ?_
  rw [Frame.finish_at]
  walk_nrm
  refine LoneTo.goes (n := 30) ?_
  s_op
  s_op
  s_c stepG_region_end
  s_c stepG_block
  s_cond false
  s_c stepG_skip
  s_c stepG_inBlock
  s_c stepG_seq
  s_reg
  s_op
  s_op
  s_op
  s_op
  s_c stepG_region_end
  s_c stepG_seq
  s_reg
  s_stop
  refine LoneTo.step (step_lone_select_default (c := d) (cap := capd) (s := sd) (r := rd) (tm := false) (z := .string ⟨#[]⟩) (stepG_comm (cases := #[rcase d (.string ⟨#[]⟩)]) (blocking := false) (shape := .select) (w' := w) rfl rfl (by decide) (by simp [go_sem, execOp, rcase, Act.eval])) hd) ?_
  rw [Frame.finish_at]
  walk_nrm
  refine LoneTo.goes (n := 30) ?_
  s_op
  s_op
  s_c stepG_region_end
  s_c stepG_block
  s_cond false
  s_c stepG_seq
  s_reg
  s_op
  s_op
  s_op
  s_c stepG_region_end
  s_c stepG_ret'
  s_stop
  exact LoneTo.done ⟨.returned (.tuple #[.string ⟨#[]⟩, .bool false]), _, rfl, ⟨rfl, rfl⟩, rfl, rfl, rfl, rfl, _, Tryz.func457, by simp [results, Tryz.f457, Frame.at]⟩
end Go.Proofs.YtcmlgmiomcegeaaGreat
namespace Go.Proofs.YtcmlgmiomcegeaaGreat
open Go Go.Conc Go.RowKit
set_option linter.unusedVariables false
set_option linter.unusedSimpArgs false
set_option maxRecDepth 100000 in
theorem putp_room (h x0 x1 x2 x3 x4 x5 : Value) (c cap s r : Nat) (buf : Array Value) (w : World) (hc : w.heap[c]? = some (.chan cap buf false s r false)) (hroom : buf.size < cap) :
    Calls Tryz.prog 240 #[h, .chan (some c), .agg #[x0, x1, x2, x3, x4, x5]] w fun e w' => e = .returned (.bool true) ∧ w' = (w.alloc (.cells #[x0, x1, x2, x3, x4, x5] 88)).setChan c cap (buf.push (.agg #[x0, x1, x2, x3, x4, x5])) false (s + 1) r false := by
  have hc' : (w.alloc (.cells #[x0, x1, x2, x3, x4, x5] 88)).heap[c]? = some (.chan cap buf false s r false) := by rw [heap_alloc_old w _ (Array.getElem?_eq_some_iff.1 hc).1]; exact hc
  refine calls_of_loneTo fun cs => ?_
  have e : Frame.enter Tryz.prog 240 #[h, .chan (some c), .agg #[x0, x1, x2, x3, x4, x5]] .normal = (base 240).at ⟨#[h, .chan (some c), .agg #[x0, x1, x2, x3, x4, x5], undef, undef, undef, undef, undef, undef, undef, undef, undef, undef, undef, undef, undef, undef, undef, undef], []⟩ [.code (Tryz.f240.body.getD .skip)] := by
    simp [Frame.enter, Frame.at, Tryz.func240, base, Tryz.f240]
  rw [e]
  refine LoneTo.goes (n := 40) ?_
  simp only [Tryz.f240, Option.getD_some]
  s_c stepG_seq
  s_reg
  s_op
  s_op
  s_c stepG_region_end
  s_c stepG_seq
  s_c stepG_seq
  s_reg
  s_op
  s_c stepG_region_end
  s_reg
  s_op
  s_c stepG_region_end
  s_c stepG_seq
  s_reg
  s_stop
  refine LoneTo.step (step_lone_select_send_room (c := c) (cap := cap) (buf := buf) (s := s) (r := r) (tm := false) (stepG_comm (cases := #[scase c (.agg #[x0, x1, x2, x3, x4, x5]) (.agg #[.int .i64 0, .int .i64 0, .int .i64 0, .int .i64 0, .int .i64 0, .bool false])]) (blocking := false) (shape := .select) (w' := w.alloc (.cells #[x0, x1, x2, x3, x4, x5] 88)) rfl rfl (by decide) (by simp [go_sem, execOp, scase, Act.eval])) hc' hroom) ?_
  rw [Frame.finish_at]
  walk_nrm
  refine LoneTo.goes (n := 20) ?_
  s_op
  s_op
  s_c stepG_region_end
  s_c stepG_block
  s_cond true
  s_c stepG_seq
  s_reg
  s_op
  s_c stepG_region_end
  s_c stepG_ret'
  s_stop
  exact LoneTo.done ⟨.returned (.bool true), _, rfl, ⟨rfl, rfl⟩, rfl, rfl, rfl, rfl, _, Tryz.func240, by simp [results, Tryz.f240, Frame.at]⟩
theorem size6 (W : World) : (sizeOf 88).run Tryz.prog W = .ok 6 W := Tryz.sizeOf88 W
theorem agg6 (W : World) : (isAgg 88).run Tryz.prog W = .ok true W := by
  unfold isAgg
  rw [Sem.run_bind, run_underlying Tryz.underlying88 W]; rfl
theorem up_store6 {o : Oper} {a : Act} {K : Act → World → Prop} {x y : Operand} {b : Nat} {cur xs : List Value} {W : World} {ty : TypeId} (hop : o.op = .store 88 x y) (hx : a.eval x = .pointer (some ⟨b, 0, none⟩)) (hy : a.eval y = .agg xs.toArray) (h6 : xs.length = 6) (h1 : ∀ u ∈ xs, u.oneCell' = true) (hb : W.heap[b]? = some (.cells cur.toArray ty (0, 0))) (hc6 : cur.length = 6) (hK : K (a.put o.dst undef) (W.setRow b xs.toArray)) : uponK o a K ((execOp a.eval o).run Tryz.prog W) := by
  have hst := run_storeCells_at Tryz.prog b 0 ty xs 0 cur.toArray W hb (by simp; omega) h1
  simp only [Nat.add_zero, List.take_zero, List.nil_append, Nat.zero_add] at hst
  have hd : cur.drop xs.length = [] := by rw [List.drop_eq_nil_iff]; omega
  simp only [hd, List.append_nil] at hst
  have hr : (execOp a.eval o).run Tryz.prog W = .ok .skip (W.setRow b xs.toArray) := by
    unfold execOp; rw [hop]
    simp [hx, hy, Instr.storeAt, Instr.sureAddr, storeVar, size6, Value.cells, h6, hst]
  rw [hr]
  exact hK
theorem load6 {b : Nat} {xs : List Value} {W : World} {ty : TypeId} {fr : Nat × Nat} (h6 : xs.length = 6) (hb : W.heap[b]? = some (.cells xs.toArray ty fr)) : (loadVar 88 ⟨b, 0, none⟩).run Tryz.prog W = .ok (.agg xs.toArray) W := by
  have hl := run_loadCells_list (P := Tryz.prog) W ⟨b, 0, none⟩ xs (fun j v hj => by rw [addr_add, Nat.zero_add, cell_of_row W _ _ xs.toArray ty fr hb]; simpa using hj)
  rw [h6] at hl
  simp [loadVar, agg6, size6, hl]
theorem up_load6 {o : Oper} {a : Act} {K : Act → World → Prop} {x : Operand} {b : Nat} {xs : List Value} {W : World} {ty : TypeId} {fr : Nat × Nat} (hop : o.op = .load 88 x) (hx : a.eval x = .pointer (some ⟨b, 0, none⟩)) (h6 : xs.length = 6) (hb : W.heap[b]? = some (.cells xs.toArray ty fr)) (hK : K (a.put o.dst (.agg xs.toArray)) W) : uponK o a K ((execOp a.eval o).run Tryz.prog W) := by
  have hl := run_loadCells_list (P := Tryz.prog) W ⟨b, 0, none⟩ xs (fun j v hj => by rw [addr_add, Nat.zero_add, cell_of_row W _ _ xs.toArray ty fr hb]; simpa using hj)
  rw [h6] at hl
  have hr : (execOp a.eval o).run Tryz.prog W = .ok (.value (.agg xs.toArray)) W := by
    unfold execOp; rw [hop]
    simp [hx, Instr.loadAt, Instr.sureAddr, loadVar, agg6, size6, hl]
  rw [hr]
  exact hK
set_option maxRecDepth 100000 in
theorem takep_fast (hb ho c d capc sc rc capd sd rd : Nat) (bc bd : List Value) (w : World) (hf : w.cell? ⟨hb, ho, none⟩ = some (.chan (some c))) (hs : w.cell? ⟨hb, ho + 1, none⟩ = some (.chan (some d))) (hc : w.heap[c]? = some (.chan capc bc.toArray false sc rc false)) (hd : w.heap[d]? = some (.chan capd bd.toArray false sd rd false)) (x0 x1 x2 x3 x4 x5 : Value) (vs : List Value) (hv : bc = .agg #[x0, x1, x2, x3, x4, x5] :: vs) (h1 : ∀ u ∈ [x0, x1, x2, x3, x4, x5], u.oneCell' = true) :
    Calls Tryz.prog 131 #[.pointer (some ⟨hb, ho, none⟩)] w fun e w' => e = .returned (.tuple #[.agg #[x0, x1, x2, x3, x4, x5], .bool true]) ∧ w'.heap[c]? = some (.chan capc vs.toArray false sc (rc + 1) false) ∧ Tch (fun k => k = c) w w' := by
  obtain ⟨W2, hW2⟩ : ∃ x, ((w.alloc (.cells #[.int .i64 0, .int .i64 0, .int .i64 0, .int .i64 0, .int .i64 0, .bool false] 88)).alloc (.cells #[.int .i64 0, .int .i64 0, .int .i64 0, .int .i64 0, .int .i64 0, .bool false] 88)) = x := ⟨_, rfl⟩
  have hsz : W2.heap.size = w.heap.size + 2 := by rw [← hW2]; simp
  have tW : Tch No w W2 := by rw [← hW2]; exact (Tch.alloc _ _).trans0 (Tch.alloc _ _)
  have hb2 : W2.heap[w.heap.size]? = some (.cells [Value.int .i64 0, .int .i64 0, .int .i64 0, .int .i64 0, .int .i64 0, .bool false].toArray 88 (0, 0)) := by
    rw [← hW2, heap_alloc_old _ _ (by simp)]; exact heap_alloc_new w _
  have hb4 : W2.heap[w.heap.size + 1]? = some (.cells [Value.int .i64 0, .int .i64 0, .int .i64 0, .int .i64 0, .int .i64 0, .bool false].toArray 88 (0, 0)) := by
    rw [← hW2]
    have := heap_alloc_new (w.alloc (.cells #[.int .i64 0, .int .i64 0, .int .i64 0, .int .i64 0, .int .i64 0, .bool false] 88)) (.cells #[.int .i64 0, .int .i64 0, .int .i64 0, .int .i64 0, .int .i64 0, .bool false] 88)
    rw [World.size_alloc] at this; exact this
  have hlt : c < w.heap.size := (Array.getElem?_eq_some_iff.1 hc).1
  have hltd : d < w.heap.size := (Array.getElem?_eq_some_iff.1 hd).1
  have hf2 := tW.cell hf (fun h => h)
  have hs2 := tW.cell hs (fun h => h)
  have hc2 : W2.heap[c]? = some (.chan capc bc.toArray false sc rc false) := by rw [tW.block _ hlt (fun h => h)]; exact hc
  have hd2 : W2.heap[d]? = some (.chan capd bd.toArray false sd rd false) := by rw [tW.block _ hltd (fun h => h)]; exact hd
  subst hv
  refine calls_of_loneTo fun cs => ?_
  have e : Frame.enter Tryz.prog 131 #[.pointer (some ⟨hb, ho, none⟩)] .normal = (base 131).at ⟨#[.pointer (some ⟨hb, ho, none⟩), undef, undef, undef, undef, undef, undef, undef, undef, undef, undef, undef, undef, undef, undef, undef, undef, undef, undef, undef, undef, undef, undef, undef, undef, undef, undef, undef, undef], []⟩ [.code (Tryz.f131.body.getD .skip)] := by
    simp [Frame.enter, Frame.at, Tryz.func131, base, Tryz.f131]
  rw [e]
  refine LoneTo.goes (n := 40) ?_
  simp only [Tryz.f131, Option.getD_some]
  s_c stepG_seq
  s_reg
  s_op
  s_op
  s_c stepG_region_end
  s_c stepG_seq
  s_reg
  s_op
  s_c stepG_region_end
  s_c stepG_seq
  s_c stepG_seq
  s_reg
  s_op
  s_op
  s_c stepG_region_end
  s_cond false
  s_c stepG_skip
  s_c stepG_seq
  s_c stepG_seq
  s_reg
  s_op
  s_op
  s_op
  s_op
  s_c stepG_region_end
  s_c stepG_seq
  s_reg
  s_stop
  refine LoneTo.step (step_lone_select_recv_buf (c := c) (cap := capc) (buf := (.agg #[x0, x1, x2, x3, x4, x5] :: vs).toArray) (closed := false) (s := sc) (r := rc) (tm := false) (stepG_comm (cases := #[rcase c (.agg #[.int .i64 0, .int .i64 0, .int .i64 0, .int .i64 0, .int .i64 0, .bool false])]) (blocking := false) (shape := .select) (w' := W2) rfl rfl (by decide) (by simp [go_sem, execOp, rcase, Act.eval])) hc2 (by simp)) ?_
  rw [Frame.finish_at]
  walk_nrm
  have hx : (.agg #[x0, x1, x2, x3, x4, x5] :: vs : List Value).toArray.extract 1 (vs.length + 1) = vs.toArray := by simp
  rw [hx]
  obtain ⟨W3, hW3⟩ : ∃ x, W2.setChan c capc vs.toArray false sc (rc + 1) false = x := ⟨_, rfl⟩
  rw [hW3]
  have s3 : W3.heap.size = W2.heap.size := by rw [← hW3]; simp [World.setChan]
  have o3 : ∀ k, k ≠ c → W3.heap[k]? = W2.heap[k]? := fun k hk => by rw [← hW3]; simp only [World.setChan]; exact Array.getElem?_setIfInBounds_ne (fun e => hk e.symm)
  have c3 : W3.heap[c]? = some (.chan capc vs.toArray false sc (rc + 1) false) := by rw [← hW3]; exact heap_setChan W2 c capc _ false sc _ false (by omega)
  have t3 : Tch (fun k => k = c) W2 W3 := by rw [← hW3]; exact ⟨rfl, rfl, rfl, by simp [World.setChan], fun k hk hn => by simp only [World.setChan]; exact Array.getElem?_setIfInBounds_ne (fun e => hn e.symm)⟩
  obtain ⟨W4, hW4⟩ : ∃ x, W3.alloc (.cells #[.int .i64 0, .int .i64 0, .int .i64 0, .int .i64 0, .int .i64 0, .bool false] 88) = x := ⟨_, rfl⟩
  have s4 : W4.heap.size = W3.heap.size + 1 := by rw [← hW4]; simp
  have n4 : W4.heap[W3.heap.size]? = some (.cells [Value.int .i64 0, .int .i64 0, .int .i64 0, .int .i64 0, .int .i64 0, .bool false].toArray 88 (0, 0)) := by rw [← hW4]; exact heap_alloc_new W3 _
  have o4 : ∀ k, k < W3.heap.size → W4.heap[k]? = W3.heap[k]? := fun k hk => by rw [← hW4]; exact heap_alloc_old W3 _ hk
  have t4 : Tch No W3 W4 := by rw [← hW4]; exact Tch.alloc _ _
  rw [s3, hsz] at n4 s4 o4
  clear hW3 hx
  refine LoneTo.goes (n := 30) ?_
  s_op
  s_op
  s_c stepG_region_end
  s_c stepG_block
  s_cond true
  s_c stepG_seq
  s_reg
  s_op
  s_op
  s_in
  refine goes_oper_k rfl rfl (by decide) (fun K hK => ?_)
  refine up_store6 (cur := [.int .i64 0, .int .i64 0, .int .i64 0, .int .i64 0, .int .i64 0, .bool false]) (xs := [x0, x1, x2, x3, x4, x5]) rfl rfl rfl rfl h1 n4 rfl ?_
  refine hK _ _ ⟨trivial, ?_⟩
  clear hK K
  have n5 : (W4.setRow (w.heap.size + 2) [x0, x1, x2, x3, x4, x5].toArray).heap[w.heap.size + 2]? = some (.cells [x0, x1, x2, x3, x4, x5].toArray 88 (0, 0)) := setRow_heap _ _ _ _ _ _ n4
  have m5 : (W4.setRow (w.heap.size + 2) [x0, x1, x2, x3, x4, x5].toArray).heap[w.heap.size]? = some (.cells [Value.int .i64 0, .int .i64 0, .int .i64 0, .int .i64 0, .int .i64 0, .bool false].toArray 88 (0, 0)) := by
    rw [setRow_other _ _ _ _ (by omega), o4 _ (by omega), o3 _ (by omega)]; exact hb2
  have c5 : (W4.setRow (w.heap.size + 2) [x0, x1, x2, x3, x4, x5].toArray).heap[c]? = some (.chan capc vs.toArray false sc (rc + 1) false) := by
    rw [setRow_other _ _ _ _ (by omega), o4 _ (by omega)]; exact c3
  have t5 : Tch (fun k => k = c) w (W4.setRow (w.heap.size + 2) [x0, x1, x2, x3, x4, x5].toArray) := by
    refine ((tW.no.trans t3 (fun _ _ h => h)).trans0 t4).trans (G := fun k => k = w.heap.size + 2) ⟨rfl, rfl, rfl, by simp, fun k hk hn => setRow_other _ _ _ _ hn⟩ (fun i hi h => by omega)
  generalize W4.setRow (w.heap.size + 2) [x0, x1, x2, x3, x4, x5].toArray = W5 at n5 m5 c5 t5 ⊢
  s_c stepG_region_end
  s_c stepG_seq
  s_reg
  s_in
  refine goes_oper_k rfl rfl (by decide) (fun K hK => ?_)
  refine up_load6 (xs := [x0, x1, x2, x3, x4, x5]) rfl rfl rfl n5 ?_
  refine hK _ _ ⟨trivial, ?_⟩
  clear hK K
  s_in
  refine goes_oper_k rfl rfl (by decide) (fun K hK => ?_)
  refine up_store6 (cur := [.int .i64 0, .int .i64 0, .int .i64 0, .int .i64 0, .int .i64 0, .bool false]) (xs := [x0, x1, x2, x3, x4, x5]) rfl rfl rfl rfl h1 m5 rfl ?_
  refine hK _ _ ⟨trivial, ?_⟩
  clear hK K
  have n6 : (W5.setRow w.heap.size [x0, x1, x2, x3, x4, x5].toArray).heap[w.heap.size]? = some (.cells [x0, x1, x2, x3, x4, x5].toArray 88 (0, 0)) := setRow_heap _ _ _ _ _ _ m5
  have c6 : (W5.setRow w.heap.size [x0, x1, x2, x3, x4, x5].toArray).heap[c]? = some (.chan capc vs.toArray false sc (rc + 1) false) := by
    rw [setRow_other _ _ _ _ (by omega)]; exact c5
  have t6 : Tch (fun k => k = c) w (W5.setRow w.heap.size [x0, x1, x2, x3, x4, x5].toArray) := by
    refine t5.trans (G := fun k => k = w.heap.size) ⟨rfl, rfl, rfl, by simp, fun k hk hn => setRow_other _ _ _ _ hn⟩ (fun i hi h => by omega)
  generalize W5.setRow w.heap.size [x0, x1, x2, x3, x4, x5].toArray = W6 at n6 c6 t6 ⊢
  s_op
  s_c stepG_region_end
  s_c stepG_ret'
  s_stop
  have L6 := load6 (xs := [x0, x1, x2, x3, x4, x5]) rfl n6
  exact LoneTo.done ⟨.returned (.tuple #[.agg #[x0, x1, x2, x3, x4, x5], .bool true]), _, rfl, ⟨rfl, c6, t6⟩, rfl, rfl, rfl, rfl, _, Tryz.func131, by simp [results, Tryz.f131, Frame.at, asAddr, L6]⟩
set_option maxRecDepth 100000 in
theorem takep_slow (hb ho c d capc sc rc capd sd rd : Nat) (bc bd : List Value) (w : World) (hf : w.cell? ⟨hb, ho, none⟩ = some (.chan (some c))) (hs : w.cell? ⟨hb, ho + 1, none⟩ = some (.chan (some d))) (hc : w.heap[c]? = some (.chan capc bc.toArray false sc rc false)) (hd : w.heap[d]? = some (.chan capd bd.toArray false sd rd false)) (x0 x1 x2 x3 x4 x5 : Value) (vs : List Value) (hb0 : bc = []) (hv : bd = .agg #[x0, x1, x2, x3, x4, x5] :: vs) (h1 : ∀ u ∈ [x0, x1, x2, x3, x4, x5], u.oneCell' = true) :
    Calls Tryz.prog 131 #[.pointer (some ⟨hb, ho, none⟩)] w fun e w' => e = .returned (.tuple #[.agg #[x0, x1, x2, x3, x4, x5], .bool true]) ∧ w'.heap[d]? = some (.chan capd vs.toArray false sd (rd + 1) false) ∧ Tch (fun k => k = d) w w' := by
  obtain ⟨W2, hW2⟩ : ∃ x, ((w.alloc (.cells #[.int .i64 0, .int .i64 0, .int .i64 0, .int .i64 0, .int .i64 0, .bool false] 88)).alloc (.cells #[.int .i64 0, .int .i64 0, .int .i64 0, .int .i64 0, .int .i64 0, .bool false] 88)) = x := ⟨_, rfl⟩
  have hsz : W2.heap.size = w.heap.size + 2 := by rw [← hW2]; simp
  have tW : Tch No w W2 := by rw [← hW2]; exact (Tch.alloc _ _).trans0 (Tch.alloc _ _)
  have hb2 : W2.heap[w.heap.size]? = some (.cells [Value.int .i64 0, .int .i64 0, .int .i64 0, .int .i64 0, .int .i64 0, .bool false].toArray 88 (0, 0)) := by
    rw [← hW2, heap_alloc_old _ _ (by simp)]; exact heap_alloc_new w _
  have hb4 : W2.heap[w.heap.size + 1]? = some (.cells [Value.int .i64 0, .int .i64 0, .int .i64 0, .int .i64 0, .int .i64 0, .bool false].toArray 88 (0, 0)) := by
    rw [← hW2]
    have := heap_alloc_new (w.alloc (.cells #[.int .i64 0, .int .i64 0, .int .i64 0, .int .i64 0, .int .i64 0, .bool false] 88)) (.cells #[.int .i64 0, .int .i64 0, .int .i64 0, .int .i64 0, .int .i64 0, .bool false] 88)
    rw [World.size_alloc] at this; exact this
  have hlt : c < w.heap.size := (Array.getElem?_eq_some_iff.1 hc).1
  have hltd : d < w.heap.size := (Array.getElem?_eq_some_iff.1 hd).1
  have hf2 := tW.cell hf (fun h => h)
  have hs2 := tW.cell hs (fun h => h)
  have hc2 : W2.heap[c]? = some (.chan capc bc.toArray false sc rc false) := by rw [tW.block _ hlt (fun h => h)]; exact hc
  have hd2 : W2.heap[d]? = some (.chan capd bd.toArray false sd rd false) := by rw [tW.block _ hltd (fun h => h)]; exact hd
  subst hb0
  subst hv
  refine calls_of_loneTo fun cs => ?_
  have e : Frame.enter Tryz.prog 131 #[.pointer (some ⟨hb, ho, none⟩)] .normal = (base 131).at ⟨#[.pointer (some ⟨hb, ho, none⟩), undef, undef, undef, undef, undef, undef, undef, undef, undef, undef, undef, undef, undef, undef, undef, undef, undef, undef, undef, undef, undef, undef, undef, undef, undef, undef, undef, undef], []⟩ [.code (Tryz.f131.body.getD .skip)] := by
    simp [Frame.enter, Frame.at, Tryz.func131, base, Tryz.f131]
  rw [e]
  refine LoneTo.goes (n := 40) ?_
  simp only [Tryz.f131, Option.getD_some]
  s_c stepG_seq
  s_reg
  s_op
  s_op
  s_c stepG_region_end
  s_c stepG_seq
  s_reg
  s_op
  s_c stepG_region_end
  s_c stepG_seq
  s_c stepG_seq
  s_reg
  s_op
  s_op
  s_c stepG_region_end
  s_cond false
  s_c stepG_skip
  s_c stepG_seq
  s_c stepG_seq
  s_reg
  s_op
  s_op
  s_op
  s_op
  s_c stepG_region_end
  s_c stepG_seq
  s_reg
  s_stop
  refine LoneTo.step (step_lone_select_default (c := c) (cap := capc) (s := sc) (r := rc) (tm := false) (z := .agg #[.int .i64 0, .int .i64 0, .int .i64 0, .int .i64 0, .int .i64 0, .bool false]) (stepG_comm (cases := #[rcase c (.agg #[.int .i64 0, .int .i64 0, .int .i64 0, .int .i64 0, .int .i64 0, .bool false])]) (blocking := false) (shape := .select) (w' := W2) rfl rfl (by decide) (by simp [go_sem, execOp, rcase, Act.eval])) hc2) ?_
  rw [Frame.finish_at]
  walk_nrm
  refine LoneTo.goes (n := 30) ?_
  s_op
  s_op
  s_c stepG_region_end
  s_c stepG_block
  s_cond false
  s_c stepG_skip
  s_c stepG_inBlock
  s_c stepG_seq
  s_reg
  s_op
  s_op
  s_op
  s_op
  s_c stepG_region_end
  s_c stepG_seq
  s_reg
  s_stop
  refine LoneTo.step (step_lone_select_recv_buf (c := d) (cap := capd) (buf := (.agg #[x0, x1, x2, x3, x4, x5] :: vs).toArray) (closed := false) (s := sd) (r := rd) (tm := false) (stepG_comm (cases := #[rcase d (.agg #[.int .i64 0, .int .i64 0, .int .i64 0, .int .i64 0, .int .i64 0, .bool false])]) (blocking := false) (shape := .select) (w' := W2) rfl rfl (by decide) (by simp [go_sem, execOp, rcase, Act.eval])) hd2 (by simp)) ?_
  rw [Frame.finish_at]
  walk_nrm
  have hx : (.agg #[x0, x1, x2, x3, x4, x5] :: vs : List Value).toArray.extract 1 (vs.length + 1) = vs.toArray := by simp
  rw [hx]
  obtain ⟨W3, hW3⟩ : ∃ x, W2.setChan d capd vs.toArray false sd (rd + 1) false = x := ⟨_, rfl⟩
  rw [hW3]
  have s3 : W3.heap.size = W2.heap.size := by rw [← hW3]; simp [World.setChan]
  have o3 : ∀ k, k ≠ d → W3.heap[k]? = W2.heap[k]? := fun k hk => by rw [← hW3]; simp only [World.setChan]; exact Array.getElem?_setIfInBounds_ne (fun e => hk e.symm)
  have c3 : W3.heap[d]? = some (.chan capd vs.toArray false sd (rd + 1) false) := by rw [← hW3]; exact heap_setChan W2 d capd _ false sd _ false (by omega)
  have t3 : Tch (fun k => k = d) W2 W3 := by rw [← hW3]; exact ⟨rfl, rfl, rfl, by simp [World.setChan], fun k hk hn => by simp only [World.setChan]; exact Array.getElem?_setIfInBounds_ne (fun e => hn e.symm)⟩
  obtain ⟨W4, hW4⟩ : ∃ x, W3.alloc (.cells #[.int .i64 0, .int .i64 0, .int .i64 0, .int .i64 0, .int .i64 0, .bool false] 88) = x := ⟨_, rfl⟩
  have s4 : W4.heap.size = W3.heap.size + 1 := by rw [← hW4]; simp
  have n4 : W4.heap[W3.heap.size]? = some (.cells [Value.int .i64 0, .int .i64 0, .int .i64 0, .int .i64 0, .int .i64 0, .bool false].toArray 88 (0, 0)) := by rw [← hW4]; exact heap_alloc_new W3 _
  have o4 : ∀ k, k < W3.heap.size → W4.heap[k]? = W3.heap[k]? := fun k hk => by rw [← hW4]; exact heap_alloc_old W3 _ hk
  have t4 : Tch No W3 W4 := by rw [← hW4]; exact Tch.alloc _ _
  rw [s3, hsz] at n4 s4 o4
  clear hW3 hx
  refine LoneTo.goes (n := 30) ?_
  s_op
  s_op
  s_c stepG_region_end
  s_c stepG_block
  s_cond true
  s_c stepG_seq
  s_reg
  s_op
  s_op
  s_in
  refine goes_oper_k rfl rfl (by decide) (fun K hK => ?_)
  refine up_store6 (cur := [.int .i64 0, .int .i64 0, .int .i64 0, .int .i64 0, .int .i64 0, .bool false]) (xs := [x0, x1, x2, x3, x4, x5]) rfl rfl rfl rfl h1 n4 rfl ?_
  refine hK _ _ ⟨trivial, ?_⟩
  clear hK K
  have n5 : (W4.setRow (w.heap.size + 2) [x0, x1, x2, x3, x4, x5].toArray).heap[w.heap.size + 2]? = some (.cells [x0, x1, x2, x3, x4, x5].toArray 88 (0, 0)) := setRow_heap _ _ _ _ _ _ n4
  have m5 : (W4.setRow (w.heap.size + 2) [x0, x1, x2, x3, x4, x5].toArray).heap[w.heap.size]? = some (.cells [Value.int .i64 0, .int .i64 0, .int .i64 0, .int .i64 0, .int .i64 0, .bool false].toArray 88 (0, 0)) := by
    rw [setRow_other _ _ _ _ (by omega), o4 _ (by omega), o3 _ (by omega)]; exact hb2
  have c5 : (W4.setRow (w.heap.size + 2) [x0, x1, x2, x3, x4, x5].toArray).heap[d]? = some (.chan capd vs.toArray false sd (rd + 1) false) := by
    rw [setRow_other _ _ _ _ (by omega), o4 _ (by omega)]; exact c3
  have t5 : Tch (fun k => k = d) w (W4.setRow (w.heap.size + 2) [x0, x1, x2, x3, x4, x5].toArray) := by
    refine ((tW.no.trans t3 (fun _ _ h => h)).trans0 t4).trans (G := fun k => k = w.heap.size + 2) ⟨rfl, rfl, rfl, by simp, fun k hk hn => setRow_other _ _ _ _ hn⟩ (fun i hi h => by omega)
  generalize W4.setRow (w.heap.size + 2) [x0, x1, x2, x3, x4, x5].toArray = W5 at n5 m5 c5 t5 ⊢
  s_c stepG_region_end
  s_c stepG_seq
  s_reg
  s_in
  refine goes_oper_k rfl rfl (by decide) (fun K hK => ?_)
  refine up_load6 (xs := [x0, x1, x2, x3, x4, x5]) rfl rfl rfl n5 ?_
  refine hK _ _ ⟨trivial, ?_⟩
  clear hK K
  s_in
  refine goes_oper_k rfl rfl (by decide) (fun K hK => ?_)
  refine up_store6 (cur := [.int .i64 0, .int .i64 0, .int .i64 0, .int .i64 0, .int .i64 0, .bool false]) (xs := [x0, x1, x2, x3, x4, x5]) rfl rfl rfl rfl h1 m5 rfl ?_
  refine hK _ _ ⟨trivial, ?_⟩
  clear hK K
  have n6 : (W5.setRow w.heap.size [x0, x1, x2, x3, x4, x5].toArray).heap[w.heap.size]? = some (.cells [x0, x1, x2, x3, x4, x5].toArray 88 (0, 0)) := setRow_heap _ _ _ _ _ _ m5
  have c6 : (W5.setRow w.heap.size [x0, x1, x2, x3, x4, x5].toArray).heap[d]? = some (.chan capd vs.toArray false sd (rd + 1) false) := by
    rw [setRow_other _ _ _ _ (by omega)]; exact c5
  have t6 : Tch (fun k => k = d) w (W5.setRow w.heap.size [x0, x1, x2, x3, x4, x5].toArray) := by
    refine t5.trans (G := fun k => k = w.heap.size) ⟨rfl, rfl, rfl, by simp, fun k hk hn => setRow_other _ _ _ _ hn⟩ (fun i hi h => by omega)
  generalize W5.setRow w.heap.size [x0, x1, x2, x3, x4, x5].toArray = W6 at n6 c6 t6 ⊢
  s_op
  s_c stepG_region_end
  s_c stepG_ret'
  s_stop
  have L6 := load6 (xs := [x0, x1, x2, x3, x4, x5]) rfl n6
  exact LoneTo.done ⟨.returned (.tuple #[.agg #[x0, x1, x2, x3, x4, x5], .bool true]), _, rfl, ⟨rfl, c6, t6⟩, rfl, rfl, rfl, rfl, _, Tryz.func131, by simp [results, Tryz.f131, Frame.at, asAddr, L6]⟩
set_option maxRecDepth 100000 in
theorem takep_none (hb ho c d capc sc rc capd sd rd : Nat) (bc bd : List Value) (w : World) (hf : w.cell? ⟨hb, ho, none⟩ = some (.chan (some c))) (hs : w.cell? ⟨hb, ho + 1, none⟩ = some (.chan (some d))) (hc : w.heap[c]? = some (.chan capc bc.toArray false sc rc false)) (hd : w.heap[d]? = some (.chan capd bd.toArray false sd rd false)) (hb0 : bc = []) (hv : bd = []) :
    Calls Tryz.prog 131 #[.pointer (some ⟨hb, ho, none⟩)] w fun e w' => e = .returned (.tuple #[.agg #[.int .i64 0, .int .i64 0, .int .i64 0, .int .i64 0, .int .i64 0, .bool false], .bool false]) ∧ Tch No w w' := by
  obtain ⟨W2, hW2⟩ : ∃ x, ((w.alloc (.cells #[.int .i64 0, .int .i64 0, .int .i64 0, .int .i64 0, .int .i64 0, .bool false] 88)).alloc (.cells #[.int .i64 0, .int .i64 0, .int .i64 0, .int .i64 0, .int .i64 0, .bool false] 88)) = x := ⟨_, rfl⟩
  have hsz : W2.heap.size = w.heap.size + 2 := by rw [← hW2]; simp
  have tW : Tch No w W2 := by rw [← hW2]; exact (Tch.alloc _ _).trans0 (Tch.alloc _ _)
  have hb2 : W2.heap[w.heap.size]? = some (.cells [Value.int .i64 0, .int .i64 0, .int .i64 0, .int .i64 0, .int .i64 0, .bool false].toArray 88 (0, 0)) := by
    rw [← hW2, heap_alloc_old _ _ (by simp)]; exact heap_alloc_new w _
  have hb4 : W2.heap[w.heap.size + 1]? = some (.cells [Value.int .i64 0, .int .i64 0, .int .i64 0, .int .i64 0, .int .i64 0, .bool false].toArray 88 (0, 0)) := by
    rw [← hW2]
    have := heap_alloc_new (w.alloc (.cells #[.int .i64 0, .int .i64 0, .int .i64 0, .int .i64 0, .int .i64 0, .bool false] 88)) (.cells #[.int .i64 0, .int .i64 0, .int .i64 0, .int .i64 0, .int .i64 0, .bool false] 88)
    rw [World.size_alloc] at this; exact this
  have hlt : c < w.heap.size := (Array.getElem?_eq_some_iff.1 hc).1
  have hltd : d < w.heap.size := (Array.getElem?_eq_some_iff.1 hd).1
  have hf2 := tW.cell hf (fun h => h)
  have hs2 := tW.cell hs (fun h => h)
  have hc2 : W2.heap[c]? = some (.chan capc bc.toArray false sc rc false) := by rw [tW.block _ hlt (fun h => h)]; exact hc
  have hd2 : W2.heap[d]? = some (.chan capd bd.toArray false sd rd false) := by rw [tW.block _ hltd (fun h => h)]; exact hd
  subst hb0
  subst hv
  refine calls_of_loneTo fun cs => ?_
  have e : Frame.enter Tryz.prog 131 #[.pointer (some ⟨hb, ho, none⟩)] .normal = (base 131).at ⟨#[.pointer (some ⟨hb, ho, none⟩), undef, undef, undef, undef, undef, undef, undef, undef, undef, undef, undef, undef, undef, undef, undef, undef, undef, undef, undef, undef, undef, undef, undef, undef, undef, undef, undef, undef], []⟩ [.code (Tryz.f131.body.getD .skip)] := by
    simp [Frame.enter, Frame.at, Tryz.func131, base, Tryz.f131]
  rw [e]
  refine LoneTo.goes (n := 40) ?_
  simp only [Tryz.f131, Option.getD_some]
  s_c stepG_seq
  s_reg
  s_op
  s_op
  s_c stepG_region_end
  s_c stepG_seq
  s_reg
  s_op
  s_c stepG_region_end
  s_c stepG_seq
  s_c stepG_seq
  s_reg
  s_op
  s_op
  s_c stepG_region_end
  s_cond false
  s_c stepG_skip
  s_c stepG_seq
  s_c stepG_seq
  s_reg
  s_op
  s_op
  s_op
  s_op
  s_c stepG_region_end
  s_c stepG_seq
  s_reg
  s_stop
  refine LoneTo.step (step_lone_select_default (c := c) (cap := capc) (s := sc) (r := rc) (tm := false) (z := .agg #[.int .i64 0, .int .i64 0, .int .i64 0, .int .i64 0, .int .i64 0, .bool false]) (stepG_comm (cases := #[rcase c (.agg #[.int .i64 0, .int .i64 0, .int .i64 0, .int .i64 0, .int .i64 0, .bool false])]) (blocking := false) (shape := .select) (w' := W2) rfl rfl (by decide) (by simp [go_sem, execOp, rcase, Act.eval])) hc2) ?_
  rw [Frame.finish_at]
  walk_nrm
  refine LoneTo.goes (n := 30) ?_
  s_op
  s_op
  s_c stepG_region_end
  s_c stepG_block
  s_cond false
  s_c stepG_skip
  s_c stepG_inBlock
  s_c stepG_seq
  s_reg
  s_op
  s_op
  s_op
  s_op
  s_c stepG_region_end
  s_c stepG_seq
  s_reg
  s_stop
  refine LoneTo.step (step_lone_select_default (c := d) (cap := capd) (s := sd) (r := rd) (tm := false) (z := .agg #[.int .i64 0, .int .i64 0, .int .i64 0, .int .i64 0, .int .i64 0, .bool false]) (stepG_comm (cases := #[rcase d (.agg #[.int .i64 0, .int .i64 0, .int .i64 0, .int .i64 0, .int .i64 0, .bool false])]) (blocking := false) (shape := .select) (w' := W2) rfl rfl (by decide) (by simp [go_sem, execOp, rcase, Act.eval])) hd2) ?_
  rw [Frame.finish_at]
  walk_nrm
  refine LoneTo.goes (n := 30) ?_
  s_op
  s_op
  s_c stepG_region_end
  s_c stepG_block
  s_cond false
  s_c stepG_seq
  s_reg
  s_in
  refine goes_oper_k rfl rfl (by decide) (fun K hK => ?_)
  refine up_load6 (xs := [.int .i64 0, .int .i64 0, .int .i64 0, .int .i64 0, .int .i64 0, .bool false]) rfl rfl rfl hb4 ?_
  refine hK _ _ ⟨trivial, ?_⟩
  clear hK K
  s_in
  refine goes_oper_k rfl rfl (by decide) (fun K hK => ?_)
  refine up_store6 (cur := [.int .i64 0, .int .i64 0, .int .i64 0, .int .i64 0, .int .i64 0, .bool false]) (xs := [.int .i64 0, .int .i64 0, .int .i64 0, .int .i64 0, .int .i64 0, .bool false]) rfl rfl rfl rfl (by simp; exact ⟨rfl, rfl⟩) hb2 rfl ?_
  refine hK _ _ ⟨trivial, ?_⟩
  clear hK K
  have n6 : (W2.setRow w.heap.size [Value.int .i64 0, .int .i64 0, .int .i64 0, .int .i64 0, .int .i64 0, .bool false].toArray).heap[w.heap.size]? = some (.cells [Value.int .i64 0, .int .i64 0, .int .i64 0, .int .i64 0, .int .i64 0, .bool false].toArray 88 (0, 0)) := setRow_heap _ _ _ _ _ _ hb2
  have t6 : Tch No w (W2.setRow w.heap.size [Value.int .i64 0, .int .i64 0, .int .i64 0, .int .i64 0, .int .i64 0, .bool false].toArray) := by
    refine tW.trans (G := fun k => k = w.heap.size) ⟨rfl, rfl, rfl, by simp, fun k hk hn => setRow_other _ _ _ _ hn⟩ (fun i hi h => by omega)
  generalize W2.setRow w.heap.size [Value.int .i64 0, .int .i64 0, .int .i64 0, .int .i64 0, .int .i64 0, .bool false].toArray = W6 at n6 t6 ⊢
  s_op
  s_c stepG_region_end
  s_c stepG_ret'
  s_stop
  have L6 := load6 (xs := [.int .i64 0, .int .i64 0, .int .i64 0, .int .i64 0, .int .i64 0, .bool false]) rfl n6
  exact LoneTo.done ⟨.returned (.tuple #[.agg #[.int .i64 0, .int .i64 0, .int .i64 0, .int .i64 0, .int .i64 0, .bool false], .bool false]), _, rfl, ⟨rfl, t6⟩, rfl, rfl, rfl, rfl, _, Tryz.func131, by simp [results, Tryz.f131, Frame.at, asAddr, L6]⟩
end Go.Proofs.YtcmlgmiomcegeaaGreat
namespace Go.Proofs.YtcmlgmiomcegeaaGreat
open Go Go.RowKit Go.Maps
open Go.ChangeMaps (setBlock)
set_option linter.unusedVariables false
set_option linter.unusedSimpArgs false

section
variable {P : Program} (w : World) {ops : Array Oper} {rest : List Oper} {o : Oper} {a : Act} {Q : Exit → Act → World → Prop}
theorem wpList_rangeM (hg : o.guard = none) (m : Operand) (t k e : TypeId) (hop : o.op = .range t m) (ht : P.underlying t = some (.map k e)) {b cl : Nat} {es : Array MapEntry} (hm : a.eval m = .map (some b)) (hb : w.heap[b]? = some (.map es cl))
    (hK : wpList P ops Q rest (a.put o.dst (.pointer (some ⟨w.heap.size, 0, none⟩))) (w.alloc (.mapIter (some b) cl #[] cl))) : wpList P ops Q (o :: rest) a w := by
  refine wpList_plain hg fun K' hK' => ?_
  unfold Oper.wp
  simp [execOp, hop, hm, Instr.range, run_underlying ht, getObj, newObj, Sem.run, hb, Result.andThen]
  exact hK' _ _ hK
theorem wpList_nextM (hg : o.guard = none) (it : Operand) (hop : o.op = .next it false) {r b cl : Nat} {seen : Array Nat} {es : Array MapEntry} (hit : a.eval it = .pointer (some ⟨r, 0, none⟩)) (hr : w.heap[r]? = some (.mapIter (some b) cl seen cl)) (hb : w.heap[b]? = some (.map es cl))
    (hold : ∀ x ∈ es.toList, x.born < cl) (hnd : (es.toList.map (·.born)).Nodup) (hne : b ≠ r)
    (hint : ∀ x ∈ es.toList, ∃ p q, x.key = .int .i64 p ∧ x.val = .int .i64 q)
    (hDone : (leftOf es seen).size = 0 → wpList P ops Q rest (a.put o.dst (.tuple #[.bool false])) w)
    (hMore : ∀ e ∈ (leftOf es seen).toList, ∀ p q w1, e.key = .int .i64 p → e.val = .int .i64 q → w1.heap[r]? = some (.mapIter (some b) cl (seen.push e.born) cl) → w1.heap[b]? = some (.map es cl) → Tch (fun k => k = r) w w1 →
      (Instr.entry (.pointer (some ⟨r, 0, none⟩))).run P w1 = .ok (.tuple #[.int .i64 p, .int .i64 q]) w1 → wpList P ops Q rest (a.put o.dst (.tuple #[.bool true, .int .i64 p, .int .i64 q])) w1) : wpList P ops Q (o :: rest) a w := by
  refine wpList_plain hg fun K' hK' => ?_
  unfold Oper.wp
  rcases run_next_at (P := P) w o.type r b cl cl seen es cl hr hb hold (Nat.le_refl _) with ⟨h0, hrun⟩ | ⟨e, he, w1, hal, hrun⟩
  · simp [execOp, hop, hit, hrun, Result.andThen]
    exact hK' _ _ (hDone h0)
  · have hem : e ∈ es.toList := by
      unfold leftOf at he
      simp at he ⊢
      exact he.1
    obtain ⟨p, q, hp, hq⟩ := hint e hem
    have hr1 : w1.heap[r]? = some (.mapIter (some b) cl seen cl) := by rcases hal with rfl | rfl <;> exact hr
    have hb1 : w1.heap[b]? = some (.map es cl) := by rcases hal with rfl | rfl <;> exact hb
    have hlt : r < w1.heap.size := (Array.getElem?_eq_some_iff.1 hr1).1
    have h1 : (setBlock w1 r (.mapIter (some b) cl (seen.push e.born) cl)).heap[r]? = some (.mapIter (some b) cl (seen.push e.born) cl) := by simp [setBlock, hlt]
    have h2 : (setBlock w1 r (.mapIter (some b) cl (seen.push e.born) cl)).heap[b]? = some (.map es cl) := by
      simp only [setBlock]
      rw [Array.getElem?_setIfInBounds_ne (fun e => hne e.symm)]; exact hb1
    have h3 : Tch (fun k => k = r) w (setBlock w1 r (.mapIter (some b) cl (seen.push e.born) cl)) := by
      rcases hal with rfl | rfl
      · exact ⟨rfl, rfl, rfl, by simp [setBlock], fun k hk hn => by simp only [setBlock]; rw [Array.getElem?_setIfInBounds_ne (fun e => hn e.symm)]⟩
      · exact ⟨rfl, rfl, rfl, by simp [setBlock], fun k hk hn => by simp only [setBlock]; rw [Array.getElem?_setIfInBounds_ne (fun e => hn e.symm)]; rfl⟩
    have h4 := run_entry_at (P := P) _ r b cl seen es cl e h1 h2 hem hnd
    rw [hp, hq] at h4 hrun
    simp [execOp, hop, hit, hrun, Result.andThen]
    exact hK' _ _ (hMore e he p q _ hp hq h1 h2 h3 h4)
end
theorem left_mem {es : Array MapEntry} {seen : Array Nat} {e : MapEntry} (h : e ∈ (leftOf es seen).toList) : e ∈ es.toList ∧ e.born ∉ seen := by
  unfold leftOf at h
  simp at h ⊢
  exact h
theorem left_none {es : Array MapEntry} {seen : Array Nat} (h : leftOf es seen = #[]) : ∀ e ∈ es.toList, e.born ∈ seen := fun e he => by
  unfold leftOf at h
  rw [Array.filter_eq_empty_iff] at h
  have := h e (by simpa using he)
  simpa using this
structure SofRel (w : World) (mb r cl : Nat) (es : Array MapEntry) (tid : Int) (seen : Array Nat) (wr : World) : Prop where
  it : wr.heap[r]? = some (.mapIter (some mb) cl seen cl)
  mp : wr.heap[mb]? = some (.map es cl)
  no : ∀ x ∈ es.toList, x.born ∈ seen → x.val ≠ .int .i64 tid
  t : Tch No w wr
def sofM (es : Array MapEntry) (r : Nat) (wr : World) : Nat := match wr.heap[r]? with | some (.mapIter _ _ seen _) => (leftOf es seen).size | _ => 0
theorem sofM_eq {es : Array MapEntry} {r mb cl : Nat} {seen : Array Nat} {wr : World} (h : wr.heap[r]? = some (.mapIter (some mb) cl seen cl)) : sofM es r wr = (leftOf es seen).size := by unfold sofM; rw [h]
set_option maxRecDepth 100000 in
set_option maxHeartbeats 4000000 in
theorem sof_any {w : World} {sb so mb cl : Nat} {es : Array MapEntry} {tid r : Int} (hs : w.cell? ⟨sb, so + 2, none⟩ = some (.map (some mb))) (hb : w.heap[mb]? = some (.map es cl)) (hint : ∀ x ∈ es.toList, ∃ p q, x.key = .int .i64 p ∧ x.val = .int .i64 q)
    (hold : ∀ x ∈ es.toList, x.born < cl) (hnd : (es.toList.map (·.born)).Nodup) (hyes : ∀ x ∈ es.toList, x.val = .int .i64 tid → x.key = .int .i64 r) (hno : (∀ x ∈ es.toList, x.val ≠ .int .i64 tid) → r = 0) (h0 : tid ≠ 0) :
    Calls Tryz.prog 120 #[.pointer (some ⟨sb, so, none⟩), .int .i64 tid] w fun e w' => e = .returned (.int .i64 r) ∧ Tch No w w' := by
  have hH := Lib.hid hint
  have hO := Lib.hid hold
  have hN := Lib.hid hnd
  have hY := Lib.hid hyes
  have hZ := Lib.hid hno
  have hB := Lib.hid hb
  have hmw : mb < w.heap.size := (Array.getElem?_eq_some_iff.1 hb).1
  clear hint hold hnd hyes hno
  go_enter Tryz.func120, Tryz.ntmps120
  go_wp2_with (first | (at_range; refine wpList_rangeM _ rfl _ 260 2 2 rfl Tryz.underlying260 rfl hB.out ?_))
  have R0 : Hid (SofRel w mb w.heap.size cl es tid #[] (w.alloc (.mapIter (some mb) cl #[] cl))) := by
    refine ⟨heap_alloc_new w _, ?_, fun x _ hx => by simp at hx, Tch.alloc _ _⟩
    exact blk_tch (Tch.alloc w _) hb (fun h => h)
  have hne : mb ≠ w.heap.size := by omega
  clear hs hb hB
  go_frame
  go_loopw [5] (fun _ wr => ∃ seen, Hid (SofRel w mb w.heap.size cl es tid seen wr)) (fun _ wr => sofM es w.heap.size wr)
  case atStart => exact ⟨_, R0⟩
  case round =>
    obtain ⟨seen, hR⟩ := hrel
    go_wp2_with (at_next; go_must (refine wpList_nextM _ rfl _ rfl rfl hR.out.it hR.out.mp hO.out hN.out hne hH.out ?_ ?_))
    · intro hdone
      have hr0 : Hid (r = 0) := hZ.out (fun x hx => hR.out.no x hx (left_none hdone x hx))
      clear hdone
      go_wp2
      go_ret
      exact ⟨by rw [hr0.out]; rfl, hR.out.t⟩
    · intro e he p q w1 hp hq h1 h2 h3 hen
      have he' : e ∈ (leftOf es seen).toList := by simpa using he
      obtain ⟨hem, hes⟩ := left_mem he'
      by_cases hqt : q = tid
      · subst hqt
        have hpr : Hid (r = p) := by
          have := hY.out e hem hq
          rw [hp] at this
          injection this with _ this
          exact this.symm
        go_wp2
        go_ret
        exact ⟨by rw [hpr.out]; rfl, hR.out.t.fresh h3 (fun i hi => by omega)⟩
      · go_wp2
        have hz : (tid == 0) = false := by simp [h0]
        refine ⟨⟨u4, _, _, _, _, _, _, _, _, _, _, _, ⟨seen.push e.born, ?_⟩, by rw [hz]⟩, ?_⟩
        · refine ⟨h1, h2, fun x hx hb => ?_, hR.out.t.fresh h3 (fun i hi => by omega)⟩
          rcases Array.mem_push.1 hb with hb | hb
          · exact hR.out.no x hx hb
          · have hxe : x = e := by
              have hnd := hN.out
              rw [List.nodup_iff_pairwise_ne, List.pairwise_map] at hnd
              by_cases hxe : x = e
              · exact hxe
              · exfalso
                rcases List.mem_iff_getElem.1 hx with ⟨i, hi, rfl⟩
                rcases List.mem_iff_getElem.1 hem with ⟨j, hj, hje⟩
                rw [List.pairwise_iff_getElem] at hnd
                rcases Nat.lt_trichotomy i j with hij | hij | hij
                · exact hnd i j hi hj hij (by rw [hje]; exact hb)
                · subst hij; exact hxe hje
                · exact hnd j i hj hi hij (by rw [hje]; exact hb.symm)
            subst hxe
            rw [hq]
            intro hc
            injection hc with _ hc
            exact hqt hc
        · rw [sofM_eq h1, sofM_eq hR.out.it]
          exact left_shrinks es seen e he'
end Go.Proofs.YtcmlgmiomcegeaaGreat
