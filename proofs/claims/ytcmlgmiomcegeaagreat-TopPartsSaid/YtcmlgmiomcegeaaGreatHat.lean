/- The lanes of a hatch: what is let in, what is taken. No condition. -/
import Derived.Test.YtcmlgmiomcegeaaGreatMem
import Derived.Conc.LoneSelect
import Derived.Laws.Rows
import Derived.Laws.Runes
import Derived.Laws.Tables
namespace Go.Proofs.YtcmlgmiomcegeaaGreat
open Go Go.Conc Go.RowKit
set_option linter.unusedVariables false
set_option linter.unusedSimpArgs false
set_option maxRecDepth 100000 in
theorem puts_room (h x : Value) (c cap s r : Nat) (buf : Array Value) (w : World) (hc : w.heap[c]? = some (.chan cap buf false s r false)) (hroom : buf.size < cap) :
    Calls Tryz.prog 485 #[h, .chan (some c), x] w fun e w' => e = .returned (.bool true) ∧ w' = w.setChan c cap (buf.push x) false (s + 1) r false := by
  refine calls_of_loneTo fun cs => ?_
  have e : Frame.enter Tryz.prog 485 #[h, .chan (some c), x] .normal = (base 485).at ⟨#[h, .chan (some c), x, undef, undef, undef, undef, undef, undef, undef, undef, undef, undef, undef, undef, undef, undef, undef, undef], []⟩ [.code (Tryz.f485.body.getD .skip)] := by
    simp [Frame.enter, Frame.at, Tryz.func485, base, Tryz.f485]
  rw [e]
  refine LoneTo.goes (n := 40) ?_
  simp only [Tryz.f485, Option.getD_some]
  s_c stepG_seq
  s_reg
  s_op
  s_c stepG_region_end
  s_c stepG_seq
  s_c stepG_seq
  s_reg
  s_op
  s_c stepG_region_end
  s_reg
  s_op
  s_c stepG_region_end
  s_c stepG_seq
  s_reg
  s_stop
  refine LoneTo.step (step_lone_select_send_room (c := c) (cap := cap) (buf := buf) (s := s) (r := r) (tm := false) (stepG_comm (cases := #[scase c x (.string ⟨#[]⟩)]) (blocking := false) (shape := .select) (w' := w) rfl rfl (by decide) (by simp [go_sem, execOp, scase, Act.eval])) hc hroom) ?_
  rw [Frame.finish_at]
  walk_nrm
  refine LoneTo.goes (n := 20) ?_
  s_op
  s_op
  s_c stepG_region_end
  s_c stepG_block
  s_cond true
  s_c stepG_seq
  s_reg
  s_op
  s_c stepG_region_end
  s_c stepG_ret'
  s_stop
  exact LoneTo.done ⟨.returned (.bool true), _, rfl, ⟨rfl, rfl⟩, rfl, rfl, rfl, rfl, _, Tryz.func485, by simp [results, Tryz.f485, Frame.at]⟩
set_option maxRecDepth 100000 in
theorem puts_full (hb ho : Nat) (n : Int) (x : Value) (c cap s r : Nat) (buf : Array Value) (w : World) (hc : w.heap[c]? = some (.chan cap buf false s r false)) (hfull : cap ≤ buf.size) (hn : w.cell? ⟨hb, ho + 2, none⟩ = some (.int .i64 n)) (hz : w.frozen? ⟨hb, ho + 2, none⟩ = false) (h0 : 0 ≤ n) (h1 : n < 1000000) :
    Calls Tryz.prog 485 #[.pointer (some ⟨hb, ho, none⟩), .chan (some c), x] w fun e w' => e = .returned (.bool false) ∧ w' = w.setCell ⟨hb, ho + 2, none⟩ (.int .i64 (n + 1)) := by
  have hw : IntKind.i64.wrap (n + 1) = n + 1 := by rw [IntKind.wrap_i64]; omega
  refine calls_of_loneTo fun cs => ?_
  have e : Frame.enter Tryz.prog 485 #[.pointer (some ⟨hb, ho, none⟩), .chan (some c), x] .normal = (base 485).at ⟨#[.pointer (some ⟨hb, ho, none⟩), .chan (some c), x, undef, undef, undef, undef, undef, undef, undef, undef, undef, undef, undef, undef, undef, undef, undef, undef], []⟩ [.code (Tryz.f485.body.getD .skip)] := by
    simp [Frame.enter, Frame.at, Tryz.func485, base, Tryz.f485]
  rw [e]
  refine LoneTo.goes (n := 40) ?_
  simp only [Tryz.f485, Option.getD_some]
  s_c stepG_seq
  s_reg
  s_op
  s_c stepG_region_end
  s_c stepG_seq
  s_c stepG_seq
  s_reg
  s_op
  s_c stepG_region_end
  s_reg
  s_op
  s_c stepG_region_end
  s_c stepG_seq
  s_reg
  s_stop
  refine LoneTo.step (step_lone_select_send_full (c := c) (cap := cap) (buf := buf) (s := s) (r := r) (tm := false) (stepG_comm (cases := #[scase c x (.string ⟨#[]⟩)]) (blocking := false) (shape := .select) (w' := w) rfl rfl (by decide) (by simp [go_sem, execOp, scase, Act.eval])) hc hfull) ?_
  rw [Frame.finish_at]
  walk_nrm
  refine LoneTo.goes (n := 30) ?_
  s_op
  s_op
  s_c stepG_region_end
  s_c stepG_block
  s_cond false
  s_c stepG_seq
  s_reg
  s_op
  s_op
  s_op
  s_op
  s_op
  s_op
  s_op
  s_op
  s_c stepG_region_end
  s_c stepG_seq
  s_reg
  s_op
  s_c stepG_region_end
  s_c stepG_ret'
  s_stop
  exact LoneTo.done ⟨.returned (.bool false), _, rfl, ⟨rfl, rfl⟩, rfl, rfl, rfl, rfl, _, Tryz.func485, by simp [results, Tryz.f485, Frame.at]⟩
set_option maxRecDepth 100000 in
theorem takes_fast (hb ho c d capc sc rc capd sd rd : Nat) (bc bd : List Value) (w : World) (hf : w.cell? ⟨hb, ho, none⟩ = some (.chan (some c))) (hs : w.cell? ⟨hb, ho + 1, none⟩ = some (.chan (some d))) (hc : w.heap[c]? = some (.chan capc bc.toArray false sc rc false)) (hd : w.heap[d]? = some (.chan capd bd.toArray false sd rd false)) (v : Value) (vs : List Value) (hv : bc = v :: vs) :
    Calls Tryz.prog 457 #[.pointer (some ⟨hb, ho, none⟩)] w fun e w' => e = .returned (.tuple #[v, .bool true]) ∧ w' = w.setChan c capc vs.toArray false sc (rc + 1) false := by
  subst hv
  refine calls_of_loneTo fun cs => ?_
  have e : Frame.enter Tryz.prog 457 #[.pointer (some ⟨hb, ho, none⟩)] .normal = (base 457).at ⟨#[.pointer (some ⟨hb, ho, none⟩), undef, undef, undef, undef, undef, undef, undef, undef, undef, undef, undef, undef, undef, undef, undef, undef, undef, undef, undef, undef, undef, undef, undef, undef, undef, undef, undef, undef], []⟩ [.code (Tryz.f457.body.getD .skip)] := by
    simp [Frame.enter, Frame.at, Tryz.func457, base, Tryz.f457]
  rw [e]
  refine LoneTo.goes (n := 40) ?_
  simp only [Tryz.f457, Option.getD_some]
  s_c stepG_seq
  s_reg
  s_op
  s_op
  s_c stepG_region_end
  s_c stepG_seq
  s_reg
  s_op
  s_c stepG_region_end
  s_c stepG_seq
  s_c stepG_seq
  s_reg
  s_op
  s_op
  s_c stepG_region_end
  s_cond false
  s_c stepG_skip
  s_c stepG_seq
  s_c stepG_seq
  s_reg
  s_op
  s_op
  s_op
  s_op
  s_c stepG_region_end
  s_c stepG_seq
  s_reg
  s_stop
  refine LoneTo.step (step_lone_select_recv_buf (c := c) (cap := capc) (buf := (v :: vs).toArray) (closed := false) (s := sc) (r := rc) (tm := false) (stepG_comm (cases := #[rcase c (.string ⟨#[]⟩)]) (blocking := false) (shape := .select) (w' := w) rfl rfl (by decide) (by simp [go_sem, execOp, rcase, Act.eval])) hc (by simp)) ?_
  rw [Frame.finish_at]
  walk_nrm
  refine LoneTo.goes (n := 30) ?_
  s_op
  s_op
  s_c stepG_region_end
  s_c stepG_block
  s_cond true
  s_c stepG_seq
  s_reg
  s_op
  s_op
  s_c stepG_region_end
  s_c stepG_seq
  s_reg
  s_op
  s_op
  s_op
  s_c stepG_region_end
  s_c stepG_ret'
  s_stop
  exact LoneTo.done ⟨.returned (.tuple #[v, .bool true]), _, rfl, ⟨rfl, (by simp)⟩, rfl, rfl, rfl, rfl, _, Tryz.func457, by simp [results, Tryz.f457, Frame.at]⟩
set_option maxRecDepth 100000 in
theorem takes_slow (hb ho c d capc sc rc capd sd rd : Nat) (bc bd : List Value) (w : World) (hf : w.cell? ⟨hb, ho, none⟩ = some (.chan (some c))) (hs : w.cell? ⟨hb, ho + 1, none⟩ = some (.chan (some d))) (hc : w.heap[c]? = some (.chan capc bc.toArray false sc rc false)) (hd : w.heap[d]? = some (.chan capd bd.toArray false sd rd false)) (v : Value) (vs : List Value) (hb0 : bc = []) (hv : bd = v :: vs) :
    Calls Tryz.prog 457 #[.pointer (some ⟨hb, ho, none⟩)] w fun e w' => e = .returned (.tuple #[v, .bool true]) ∧ w' = w.setChan d capd vs.toArray false sd (rd + 1) false := by
  subst hb0; subst hv
  refine calls_of_loneTo fun cs => ?_
  have e : Frame.enter Tryz.prog 457 #[.pointer (some ⟨hb, ho, none⟩)] .normal = (base 457).at ⟨#[.pointer (some ⟨hb, ho, none⟩), undef, undef, undef, undef, undef, undef, undef, undef, undef, undef, undef, undef, undef, undef, undef, undef, undef, undef, undef, undef, undef, undef, undef, undef, undef, undef, undef, undef], []⟩ [.code (Tryz.f457.body.getD .skip)] := by
    simp [Frame.enter, Frame.at, Tryz.func457, base, Tryz.f457]
  rw [e]
  refine LoneTo.goes (n := 40) ?_
  simp only [Tryz.f457, Option.getD_some]
  s_c stepG_seq
  s_reg
  s_op
  s_op
  s_c stepG_region_end
  s_c stepG_seq
  s_reg
  s_op
  s_c stepG_region_end
  s_c stepG_seq
  s_c stepG_seq
  s_reg
  s_op
  s_op
  s_c stepG_region_end
  s_cond false
  s_c stepG_skip
  s_c stepG_seq
  s_c stepG_seq
  s_reg
  s_op
  s_op
  s_op
  s_op
  s_c stepG_region_end
  s_c stepG_seq
  s_reg
  s_stop
  refine LoneTo.step (step_lone_select_default (c := c) (cap := capc) (s := sc) (r := rc) (tm := false) (z := .string ⟨#[]⟩) (stepG_comm (cases := #[rcase c (.string ⟨#[]⟩)]) (blocking := false) (shape := .select) (w' := w) rfl rfl (by decide) (by simp [go_sem, execOp, rcase, Act.eval])) hc) ?_
  rw [Frame.finish_at]
  walk_nrm
  refine LoneTo.goes (n := 30) ?_
  s_op
  s_op
  s_c stepG_region_end
  s_c stepG_block
  s_cond false
  s_c stepG_skip
  s_c stepG_inBlock
  s_c stepG_seq
  s_reg
  s_op
  s_op
  s_op
  s_op
  s_c stepG_region_end
  s_c stepG_seq
  s_reg
  s_stop
  refine LoneTo.step (step_lone_select_recv_buf (c := d) (cap := capd) (buf := (v :: vs).toArray) (closed := false) (s := sd) (r := rd) (tm := false) (stepG_comm (cases := #[rcase d (.string ⟨#[]⟩)]) (blocking := false) (shape := .select) (w' := w) rfl rfl (by decide) (by simp [go_sem, execOp, rcase, Act.eval])) hd (by simp)) ?_
  rw [Frame.finish_at]
  walk_nrm
  refine LoneTo.goes (n := 30) ?_
  s_op
  s_op
  s_c stepG_region_end
  s_c stepG_block
  s_cond true
  s_c stepG_seq
  s_reg
  s_op
  s_op
  s_c stepG_region_end
  s_c stepG_seq
  s_reg
  s_op
  s_op
  s_op
  s_c stepG_region_end
  s_c stepG_ret'
  s_stop
  exact LoneTo.done ⟨.returned (.tuple #[v, .bool true]), _, rfl, ⟨rfl, (by simp)⟩, rfl, rfl, rfl, rfl, _, Tryz.func457, by simp [results, Tryz.f457, Frame.at]⟩
set_option maxRecDepth 100000 in
theorem takes_none (hb ho c d capc sc rc capd sd rd : Nat) (bc bd : List Value) (w : World) (hf : w.cell? ⟨hb, ho, none⟩ = some (.chan (some c))) (hs : w.cell? ⟨hb, ho + 1, none⟩ = some (.chan (some d))) (hc : w.heap[c]? = some (.chan capc bc.toArray false sc rc false)) (hd : w.heap[d]? = some (.chan capd bd.toArray false sd rd false)) (hb0 : bc = []) (hv : bd = []) :
    Calls Tryz.prog 457 #[.pointer (some ⟨hb, ho, none⟩)] w fun e w' => e = .returned (.tuple #[.string ⟨#[]⟩, .bool false]) ∧ w' = w := by
  subst hb0; subst hv
  refine calls_of_loneTo fun cs => ?_
  have e : Frame.enter Tryz.prog 457 #[.pointer (some ⟨hb, ho, none⟩)] .normal = (base 457).at ⟨#[.pointer (some ⟨hb, ho, none⟩), undef, undef, undef, undef, undef, undef, undef, undef, undef, undef, undef, undef, undef, undef, undef, undef, undef, undef, undef, undef, undef, undef, undef, undef, undef, undef, undef, undef], []⟩ [.code (Tryz.f457.body.getD .skip)] := by
    simp [Frame.enter, Frame.at, Tryz.func457, base, Tryz.f457]
  rw [e]
  refine LoneTo.goes (n := 40) ?_
  simp only [Tryz.f457, Option.getD_some]
  s_c stepG_seq
  s_reg
  s_op
  s_op
  s_c stepG_region_end
  s_c stepG_seq
  s_reg
  s_op
  s_c stepG_region_end
  s_c stepG_seq
  s_c stepG_seq
  s_reg
  s_op
  s_op
  s_c stepG_region_end
  s_cond false
  s_c stepG_skip
  s_c stepG_seq
  s_c stepG_seq
  s_reg
  s_op
  s_op
  s_op
  s_op
  s_c stepG_region_end
  s_c stepG_seq
  s_reg
  s_stop
  refine LoneTo.step (step_lone_select_default (c := c) (cap := capc) (s := sc) (r := rc) (tm := false) (z := .string ⟨#[]⟩) (stepG_comm (cases := #[rcase c (.string ⟨#[]⟩)]) (blocking := false) (shape := .select) (w' := w) rfl rfl (by decide) (by simp [go_sem, execOp, rcase, Act.eval])) hc) ?_
  rw [Frame.finish_at]
  walk_nrm
  refine LoneTo.goes (n := 30) ?_
  s_op
  s_op
  s_c stepG_region_end
  s_c stepG_block
  s_cond false
  s_c stepG_skip
  s_c stepG_inBlock
  s_c stepG_seq
  s_reg
  s_op
  s_op
  s_op
  s_op
  s_c stepG_region_end
  s_c stepG_seq
  s_reg
  s_stop
  refine LoneTo.step (step_lone_select_default (c := d) (cap := capd) (s := sd) (r := rd) (tm := false) (z := .string ⟨#[]⟩) (stepG_comm (cases := #[rcase d (.string ⟨#[]⟩)]) (blocking := false) (shape := .select) (w' := w) rfl rfl (by decide) (by simp [go_sem, execOp, rcase, Act.eval])) hd) ?_
  rw [Frame.finish_at]
  walk_nrm
  refine LoneTo.goes (n := 30) ?_
  s_op
  s_op
  s_c stepG_region_end
  s_c stepG_block
  s_cond false
  s_c stepG_seq
  s_reg
  s_op
  s_op
  s_op
  s_c stepG_region_end
  s_c stepG_ret'
  s_stop
  exact LoneTo.done ⟨.returned (.tuple #[.string ⟨#[]⟩, .bool false]), _, rfl, ⟨rfl, rfl⟩, rfl, rfl, rfl, rfl, _, Tryz.func457, by simp [results, Tryz.f457, Frame.at]⟩
end Go.Proofs.YtcmlgmiomcegeaaGreat
