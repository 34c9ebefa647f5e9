/- What single operations yield, in whatever frame. No condition. -/
import Derived.Test.YtcjlgdldhcbcjaaRegC
import Derived.Test.YtcjlgdldhcbcjaaTorn1
import Derived.Lib.SlBytesConst
namespace Go.Proofs.Ytcjlgdldhcbcjaa
open Go.RowKit Go.Maps
set_option linter.unusedVariables false
set_option linter.unusedSimpArgs false

variable {ρ : Operand → Value} {o : Oper}
theorem x_neqE (x y : Operand) {a b : Int} {c : Bool} (ho : o.op = .binOp .neq 28 x y 28) (hx : ρ x = .int .i64 a) (hy : ρ y = .int .i64 b) (hc : (a != b) = c) (W : World) : RunsTo Try.prog ρ o W (.bool c) W := by
  constructor
  subst hc
  unfold execOp
  simp only [ho, hx, hy]
  go_simp
theorem x_eqlE (x y : Operand) {a b : Int} {c : Bool} (ho : o.op = .binOp .eql 28 x y 28) (hx : ρ x = .int .i64 a) (hy : ρ y = .int .i64 b) (hc : (a == b) = c) (W : World) : RunsTo Try.prog ρ o W (.bool c) W := by
  constructor
  subst hc
  unfold execOp
  simp only [ho, hx, hy]
  go_simp
theorem x_not (x : Operand) {b c : Bool} (ho : o.op = .unOp .not 4 x) (hx : ρ x = .bool b) (hc : (!b) = c) (W : World) : RunsTo Try.prog ρ o W (.bool c) W := by
  constructor
  subst hc
  unfold execOp
  simp only [ho, hx]
  go_simp
theorem x_pick (x y z : Operand) {b : Bool} {v : Value} (ho : o.op = .pick x y z) (hx : ρ x = .bool b) (hv : (if b then ρ y else ρ z) = v) (W : World) : RunsTo Try.prog ρ o W v W := by
  constructor
  subst hv
  unfold execOp
  simp only [ho, hx]
  cases b <;> go_simp
theorem x_front (x h : Operand) {a : Option Addr} {m c n : Nat} (ho : o.op = .slice 46 x none (some h) none) (hx : ρ x = .slice a m c) (hh : ρ h = .int .i64 (n : Nat)) (hn : n ≤ c) (W : World) : RunsTo Try.prog ρ o W (.slice a n c) W := by
  constructor
  have h1 : (n : Int) ≤ (c : Int) := by omega
  unfold execOp
  simp only [ho, hx, hh]
  go_simp
theorem x_build8 (x : Operand) {z : Int} (ho : o.op = .buildSlice 22 1 #[(0, x)]) (hx : ρ x = .int .u8 z) (W : World) : RunsTo Try.prog ρ o W (.slice (some ⟨W.heap.size, 0, none⟩) 1 1) (W.alloc (.cells #[.int .u8 z] 5)) := by
  constructor
  unfold execOp
  simp only [ho, hx]
  go_simp
theorem x_buildR (x : Operand) {a : Option Addr} {n c : Nat} (ho : o.op = .buildSlice 46 1 #[(0, x)]) (hx : ρ x = .slice a n c) (W : World) : RunsTo Try.prog ρ o W (.slice (some ⟨W.heap.size, 0, none⟩) 1 1) (W.alloc (.cells #[.slice a n c] 22)) := by
  constructor
  unfold execOp
  simp only [ho, hx]
  go_simp
/-- A literal's bytes, marked. -/
def markW (W : World) (g : Nat) : World := W.freeze ⟨g, 1, none⟩ 1
theorem x_conv (x : Operand) {g n c : Nat} {u : Value} {fr : Nat × Nat} {W : World} (ho : o.op = .convert 22 22 x) (hx : ρ x = .slice (some ⟨g, 0, none⟩) n c) (hg : W.heap[g]? = some (.cells #[u] 5 fr)) : RunsTo Try.prog ρ o W (.slice (some ⟨g, 0, none⟩) n c) (markW W g) := by
  constructor
  have hsh : W.shape? g = some (5, 1) := by unfold World.shape?; rw [hg]; rfl
  unfold execOp
  simp only [ho, hx]
  simp [convert, run_underlying Try.underlying22, run_underlying Try.underlying5, markStringish, hsh, markW, Result.andThen]
theorem x_convTop (x : Operand) {n c : Nat} {u : Value} {W : World} (ho : o.op = .convert 22 22 x) (hx : ρ x = .slice (some ⟨W.heap.size, 0, none⟩) n c) : RunsTo Try.prog ρ o (W.alloc (.cells #[u] 5)) (.slice (some ⟨W.heap.size, 0, none⟩) n c) (W.alloc (.cells #[u] 5 (1, 2))) := by
  constructor
  have h := Lib.run_convert_bytes_const (P := Try.prog) W 22 5 #[u] n c Try.underlying22 Try.underlying5
  unfold execOp
  simp only [ho, hx]
  simp only [Sem.run_bind, h, Result.andThen_ok, Sem.run_pure]
  rfl
theorem mark_tch (W : World) (g : Nat) : Tch (fun k => k = g) W (markW W g) := by
  unfold markW World.freeze
  rw [if_neg (by decide)]
  refine ⟨rfl, rfl, rfl, by simp, fun k hk hn => ?_⟩
  have hn' : ¬ g = k := fun e => hn e.symm
  simp [Array.getElem?_modify, hn']
theorem mark_at {W : World} {g : Nat} {u : Value} {fr : Nat × Nat} (hg : W.heap[g]? = some (.cells #[u] 5 fr)) : ∃ fr', (markW W g).heap[g]? = some (.cells #[u] 5 fr') := by
  unfold markW World.freeze
  rw [if_neg (by decide)]
  simp [Array.getElem?_modify, hg]
end Go.Proofs.Ytcjlgdldhcbcjaa
