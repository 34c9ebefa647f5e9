/- What single operations on numbers yield, in whatever frame. No condition. -/
import Derived.Test.YtcjlgdldhcbcjaaRegX
namespace Go.Proofs.Ytcjlgdldhcbcjaa
open Go.RowKit Go.Maps
set_option linter.unusedVariables false
set_option linter.unusedSimpArgs false

variable {ρ : Operand → Value} {o : Oper}
theorem x_sub (x y : Operand) {a b c : Int} (ho : o.op = .binOp .sub 3 x y 3) (hx : ρ x = .int .i64 a) (hy : ρ y = .int .i64 b) (hc : IntKind.i64.wrap (a - b) = c) (W : World) : RunsTo Try.prog ρ o W (.int .i64 c) W := by
  constructor
  subst hc
  unfold execOp
  simp only [ho, hx, hy]
  go_simp
theorem x_lss (x y : Operand) {a b : Int} {c : Bool} (ho : o.op = .binOp .lss 3 x y 3) (hx : ρ x = .int .i64 a) (hy : ρ y = .int .i64 b) (hc : decide (a < b) = c) (W : World) : RunsTo Try.prog ρ o W (.bool c) W := by
  constructor
  subst hc
  unfold execOp
  simp only [ho, hx, hy]
  go_simp
theorem x_geq (x y : Operand) {a b : Int} {c : Bool} (ho : o.op = .binOp .geq 3 x y 3) (hx : ρ x = .int .i64 a) (hy : ρ y = .int .i64 b) (hc : decide (b ≤ a) = c) (W : World) : RunsTo Try.prog ρ o W (.bool c) W := by
  constructor
  subst hc
  unfold execOp
  simp only [ho, hx, hy]
  go_simp
theorem x_lenR (x : Operand) {a : Option Addr} {n c : Nat} (ho : o.op = .call { callee := .builtin .len, args := #[x], argTypes := #[46] }) (hx : ρ x = .slice a n c) (W : World) : RunsTo Try.prog ρ o W (.int .i64 (n : Nat)) W := by
  constructor
  unfold execOp
  simp only [ho, resolve, invoke, builtin, Sem.run_bind, Sem.run_pure, Result.andThen_ok, List.map_toArray, List.map_cons, List.map_nil, hx]
  go_simp
end Go.Proofs.Ytcjlgdldhcbcjaa
