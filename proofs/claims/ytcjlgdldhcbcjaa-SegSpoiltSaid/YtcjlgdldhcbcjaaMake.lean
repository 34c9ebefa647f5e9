/- make([]byte, n): a row of noughts. No condition. -/
import Derived.Test.YtcjlgdldhcbcjaaRead
namespace Go.Proofs.Ytcjlgdldhcbcjaa
open Go.RowKit Go.Maps
set_option linter.unusedVariables false
set_option linter.unusedSimpArgs false

def zrow (n : Nat) : Obj := .cells (madeCells (Value.int .u8 0).cells (n * 1)) 5
theorem make_at (W : World) (n : Nat) (hn : n ≤ 1000000) :
    (Instr.makeSlice 22 (.int .i64 (n : Int)) (.int .i64 (n : Int))).run Try.prog W = .ok (.slice (some ⟨W.heap.size, 0, none⟩) n n) (W.alloc (zrow n)) ∧ SlB (W.alloc (zrow n)) (.slice (some ⟨W.heap.size, 0, none⟩) n n) (List.replicate n 0) := by
  obtain ⟨i0, hi0, hz0, hz1, hz2⟩ := info_parts infoB
  have hr := run_make (P := Try.prog) W 22 5 i0 (.int .u8 0) Try.underlying22 hi0 hz0 .i64 .i64 (n : Int) (n : Int) (by omega) (by omega) (by rw [hz2]; omega) (by omega)
  rw [hz1] at hr
  simp only [Int.toNat_natCast] at hr
  refine ⟨hr, ?_⟩
  have e : (madeCells (Value.int .u8 0).cells (n * 1)).toList = u8s (List.replicate n 0) := by
    have : (Value.int IntKind.u8 0).cells = #[.int .u8 0] := rfl
    rw [this, toList_madeCells_one, Nat.mul_one]
    simp [u8s]
  have := SlB.lit W (madeCells (Value.int .u8 0).cells (n * 1)) (List.replicate n 0) n 5 (0, 0) (by simp) (by rw [← e]) (by unfold lim; omega)
  exact this
theorem tmod_lt (z : Int) (m : Int) (hm : 0 < m) : -m < z.tmod m ∧ z.tmod m < m := by
  have h1 := Int.tmod_lt_of_pos z hm
  have h2 := Int.lt_tmod_of_pos z hm
  exact ⟨h2, h1⟩
end Go.Proofs.Ytcjlgdldhcbcjaa
