/- What a law's walk is told of a slice of truths that came in. No condition. -/
import Derived.Test.YtcjlgdldhcbcjaaBss
namespace Go.Proofs.Ytcjlgdldhcbcjaa
open Go.RowKit Go.Maps Go.ChangeShapes Go.WideShapes Go.Deep
set_option linter.unusedVariables false
set_option linter.unusedSimpArgs false

/-- A slice of truths. -/
def IsBls (w : World) (a : Option Addr) (len cap : Nat) : Prop :=
  len ≤ cap ∧ cap ≤ maxLen ∧ ∀ i, i < len → ∃ b o x, a = some ⟨b, o, none⟩ ∧ w.cell? ⟨b, o + i, none⟩ = some (.bool x)
theorem IsBls.nil (w : World) : IsBls w none 0 0 := ⟨Nat.le_refl _, Nat.zero_le _, fun i h => by omega⟩
variable {H : Type} {enc : TypeId × Value → H} {w : World} {base : Nat}
set_option maxRecDepth 100000 in
theorem open_bls {fuel : Nat} {cs : List Value} {y : DataW H × List MemPlace} (h : DataW.trod enc Try.prog w base (fun _ => true) true fuel 54 cs = some y) :
    ∃ a len cap, cs = [.slice a len cap] ∧ IsBls w a len cap := by
  rcases open_slice ((Try.underlying54)) h with h0 | ⟨a, len, cap, m, n, D, Pl, hcs, hb, hl, hm, hmm, hx, hi⟩
  · exact ⟨none, 0, 0, h0.1, IsBls.nil w⟩
  · refine ⟨some a, len, cap, hcs, hl, hm, fun i hil => ?_⟩
    have him : i < m := by rw [hmm]; split <;> omega
    obtain ⟨ab, ao, asp⟩ := a
    have hspot : asp = none := by
      obtain ⟨cs', hc, _⟩ := hi 0 (by omega)
      rw [show Try.prog.cellsOf 4 = 1 by kernel_rfl] at hc
      obtain ⟨_, hcl, hat⟩ := World.cells?_some hc
      have h1 := hat 0 (by omega)
      rw [List.getElem?_eq_getElem (by omega)] at h1
      have := World.cell?_spot h1
      simpa [Addr.add] using this
    subst hspot
    obtain ⟨cs', hc, ht'⟩ := hi i him
    rw [show Try.prog.cellsOf 4 = 1 by kernel_rfl] at hc
    obtain ⟨_, hcl, hat⟩ := World.cells?_some hc
    match cs', hcl with
    | [c0], _ =>
      obtain ⟨x, hb4, _⟩ := DataW.trod_bool Try.underlying4 ht'
      simp only [List.cons.injEq, and_true] at hb4
      subst hb4
      exact ⟨ab, ao, x, rfl, by simpa [addr_add] using hat 0 (by omega)⟩
end Go.Proofs.Ytcjlgdldhcbcjaa
