/- What a law's walk is told of a slice of operations that came in: of each its five cells. No condition. -/
import Derived.Test.YtbhemlddncmmfaaRead
import Derived.Deep.Slices
import Derived.Deep.Fields
import Derived.ChangeSame
namespace Go.Proofs.Ytbhemlddncmmfaa
open Go.RowKit Go.Maps Go.ChangeShapes Go.WideShapes Go.Deep
set_option linter.unusedVariables false
set_option linter.unusedSimpArgs false

/-- An operation: Kind, N, Name, To, B at x. -/
def IsOp (w : World) (x : Addr) (k n : Int) (s t : ByteArray) (b : Option Addr) (lb cb : Nat) (zb : List Int) : Prop :=
  w.cell? (x.add 0) = some (.int .i64 k) ∧ w.cell? (x.add 1) = some (.int .i64 n) ∧ w.cell? (x.add 2) = some (.string s) ∧ w.cell? (x.add 3) = some (.string t) ∧ w.cell? (x.add 4) = some (.slice b lb cb) ∧
  (Lit.int .i64 n).wf = true ∧ s.size ≤ maxLen ∧ t.size ≤ maxLen ∧ IsRow .u8 w b lb cb zb
/-- A slice of operations. -/
def IsOps (w : World) (a : Option Addr) (len cap : Nat) : Prop :=
  len ≤ cap ∧ cap ≤ maxLen ∧ ∀ i, i < len → ∃ b o k n s t bb lb cb zb, a = some ⟨b, o, none⟩ ∧ IsOp w ⟨b, o + i * 5, none⟩ k n s t bb lb cb zb

theorem IsOps.nil (w : World) : IsOps w none 0 0 := ⟨Nat.le_refl _, Nat.zero_le _, fun i h => by omega⟩
theorem IsOp.tch0 {w w' : World} {x : Addr} {k n : Int} {s t : ByteArray} {b : Option Addr} {lb cb : Nat} {zb : List Int} (h : IsOp w x k n s t b lb cb zb) (ht : Tch No w w') : IsOp w' x k n s t b lb cb zb := by
  obtain ⟨h0, h1, h2, h3, h4, h5, h6, h7, h8⟩ := h
  exact ⟨ht.cell h0 (fun h => h), ht.cell h1 (fun h => h), ht.cell h2 (fun h => h), ht.cell h3 (fun h => h), ht.cell h4 (fun h => h), h5, h6, h7, h8.tch0 ht⟩

theorem open_fields {H : Type} {enc : TypeId × Value → H} {P : Program} {w : World} {base : Nat} {spare : Nat → Bool} {held : Bool} {t : TypeId} {fs : Array Field} {fuel : Nat} {cs : List Value} {x : DataW H × List MemPlace}
    (he : P.underlying t = some (.struct fs)) (hone : oneCellFields P fs = true) (hC : P.cellsOf t = fs.size) (h : DataW.trod enc P w base spare held fuel t cs = some x) :
    ∀ (j : Nat) (f : Field), fs[j]? = some f → ∃ c m y, cs[j]? = some c ∧ DataW.trod enc P w base spare held m f.type [c] = some y := by
  obtain ⟨ys, n, _, _, hlen, hyl, hf⟩ := DataW.trod_struct he h
  intro j f hj
  have h1 := hf j f hj
  obtain ⟨ho, hk⟩ := Go.Deep.hone_of hone j f hj
  have hjl := (Array.getElem?_eq_some_iff.1 hj).1
  have hys : j < ys.length := by omega
  rw [ho, hk, List.getElem?_eq_getElem hys] at h1
  have hjc : j < cs.length := by omega
  rw [Go.Deep.take1_drop _ j undef hjc] at h1
  exact ⟨cs.getD j undef, n, _, by simp [List.getD, List.getElem?_eq_getElem hjc], h1⟩
section
variable {H : Type} {enc : TypeId × Value → H} {w : World} {base : Nat}
set_option maxRecDepth 100000 in
theorem open_ops {fuel : Nat} {cs : List Value} {y : DataW H × List MemPlace} (h : DataW.trod enc Try.prog w base (fun _ => true) true fuel 22 cs = some y) :
    ∃ a len cap, cs = [.slice a len cap] ∧ IsOps w a len cap := by
  rcases open_slice ((Try.underlying22)) h with h0 | ⟨a, len, cap, m, n, D, Pl, hcs, hb, hl, hm, hmm, hx, hi⟩
  · exact ⟨none, 0, 0, h0.1, IsOps.nil w⟩
  · refine ⟨some a, len, cap, hcs, hl, hm, fun i hil => ?_⟩
    have him : i < m := by rw [hmm]; split <;> omega
    obtain ⟨ab, ao, asp⟩ := a
    have hspot : asp = none := by
      obtain ⟨cs', hc, _⟩ := hi 0 (by omega)
      rw [show Try.prog.cellsOf 32 = 5 by kernel_rfl] at hc
      obtain ⟨_, hcl, hat⟩ := World.cells?_some hc
      have h1 := hat 0 (by omega)
      rw [List.getElem?_eq_getElem (by omega)] at h1
      have := World.cell?_spot h1
      simpa [Addr.add] using this
    subst hspot
    obtain ⟨cs', hc, ht'⟩ := hi i him
    rw [show Try.prog.cellsOf 32 = 5 by kernel_rfl] at hc
    obtain ⟨ys, n', hn', hy, hlen, hyl, hf⟩ := DataW.trod_struct Try.underlying32 ht'
    obtain ⟨_, hcl, hat⟩ := World.cells?_some hc
    have h5 : cs'.length = 5 := hcl
    match cs', h5 with
    | [c0, c1, c2, c3, c4], _ =>
      have e := open_fields Try.underlying32 (by kernel_rfl) (by kernel_rfl) ht'
      obtain ⟨_, _, _, q0, e0⟩ := e 0 _ rfl
      obtain ⟨_, _, _, q1, e1⟩ := e 1 _ rfl
      obtain ⟨_, _, _, q2, e2⟩ := e 2 _ rfl
      obtain ⟨_, _, _, q3, e3⟩ := e 3 _ rfl
      obtain ⟨_, _, _, q4, e4⟩ := e 4 _ rfl
      simp only [List.getElem?_cons_zero, List.getElem?_cons_succ, Option.some.injEq] at q0 q1 q2 q3 q4
      subst q0 q1 q2 q3 q4
      obtain ⟨k, hk, _, _⟩ := DataW.trod_int Try.underlying3 e0
      obtain ⟨n, hnn, _, hwn⟩ := DataW.trod_int Try.underlying3 e1
      obtain ⟨sn, hsn, _, hls⟩ := DataW.trod_string Try.underlying9 e2
      obtain ⟨st, hst, _, hlt⟩ := DataW.trod_string Try.underlying9 e3
      simp only [List.cons.injEq, and_true] at hk hnn hsn hst
      subst hk hnn hsn hst
      obtain ⟨b, lb, cb, zb, hb4, hrow⟩ : ∃ b lb cb zb, c4 = .slice b lb cb ∧ IsRow .u8 w b lb cb zb := by
        rcases open_ints Try.underlying30 Try.underlying5 (by kernel_rfl) e4 with ⟨hcs4, _⟩ | ⟨x, l, c, zs, hcs4, _, hl4, hm4, hz, _, hcell, hwz⟩
        · simp only [List.cons.injEq, and_true] at hcs4
          exact ⟨none, 0, 0, [], hcs4, .inl ⟨rfl, rfl, rfl, rfl⟩⟩
        · simp only [List.cons.injEq, and_true] at hcs4
          exact ⟨some x, l, c, zs, hcs4, .inr ⟨x, rfl, hl4, hm4, by simpa using hz, hcell, hwz⟩⟩
      subst hb4
      exact ⟨ab, ao, k, n, sn, st, b, lb, cb, zb, rfl, by simpa [addr_add] using hat 0 (by omega), by simpa [addr_add] using hat 1 (by omega), by simpa [addr_add] using hat 2 (by omega), by simpa [addr_add] using hat 3 (by omega), by simpa [addr_add] using hat 4 (by omega), hwn, hls, hlt, hrow⟩
end
end Go.Proofs.Ytbhemlddncmmfaa
