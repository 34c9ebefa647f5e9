/- What a law's walk is told of a slice of slices of bytes that came in. No condition. -/
import Derived.Test.YtcjlgdldhcbcjaaOwn4
import Derived.BigQuiet
import Derived.Deep.Slices
import Derived.ChangeSame
namespace Go.Proofs.Ytcjlgdldhcbcjaa
open Go.RowKit Go.Maps Go.ChangeShapes Go.WideShapes Go.Deep
set_option linter.unusedVariables false
set_option linter.unusedSimpArgs false

/-- A slice of slices of bytes. -/
def IsBss (w : World) (a : Option Addr) (len cap : Nat) : Prop :=
  len ≤ cap ∧ cap ≤ maxLen ∧ ∀ i, i < len → ∃ b o x l c zs, a = some ⟨b, o, none⟩ ∧ w.cell? ⟨b, o + i, none⟩ = some (.slice x l c) ∧ IsRow .u8 w x l c zs
theorem IsBss.nil (w : World) : IsBss w none 0 0 := ⟨Nat.le_refl _, Nat.zero_le _, fun i h => by omega⟩
section
variable {H : Type} {enc : TypeId × Value → H} {w : World} {base : Nat}
set_option maxRecDepth 100000 in
theorem open_bss {fuel : Nat} {cs : List Value} {y : DataW H × List MemPlace} (h : DataW.trod enc Try.prog w base (fun _ => true) true fuel 46 cs = some y) :
    ∃ a len cap, cs = [.slice a len cap] ∧ IsBss w a len cap := by
  rcases open_slice ((Try.underlying46)) h with h0 | ⟨a, len, cap, m, n, D, Pl, hcs, hb, hl, hm, hmm, hx, hi⟩
  · exact ⟨none, 0, 0, h0.1, IsBss.nil w⟩
  · refine ⟨some a, len, cap, hcs, hl, hm, fun i hil => ?_⟩
    have him : i < m := by rw [hmm]; split <;> omega
    obtain ⟨ab, ao, asp⟩ := a
    have hspot : asp = none := by
      obtain ⟨cs', hc, _⟩ := hi 0 (by omega)
      rw [show Try.prog.cellsOf 22 = 1 by kernel_rfl] at hc
      obtain ⟨_, hcl, hat⟩ := World.cells?_some hc
      have h1 := hat 0 (by omega)
      rw [List.getElem?_eq_getElem (by omega)] at h1
      have := World.cell?_spot h1
      simpa [Addr.add] using this
    subst hspot
    obtain ⟨cs', hc, ht'⟩ := hi i him
    rw [show Try.prog.cellsOf 22 = 1 by kernel_rfl] at hc
    obtain ⟨_, hcl, hat⟩ := World.cells?_some hc
    match cs', hcl with
    | [c0], _ =>
      obtain ⟨b, lb, cb, zb, hb4, hrow⟩ : ∃ b lb cb zb, c0 = .slice b lb cb ∧ IsRow .u8 w b lb cb zb := by
        rcases open_ints Try.underlying22 Try.underlying5 (by kernel_rfl) ht' with ⟨hcs4, _⟩ | ⟨x, l, c, zs, hcs4, _, hl4, hm4, hz, _, hcell, hwz⟩
        · simp only [List.cons.injEq, and_true] at hcs4
          exact ⟨none, 0, 0, [], hcs4, .inl ⟨rfl, rfl, rfl, rfl⟩⟩
        · simp only [List.cons.injEq, and_true] at hcs4
          exact ⟨some x, l, c, zs, hcs4, .inr ⟨x, rfl, hl4, hm4, by simpa using hz, hcell, hwz⟩⟩
      subst hb4
      exact ⟨ab, ao, b, lb, cb, zb, rfl, by simpa [addr_add] using hat 0 (by omega), hrow⟩
end
variable {K K' : Nat → Prop} {w w' : World} {db mb room lb last : Nat} {M : List FE} {A : List (List UInt8)}
/-- A write beside the log; what is kept is turned. -/
theorem LSt.gen {F : Nat → Prop} (h : LSt w lb db mb room M last A K) (t : Tch F w w') (hF : ∀ k, F k → K k) (hK : ∀ k, K' k → K k ∨ (w.heap.size ≤ k ∧ k < w'.heap.size)) : LSt w' lb db mb room M last A K' := by
  obtain ⟨v, R, h1, h2, h3, h4⟩ := h
  refine ⟨v, R, h1, h2.tch t (fun k hk hf => h4 k (hF k hf) hk), h3.gen t (fun k hk _ => .inl (hF k hk)) (fun k hk => ?_), fun k hk hl => ?_⟩
  · rcases hk with hk | hk
    · rcases hK k hk with q | q
      · exact .inl (.inl q)
      · exact .inr q
    · exact .inl (.inr hk)
  · rcases hK k hk with q | q
    · exact h4 k q hl
    · have := LogF.lt h2 k hl; omega
set_option maxRecDepth 100000 in
set_option maxHeartbeats 1000000 in
theorem eq_any {v1 v2 : Value} {R1 R2 : List BE} (h1 : IsRows w v1 R1) (h2 : IsRows w v2 R2) (he : R1.map (·.b) = R2.map (·.b)) (hl : R1.length ≤ 1000000) :
    Calls Try.prog 31 #[v1, v2] w fun e w' => e = .returned (.bool true) ∧ Tch No w w' := by
  have hlen : R1.length = R2.length := by have := congrArg List.length he; simpa using this
  obtain ⟨a1, m1, c1, rfl, hm1, hc1⟩ := rows_shape h1
  obtain ⟨a2, m2, c2, rfl, hm2, hc2⟩ := rows_shape h2
  have e12 : m1 = m2 := hm1.out.trans (hlen.trans hm2.out.symm)
  subst e12
  have hmm : m1 ≤ 1000000 := by rw [hm1.out]; exact hl
  have H1 := Lib.hid h1
  have H2 := Lib.hid h2
  have HE : Hid (∀ j (q1 : j < R1.length) (q2 : j < R2.length), R1[j].b = R2[j].b) := fun j q1 q2 => by
    have e1 : (R1.map (·.b))[j]'(by simpa using q1) = R1[j].b := by simp
    have e2 : (R2.map (·.b))[j]'(by simpa using q2) = R2[j].b := by simp
    rw [← e1, ← e2]
    congr 1
  clear h1 h2 he hlen hl
  go_enter Try.func31, Try.ntmps31
  go_wp2_with fail
  go_loopw [5] (fun i wr => ∃ k : Nat, k ≤ m1 ∧ i = .int .i64 k ∧ Hid (Tch No w wr)) (fun i _ => m1 - (intOf i).toNat)
  case atStart => exact ⟨0, by omega, rfl, Tch.refl _ _⟩
  case round =>
    obtain ⟨k, hk, rfl, hT⟩ := hrel
    by_cases hlt : k < m1
    · have k1 : k < R1.length := by rw [← hm1.out]; exact hlt
      have k2 : k < R2.length := by rw [← hm2.out]; exact hlt
      obtain ⟨g1, d1, hs1, x1⟩ := H1.out.at_ k1
      obtain ⟨g2, d2, hs2, x2⟩ := H2.out.at_ k2
      simp only [Value.slice.injEq] at hs1 hs2
      obtain ⟨rfl, hq1, rfl⟩ := hs1
      obtain ⟨rfl, hq2, rfl⟩ := hs2
      clear hq1 hq2
      have b1 := H1.out.bts _ (List.getElem_mem k1)
      have b2 := H2.out.bts _ (List.getElem_mem k2)
      have hbe := HE.out k k1 k2
      obtain ⟨r1, hr1⟩ : ∃ r, R1[k] = r := ⟨_, rfl⟩
      obtain ⟨r2, hr2⟩ : ∃ r, R2[k] = r := ⟨_, rfl⟩
      rw [hr1] at x1 b1 hbe
      rw [hr2] at x2 b2 hbe
      obtain ⟨p1, q1, s1, hv1, _⟩ := b1.shape'
      obtain ⟨p2, q2, s2, hv2, _⟩ := b2.shape'
      rw [hv1] at x1 b1
      rw [hv2] at x2 b2
      rw [← hbe] at b2
      obtain ⟨S, hS⟩ : ∃ S : ByteArray, (⟨r1.b.toArray⟩ : ByteArray) = S := ⟨_, rfl⟩
      have y1 : ∀ n, (convert 22 9 (.slice p1 q1 s1)).run Try.prog (wr.drewN n) = .ok (.string S) (wr.drewN n) := fun n => by rw [← hS]; exact str_of ((b1.tch0 hT.out).tch0 (tch_drewN _ _))
      have y2 : ∀ n, (convert 22 9 (.slice p2 q2 s2)).run Try.prog (wr.drewN n) = .ok (.string S) (wr.drewN n) := fun n => by rw [← hS]; exact str_of ((b2.tch0 hT.out).tch0 (tch_drewN _ _))
      have z1 := hT.out.cell x1 (fun h => h)
      have z2 := hT.out.cell x2 (fun h => h)
      have i1 : (k : Int) < (m1 : Int) := by omega
      have i2 : (0 : Int) ≤ (k : Int) := by omega
      clear x1 x2 b1 b2 hS hv1 hv2 hbe hr1 hr2
      go_wp2_with fail
      go_quiet (fail)
      go_wp2_with fail
      exact ⟨⟨k + 1, by omega, by go_num, hT.out.trans0 (by exact ⟨rfl, rfl, rfl, Nat.le_refl _, fun _ _ _ => rfl⟩)⟩, by simp [intOf]; omega⟩
    · have i1 : ¬ (k : Int) < (m1 : Int) := by omega
      go_wp2_with fail
      go_ret
      exact ⟨rfl, hT.out⟩
end Go.Proofs.Ytcjlgdldhcbcjaa
