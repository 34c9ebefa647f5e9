import Derived.Test.YtcjlgdldhcbcjaaMem
import Derived.Lib.AppendStr
import Derived.Lib.Strings
import Derived.Deep.RegionLaw
import Derived.Deep.DrawnRows
namespace Go.Proofs.Ytcjlgdldhcbcjaa
open Go.RowKit Go.Maps
set_option linter.unusedVariables false
set_option linter.unusedSimpArgs false

theorem strCells_eq (s : ByteArray) : Lib.strCells s = u8s s.data.toList := rfl

/-- 'append(own, s...)', s a string: the run. -/
theorem run_app_str {P : Program} (w : World) (t u ty e : TypeId) (i : TypeInfo) (ht : P.underlying t = some (.slice e)) (hu : P.underlying u = some .string) (hi : P.info? e = some i) (hz : i.zero = some (.int .u8 0))
    (hsize : i.size = 1) (hby : i.bytes = 1) (v : Value) (xs : List UInt8) (hown : w.ownsRow 0 e 1 v xs.length (u8s xs)) (s : ByteArray) (hlen : xs.length + s.size ≤ lim) :
    ∃ v' w', (Builtin.append_ #[t, u] ty #[v, .string s]).run P w = .ok v' w' ∧ AppPost e w v (xs ++ s.data.toList) v' w' := by
  unfold lim at hlen
  have hb0 : 0 ≤ w.heap.size := Nat.zero_le _
  obtain ⟨v', w', hr, h1, h2, h3⟩ := Lib.run_append_own_string w 0 t u ty e i ht hu hi hz hsize hby v xs.length (u8s xs) hown s (by simp only [maxLen]; omega) (by omega) hb0
  have hsz : s.size = s.data.toList.length := (Array.length_toList (xs := s.data)).symm
  refine ⟨v', w', hr, ⟨?_, h2, fun q1 q2 => h3.2 ⟨q2, ?_⟩, ?_⟩⟩
  · rw [strCells_eq, ← u8s_append, hsz, ← List.length_append] at h1; exact h1
  · rw [hsz]; have := congrArg List.length q1; simp at this; simp [this.2]
  · rcases hown.2 with ⟨rfl, h0⟩ | ⟨g, cap, cur, rfl, hbg, hg, hnc, hcm, hcs, htake⟩
    · have hx : xs = [] := List.eq_nil_of_length_eq_zero h0
      subst hx
      by_cases hm : s.size = 0
      · rw [h3.2 ⟨rfl, hm⟩]; exact .inl rfl
      · right
        have hr' := run_append_nil_string (P := P) w t u ty e i (.int .u8 0) ht hu hi hz s (by omega) (by simp at hlen; omega) (by rw [hby]; simp at hlen; omega)
        rw [hr'] at hr
        cases hr
        rfl
    · by_cases hroom : xs.length + s.size ≤ cap
      · left
        have hr' := Lib.run_append_room_string (P := P) w t u ty e i ht hu hi hsize g xs.length cap cur hg s hroom (by rw [hcs]; omega)
        rw [hr'] at hr
        cases hr
        rfl
      · right
        have holds : ∀ j u, (u8s xs)[j]? = some u → w.cell? ((⟨g, 0, none⟩ : Addr).add j) = some u := hown.cells (g := g) rfl
        have hr' := Lib.run_append_grow_string (P := P) w t u ty e i (.int .u8 0) ht hu hi hz ⟨g, 0, none⟩ xs.length cap (u8s xs) (by rw [hsize]; simp [u8s]) holds s (by omega) (by omega) (by rw [hby]; exact growslice_fits (by omega) (by omega))
        rw [hr'] at hr
        cases hr
        rfl

/-- .. at a step of a region that draws its order. -/
theorem step_app_str {P : Program} {ops : Array Oper} {o : Oper} {a : Act} {w : World} {K : Act → World → Prop} {Q : Exit → Act → World → Prop} {E : Prop} (hgd : o.guard = none) (sl x : Operand) (t u : TypeId)
    (ho : o.op = .call { callee := .builtin .append, args := #[sl, x], argTypes := #[t, u] })
    (e : TypeId) (i : TypeInfo) (ht : P.underlying t = some (.slice e)) (hu : P.underlying u = some .string) (hi : P.info? e = some i) (hz : i.zero = some (.int .u8 0))
    (hsize : i.size = 1) (hby : i.bytes = 1) (v : Value) (xs : List UInt8) (hs : a.eval sl = v) (hown : w.ownsRow 0 e 1 v xs.length (u8s xs)) (s : ByteArray) (hx : a.eval x = .string s) (hlen : xs.length + s.size ≤ lim)
    (ys : List UInt8) (hys : Hid (ys = xs ++ s.data.toList))
    (h : ∀ a' n' cap' w', AppPost e w v ys (.slice a' n' cap') w' → Hid (n' = ys.length) → K (a.put o.dst (.slice a' n' cap')) w') :
    if Region.wanted o (yielded ops a.tmps) = true then Oper.wp P o a w K Q else E := by
  have hys' := hys.out
  subst hys'
  have hw : Region.wanted o (yielded ops a.tmps) = true := by simp [Region.wanted, hgd]
  rw [if_pos hw]
  obtain ⟨v', w', hr, hA⟩ := run_app_str (P := P) w t u o.type e i ht hu hi hz hsize hby v xs hown s hlen
  obtain ⟨a', cap', rfl, _, _⟩ := own_shape hA.own
  unfold Oper.wp execOp
  simp only [ho, resolve, invoke, builtin, Sem.run_bind, Sem.run_pure, Result.andThen_ok, List.map_toArray, List.map_cons, List.map_nil, hs, hx, hr]
  exact h _ _ _ _ hA rfl
theorem App_cell {e : TypeId} {w : World} {v : Value} {ys : List UInt8} {v' : Value} {w' : World} (h : AppPost e w v ys v' w') {p : Addr} {x : Value} (hc : w.cell? p = some x) (hv : v.ownBlock ≠ some p.block) : w'.cell? p = some x := h.grow.cell hc (fun e => hv e.symm)
theorem App_free {e : TypeId} {w : World} {v : Value} {ys : List UInt8} {v' : Value} {w' : World} (h : AppPost e w v ys v' w') {p : Addr} {x : Value} {b : Bool} (hc : w.cell? p = some x) (hf : w.frozen? p = b) (hv : v.ownBlock ≠ some p.block) : w'.frozen? p = b :=
  (World.frozen?_of_block (h.grow.block p.block (World.block_lt_of_cell? w p hc) (fun e => hv e.symm))).trans hf
theorem bytes_ext {a b : ByteArray} (h : a.data.toList = b.data.toList) : a = b := by
  cases a; cases b; simp at h; subst h; rfl
theorem extract_all (s : ByteArray) : s.extract 0 s.size = s := bytes_ext (by
  rw [Lib.extract_data, List.drop_zero, Nat.sub_zero, Lib.size_eq, List.take_length])
end Go.Proofs.Ytcjlgdldhcbcjaa
