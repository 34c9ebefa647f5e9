/- Rows of slices: their front, a copy; calls as steps of a region that draws its order. No condition. -/
import Derived.Test.YtcjlgdldhcbcjaaTorn0
import Derived.Test.YtcjlgdldhcbcjaaBss
import Derived.Deep.RegionLaw
namespace Go.Proofs.Ytcjlgdldhcbcjaa
open Go.RowKit Go.Maps
set_option linter.unusedVariables false
set_option linter.unusedSimpArgs false

theorem own_take {w : World} {e : TypeId} {a : Option Addr} {m c n : Nat} {xs : List Value} (h : w.ownsRow 0 e 1 (.slice a m c) m xs) (hn : n ≤ m) : w.ownsRow 0 e 1 (.slice a n c) n (xs.take n) := by
  have hl := h.1
  refine ⟨by rw [List.length_take]; omega, ?_⟩
  rcases h.2 with ⟨h1, h2⟩ | ⟨g, cap, cur, h1, h2, h3, h4, h5, h6, h7⟩
  · injection h1 with e1 e2 e3
    have : n = 0 := by omega
    subst this
    subst e1; subst e3
    exact .inl ⟨rfl, rfl⟩
  · injection h1 with e1 e2 e3
    subst e3
    refine .inr ⟨g, c, cur, by rw [e1], h2, h3, by omega, h5, h6, ?_⟩
    rw [← h7, List.take_take, Nat.min_eq_left (by omega)]
    simp
theorem IsRows.take {w : World} {a : Option Addr} {m c : Nat} {R : List BE} (h : IsRows w (.slice a m c) R) (n : Nat) (hn : n ≤ R.length) : IsRows w (.slice a n c) (R.take n) := by
  obtain ⟨a', cap', e, _, _⟩ := own_shape h.row
  injection e with e1 e2 e3
  have hb : (Value.slice a n c).ownBlock = (Value.slice a m c).ownBlock := by cases a <;> rfl
  have hr := h.row
  rw [← e2] at hr
  have ht := own_take hr (n := n) (by omega)
  refine ⟨?_, fun x hx => h.bts x (List.mem_of_mem_take hx), fun x hx k hk => by rw [hb]; exact h.ne x (List.mem_of_mem_take hx) k hk⟩
  rw [List.length_take, Nat.min_eq_left hn, List.map_take]
  exact ht
theorem RowsF.take {a : Option Addr} {m c n : Nat} {R : List BE} {k : Nat} (h : RowsF (.slice a n c) (R.take n) k) : RowsF (.slice a m c) R k := by
  rcases h with h | ⟨x, hx, h⟩
  · exact .inl (by cases a <;> exact h)
  · exact .inr ⟨x, List.mem_of_mem_take hx, h⟩
/-- Cells of a row of slices, wherever they lie. -/
def SrcR (w : World) (u : Value) (m : Nat) (news : List Value) : Prop :=
  news.length = m * 1 ∧ (∀ x ∈ news, x.oneCell' = true) ∧ ((u = .slice none 0 0 ∧ m = 0) ∨ ∃ ad c, u = .slice (some ad) m c ∧ ∀ j x, news[j]? = some x → w.cell? (ad.add j) = some x)
theorem IsRows.src {w : World} {u : Value} {R : List BE} (h : IsRows w u R) : SrcR w u R.length (R.map (·.v)) := by
  refine ⟨by simp, fun x hx => ?_, ?_⟩
  · obtain ⟨y, hy, rfl⟩ := List.mem_map.1 hx
    obtain ⟨a, c, e, _⟩ := (h.bts y hy).shape
    rw [e]; rfl
  · have hr := h.row
    rcases hr.2 with ⟨h1, h2⟩ | ⟨g, cap, cur, h1, _⟩
    · exact .inl ⟨h1, h2⟩
    · refine .inr ⟨⟨g, 0, none⟩, cap, h1, fun j x hx => ?_⟩
      rw [h1] at hr
      have hj : j < (R.map (·.v)).length := (List.getElem?_eq_some_iff.1 hx).1
      rw [List.length_map] at hj
      have hc := hr.cellAt j (by omega)
      rw [hx] at hc
      rw [← hc]
      by_cases hz : j = 0 <;> simp [Addr.add, hz]
theorem run_appRs (w : World) (ty : TypeId) (v : Value) (n : Nat) (xs : List Value) (hown : w.ownsRow 0 22 1 v n xs) (u : Value) (m : Nat) (news : List Value) (hu : SrcR w u m news) (hlen : n + m ≤ 2000000000) :
    ∃ v' w', (Builtin.append_ #[46, 46] ty #[v, u]).run Try.prog w = .ok v' w' ∧ AppR w v (n + m) (xs ++ news) v' w' := by
  obtain ⟨i0, hi0, hz0, hz1, hz2⟩ := info_parts infoR
  obtain ⟨h1, h2, h3⟩ := hu
  rcases h3 with ⟨rfl, rfl⟩ | ⟨ad, c, rfl, hc⟩
  · have : news = [] := List.eq_nil_of_length_eq_zero (by simpa using h1)
    subst this
    have hr := run_append_owned_none (P := Try.prog) w 0 46 ty 22 i0 1 Try.underlying46 hi0 v n xs hown
    exact ⟨v, w, hr, by simpa using hown, World.grownBy.refl _ _, .inl rfl⟩
  · obtain ⟨v', w', hr, q1, q2, q3, q4⟩ := run_append_own_at (P := Try.prog) w 0 46 ty 22 i0 _ 1 24 Try.underlying46 hi0 hz0 hz1 hz2 (by rfl) (by omega) v n xs hown ad m c news h1 hc h2 (by simp only [maxLen]; omega) (by omega) (Nat.zero_le _)
    exact ⟨v', w', hr, q1, q2, q4⟩
theorem IsRows.copy {w w1 : World} {u v1 : Value} {R : List BE} (h : IsRows w u R) (hA : AppR w (.slice none 0 0) R.length (R.map (·.v)) v1 w1) : IsRows w1 v1 R ∧ Tch No w w1 ∧ (∀ k, v1.ownBlock = some k → k = w.heap.size) := by
  have t : Tch No w w1 := Tch.grown hA.grow (fun k hk _ => by simp [Value.ownBlock] at hk)
  have hl : ∀ k, v1.ownBlock = some k → k = w.heap.size := fun k hk => by
    rcases hA.loc with e | e
    · rw [e] at hk; simp [Value.ownBlock] at hk
    · rw [e] at hk; simp at hk; exact hk.symm
  exact ⟨⟨hA.own, fun x hx => (h.bts x hx).tch0 t, fun x hx k hk e => by have := (h.bts x hx).blt k hk; have := hl k e; omega⟩, t, hl⟩
/-- An append of slices as a step of a region that draws its order. -/
theorem wp_appRs {o : Oper} {a : Act} {w : World} {K : Act → World → Prop} {Q : Exit → Act → World → Prop} (sl x : Operand)
    (ho : o.op = .call { callee := .builtin .append, args := #[sl, x], argTypes := #[46, 46] })
    (v : Value) (n : Nat) (xs : List Value) (hs : a.eval sl = v) (hown : w.ownsRow 0 22 1 v n xs) (u : Value) (m : Nat) (news : List Value) (hx : a.eval x = u) (hu : SrcR w u m news) (hlen : n + m ≤ 2000000000)
    (h : ∀ a' n' cap' w', AppR w v (n + m) (xs ++ news) (.slice a' n' cap') w' → K (a.put o.dst (.slice a' n' cap')) w') :
    Oper.wp Try.prog o a w K Q := by
  obtain ⟨v', w', hr, hA⟩ := run_appRs w o.type v n xs hown u m news hu hlen
  obtain ⟨a', cap', rfl, _, _⟩ := own_shape hA.own
  unfold Oper.wp execOp
  simp only [ho, resolve, invoke, builtin, Sem.run_bind, Sem.run_pure, Result.andThen_ok, List.map_toArray, List.map_cons, List.map_nil, hs, hx, hr]
  exact h _ _ _ _ hA
theorem wp_all {o : Oper} {a : Act} {w : World} {K : Act → World → Prop} {Q : Exit → Act → World → Prop} (x0 : Operand)
    (ho : o.op = .call { callee := .value (.func 30), args := #[x0], argTypes := #[37] })
    (u0 : Value) (h0 : a.eval x0 = u0) {R : Ending → World → Prop} (hc : Calls Try.prog 30 #[u0] w R) (hR : ∀ e w', R e w' → ∃ v, e = .returned v ∧ K (a.put o.dst v) w') :
    Oper.wp Try.prog o a w K Q := by
  unfold Oper.wp execOp
  have he : a.eval (.func 30) = .func (.func 30) #[] #[] := rfl
  simp only [ho, resolve, invoke, Sem.run_bind, Sem.run_pure, Result.andThen_ok, List.map_toArray, List.map_cons, List.map_nil, h0, he, Deferred.ofValue, callFunc, Array.append_empty]
  have hn : (Try.f30.name == "runtime.NumGoroutine") = false := by kernel_rfl
  have hb : Try.f30.body.isNone = false := by kernel_rfl
  have hp : program.run Try.prog w = .ok Try.prog w := rfl
  simp only [hp, Result.andThen_ok, Try.func30, hn, hb, Bool.false_eq_true, if_false, Sem.run_pure, Oper.upon_enter, Array.empty_append]
  with_reducible refine hc.mono ?_
  intro e w' hr
  obtain ⟨v, rfl, hk⟩ := hR e w' hr
  exact hk
theorem wp_eq {o : Oper} {a : Act} {w : World} {K : Act → World → Prop} {Q : Exit → Act → World → Prop} (x0 x1 : Operand)
    (ho : o.op = .call { callee := .value (.func 31), args := #[x0, x1], argTypes := #[46, 46] })
    (u0 u1 : Value) (h0 : a.eval x0 = u0) (h1 : a.eval x1 = u1) {R : Ending → World → Prop} (hc : Calls Try.prog 31 #[u0, u1] w R) (hR : ∀ e w', R e w' → ∃ v, e = .returned v ∧ K (a.put o.dst v) w') :
    Oper.wp Try.prog o a w K Q := by
  unfold Oper.wp execOp
  have he : a.eval (.func 31) = .func (.func 31) #[] #[] := rfl
  simp only [ho, resolve, invoke, Sem.run_bind, Sem.run_pure, Result.andThen_ok, List.map_toArray, List.map_cons, List.map_nil, h0, h1, he, Deferred.ofValue, callFunc, Array.append_empty]
  have hn : (Try.f31.name == "runtime.NumGoroutine") = false := by kernel_rfl
  have hb : Try.f31.body.isNone = false := by kernel_rfl
  have hp : program.run Try.prog w = .ok Try.prog w := rfl
  simp only [hp, Result.andThen_ok, Try.func31, hn, hb, Bool.false_eq_true, if_false, Sem.run_pure, Oper.upon_enter, Array.empty_append]
  with_reducible refine hc.mono ?_
  intro e w' hr
  obtain ⟨v, rfl, hk⟩ := hR e w' hr
  exact hk
theorem wp_ladd {o : Oper} {a : Act} {w : World} {K : Act → World → Prop} {Q : Exit → Act → World → Prop} (x0 x1 : Operand)
    (ho : o.op = .call { callee := .value (.func 25), args := #[x0, x1], argTypes := #[37, 22] })
    (u0 u1 : Value) (h0 : a.eval x0 = u0) (h1 : a.eval x1 = u1) {R : Ending → World → Prop} (hc : Calls Try.prog 25 #[u0, u1] w R) (hR : ∀ e w', R e w' → ∃ v, e = .returned v ∧ K (a.put o.dst v) w') :
    Oper.wp Try.prog o a w K Q := by
  unfold Oper.wp execOp
  have he : a.eval (.func 25) = .func (.func 25) #[] #[] := rfl
  simp only [ho, resolve, invoke, Sem.run_bind, Sem.run_pure, Result.andThen_ok, List.map_toArray, List.map_cons, List.map_nil, h0, h1, he, Deferred.ofValue, callFunc, Array.append_empty]
  have hn : (Try.f25.name == "runtime.NumGoroutine") = false := by kernel_rfl
  have hb : Try.f25.body.isNone = false := by kernel_rfl
  have hp : program.run Try.prog w = .ok Try.prog w := rfl
  simp only [hp, Result.andThen_ok, Try.func25, hn, hb, Bool.false_eq_true, if_false, Sem.run_pure, Oper.upon_enter, Array.empty_append]
  with_reducible refine hc.mono ?_
  intro e w' hr
  obtain ⟨v, rfl, hk⟩ := hR e w' hr
  exact hk
theorem wp_lforce {o : Oper} {a : Act} {w : World} {K : Act → World → Prop} {Q : Exit → Act → World → Prop} (x0 : Operand)
    (ho : o.op = .call { callee := .value (.func 32), args := #[x0], argTypes := #[37] })
    (u0 : Value) (h0 : a.eval x0 = u0) {R : Ending → World → Prop} (hc : Calls Try.prog 32 #[u0] w R) (hR : ∀ e w', R e w' → ∃ v, e = .returned v ∧ K (a.put o.dst v) w') :
    Oper.wp Try.prog o a w K Q := by
  unfold Oper.wp execOp
  have he : a.eval (.func 32) = .func (.func 32) #[] #[] := rfl
  simp only [ho, resolve, invoke, Sem.run_bind, Sem.run_pure, Result.andThen_ok, List.map_toArray, List.map_cons, List.map_nil, h0, he, Deferred.ofValue, callFunc, Array.append_empty]
  have hn : (Try.f32.name == "runtime.NumGoroutine") = false := by kernel_rfl
  have hb : Try.f32.body.isNone = false := by kernel_rfl
  have hp : program.run Try.prog w = .ok Try.prog w := rfl
  simp only [hp, Result.andThen_ok, Try.func32, hn, hb, Bool.false_eq_true, if_false, Sem.run_pure, Oper.upon_enter, Array.empty_append]
  with_reducible refine hc.mono ?_
  intro e w' hr
  obtain ⟨v, rfl, hk⟩ := hR e w' hr
  exact hk
/-- A row of numbers grows by one. -/
def ints (l : List Nat) : List Value := l.map (fun x => .int .i64 (x : Nat))
structure AppI (w : World) (v : Value) (ys : List Nat) (v' : Value) (w' : World) : Prop where
  own : w'.ownsRow 0 3 1 v' ys.length (ints ys)
  grow : w.grownBy w' v.ownBlock
  loc : v'.ownBlock = v.ownBlock ∨ v'.ownBlock = some w.heap.size
theorem infoI : (Try.prog.info? 3).map (fun i => (i.zero, i.size, i.bytes)) = some (some (.int .i64 0), 1, 8) := by kernel_rfl
theorem run_appI (w : World) (ty : TypeId) (v : Value) (xs : List Nat) (hown : w.ownsRow 0 3 1 v xs.length (ints xs)) (ad : Addr) (c : Nat) (x : Nat) (hx : w.cell? ad = some (.int .i64 (x : Nat))) (hlen : xs.length + 1 ≤ 2000000000) :
    ∃ v' w', (Builtin.append_ #[34, 34] ty #[v, .slice (some ad) 1 c]).run Try.prog w = .ok v' w' ∧ AppI w v (xs ++ [x]) v' w' := by
  obtain ⟨i0, hi0, hz0, hz1, hz2⟩ := info_parts infoI
  obtain ⟨v', w', hr, q1, q2, q3, q4⟩ := run_append_own_at (P := Try.prog) w 0 34 ty 3 i0 _ 1 8 Try.underlying34 hi0 hz0 hz1 hz2 (by rfl) (by omega) v xs.length (ints xs) hown ad 1 c [.int .i64 (x : Nat)] rfl (fun j y hy => by
    match j with
    | 0 => simp at hy; subst hy; have : ad.add 0 = ad := by simp [Addr.add]
           rw [this]; exact hx
    | k + 1 => simp at hy) (fun y hy => by simp at hy; subst hy; rfl) (by simp only [maxLen]; omega) (by omega) (Nat.zero_le _)
  exact ⟨v', w', hr, by simpa [ints] using q1, q2, q4⟩
theorem wpList_appI {ops : Array Oper} {rest : List Oper} {o : Oper} {a : Act} {w : World} {Q : Exit → Act → World → Prop} (hgd : o.guard = none) (sl x : Operand)
    (ho : o.op = .call { callee := .builtin .append, args := #[sl, x], argTypes := #[34, 34] })
    (v : Value) (xs : List Nat) (hs : a.eval sl = v) (hown : w.ownsRow 0 3 1 v xs.length (ints xs)) (ad : Addr) (c : Nat) (y : Nat) (hx : a.eval x = .slice (some ad) 1 c) (hy : w.cell? ad = some (.int .i64 (y : Nat))) (hlen : xs.length + 1 ≤ 2000000000)
    (h : ∀ a' n' cap' w', AppI w v (xs ++ [y]) (.slice a' n' cap') w' → n' = xs.length + 1 → wpList Try.prog ops Q rest (a.put o.dst (.slice a' n' cap')) w') : wpList Try.prog ops Q (o :: rest) a w := by
  refine wpList_plain hgd fun K hK => ?_
  obtain ⟨v', w', hr, hA⟩ := run_appI w o.type v xs hown ad c y hy hlen
  obtain ⟨a', cap', rfl, _, _⟩ := own_shape hA.own
  unfold Oper.wp execOp
  simp only [ho, resolve, invoke, builtin, Sem.run_bind, Sem.run_pure, Result.andThen_ok, List.map_toArray, List.map_cons, List.map_nil, hs, hx, hr]
  exact hK _ _ (h _ _ _ _ hA (by simp))
end Go.Proofs.Ytcjlgdldhcbcjaa
