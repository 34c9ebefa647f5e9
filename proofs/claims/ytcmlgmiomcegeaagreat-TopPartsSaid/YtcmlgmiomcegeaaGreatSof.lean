/- sess.Of: which session has a transaction: a loop over a map, in whatever order. No condition. -/
import Derived.Test.YtcmlgmiomcegeaaGreatMem
import Derived.Maps.RangeRun
namespace Go.Proofs.YtcmlgmiomcegeaaGreat
open Go Go.RowKit Go.Maps
open Go.ChangeMaps (setBlock)
set_option linter.unusedVariables false
set_option linter.unusedSimpArgs false

section
variable {P : Program} (w : World) {ops : Array Oper} {rest : List Oper} {o : Oper} {a : Act} {Q : Exit → Act → World → Prop}
theorem wpList_rangeM (hg : o.guard = none) (m : Operand) (t k e : TypeId) (hop : o.op = .range t m) (ht : P.underlying t = some (.map k e)) {b cl : Nat} {es : Array MapEntry} (hm : a.eval m = .map (some b)) (hb : w.heap[b]? = some (.map es cl))
    (hK : wpList P ops Q rest (a.put o.dst (.pointer (some ⟨w.heap.size, 0, none⟩))) (w.alloc (.mapIter (some b) cl #[] cl))) : wpList P ops Q (o :: rest) a w := by
  refine wpList_plain hg fun K' hK' => ?_
  unfold Oper.wp
  simp [execOp, hop, hm, Instr.range, run_underlying ht, getObj, newObj, Sem.run, hb, Result.andThen]
  exact hK' _ _ hK
theorem wpList_nextM (hg : o.guard = none) (it : Operand) (hop : o.op = .next it false) {r b cl : Nat} {seen : Array Nat} {es : Array MapEntry} (hit : a.eval it = .pointer (some ⟨r, 0, none⟩)) (hr : w.heap[r]? = some (.mapIter (some b) cl seen cl)) (hb : w.heap[b]? = some (.map es cl))
    (hold : ∀ x ∈ es.toList, x.born < cl) (hnd : (es.toList.map (·.born)).Nodup) (hne : b ≠ r)
    (hint : ∀ x ∈ es.toList, ∃ p q, x.key = .int .i64 p ∧ x.val = .int .i64 q)
    (hDone : (leftOf es seen).size = 0 → wpList P ops Q rest (a.put o.dst (.tuple #[.bool false])) w)
    (hMore : ∀ e ∈ (leftOf es seen).toList, ∀ p q w1, e.key = .int .i64 p → e.val = .int .i64 q → w1.heap[r]? = some (.mapIter (some b) cl (seen.push e.born) cl) → w1.heap[b]? = some (.map es cl) → Tch (fun k => k = r) w w1 →
      (Instr.entry (.pointer (some ⟨r, 0, none⟩))).run P w1 = .ok (.tuple #[.int .i64 p, .int .i64 q]) w1 → wpList P ops Q rest (a.put o.dst (.tuple #[.bool true, .int .i64 p, .int .i64 q])) w1) : wpList P ops Q (o :: rest) a w := by
  refine wpList_plain hg fun K' hK' => ?_
  unfold Oper.wp
  rcases run_next_at (P := P) w o.type r b cl cl seen es cl hr hb hold (Nat.le_refl _) with ⟨h0, hrun⟩ | ⟨e, he, w1, hal, hrun⟩
  · simp [execOp, hop, hit, hrun, Result.andThen]
    exact hK' _ _ (hDone h0)
  · have hem : e ∈ es.toList := by
      unfold leftOf at he
      simp at he ⊢
      exact he.1
    obtain ⟨p, q, hp, hq⟩ := hint e hem
    have hr1 : w1.heap[r]? = some (.mapIter (some b) cl seen cl) := by rcases hal with rfl | rfl <;> exact hr
    have hb1 : w1.heap[b]? = some (.map es cl) := by rcases hal with rfl | rfl <;> exact hb
    have hlt : r < w1.heap.size := (Array.getElem?_eq_some_iff.1 hr1).1
    have h1 : (setBlock w1 r (.mapIter (some b) cl (seen.push e.born) cl)).heap[r]? = some (.mapIter (some b) cl (seen.push e.born) cl) := by simp [setBlock, hlt]
    have h2 : (setBlock w1 r (.mapIter (some b) cl (seen.push e.born) cl)).heap[b]? = some (.map es cl) := by
      simp only [setBlock]
      rw [Array.getElem?_setIfInBounds_ne (fun e => hne e.symm)]; exact hb1
    have h3 : Tch (fun k => k = r) w (setBlock w1 r (.mapIter (some b) cl (seen.push e.born) cl)) := by
      rcases hal with rfl | rfl
      · exact ⟨rfl, rfl, rfl, by simp [setBlock], fun k hk hn => by simp only [setBlock]; rw [Array.getElem?_setIfInBounds_ne (fun e => hn e.symm)]⟩
      · exact ⟨rfl, rfl, rfl, by simp [setBlock], fun k hk hn => by simp only [setBlock]; rw [Array.getElem?_setIfInBounds_ne (fun e => hn e.symm)]; rfl⟩
    have h4 := run_entry_at (P := P) _ r b cl seen es cl e h1 h2 hem hnd
    rw [hp, hq] at h4 hrun
    simp [execOp, hop, hit, hrun, Result.andThen]
    exact hK' _ _ (hMore e he p q _ hp hq h1 h2 h3 h4)
end
theorem left_mem {es : Array MapEntry} {seen : Array Nat} {e : MapEntry} (h : e ∈ (leftOf es seen).toList) : e ∈ es.toList ∧ e.born ∉ seen := by
  unfold leftOf at h
  simp at h ⊢
  exact h
theorem left_none {es : Array MapEntry} {seen : Array Nat} (h : leftOf es seen = #[]) : ∀ e ∈ es.toList, e.born ∈ seen := fun e he => by
  unfold leftOf at h
  rw [Array.filter_eq_empty_iff] at h
  have := h e (by simpa using he)
  simpa using this
structure SofRel (w : World) (mb r cl : Nat) (es : Array MapEntry) (tid : Int) (seen : Array Nat) (wr : World) : Prop where
  it : wr.heap[r]? = some (.mapIter (some mb) cl seen cl)
  mp : wr.heap[mb]? = some (.map es cl)
  no : ∀ x ∈ es.toList, x.born ∈ seen → x.val ≠ .int .i64 tid
  t : Tch No w wr
def sofM (es : Array MapEntry) (r : Nat) (wr : World) : Nat := match wr.heap[r]? with | some (.mapIter _ _ seen _) => (leftOf es seen).size | _ => 0
theorem sofM_eq {es : Array MapEntry} {r mb cl : Nat} {seen : Array Nat} {wr : World} (h : wr.heap[r]? = some (.mapIter (some mb) cl seen cl)) : sofM es r wr = (leftOf es seen).size := by unfold sofM; rw [h]
set_option maxRecDepth 100000 in
set_option maxHeartbeats 4000000 in
theorem sof_any {w : World} {sb so mb cl : Nat} {es : Array MapEntry} {tid r : Int} (hs : w.cell? ⟨sb, so + 2, none⟩ = some (.map (some mb))) (hb : w.heap[mb]? = some (.map es cl)) (hint : ∀ x ∈ es.toList, ∃ p q, x.key = .int .i64 p ∧ x.val = .int .i64 q)
    (hold : ∀ x ∈ es.toList, x.born < cl) (hnd : (es.toList.map (·.born)).Nodup) (hyes : ∀ x ∈ es.toList, x.val = .int .i64 tid → x.key = .int .i64 r) (hno : (∀ x ∈ es.toList, x.val ≠ .int .i64 tid) → r = 0) (h0 : tid ≠ 0) :
    Calls Tryz.prog 120 #[.pointer (some ⟨sb, so, none⟩), .int .i64 tid] w fun e w' => e = .returned (.int .i64 r) ∧ Tch No w w' := by
  have hH := Lib.hid hint
  have hO := Lib.hid hold
  have hN := Lib.hid hnd
  have hY := Lib.hid hyes
  have hZ := Lib.hid hno
  have hB := Lib.hid hb
  have hmw : mb < w.heap.size := (Array.getElem?_eq_some_iff.1 hb).1
  clear hint hold hnd hyes hno
  go_enter Tryz.func120, Tryz.ntmps120
  go_wp2_with (first | (at_range; refine wpList_rangeM _ rfl _ 260 2 2 rfl Tryz.underlying260 rfl hB.out ?_))
  have R0 : Hid (SofRel w mb w.heap.size cl es tid #[] (w.alloc (.mapIter (some mb) cl #[] cl))) := by
    refine ⟨heap_alloc_new w _, ?_, fun x _ hx => by simp at hx, Tch.alloc _ _⟩
    exact blk_tch (Tch.alloc w _) hb (fun h => h)
  have hne : mb ≠ w.heap.size := by omega
  clear hs hb hB
  go_frame
  go_loopw [5] (fun _ wr => ∃ seen, Hid (SofRel w mb w.heap.size cl es tid seen wr)) (fun _ wr => sofM es w.heap.size wr)
  case atStart => exact ⟨_, R0⟩
  case round =>
    obtain ⟨seen, hR⟩ := hrel
    go_wp2_with (at_next; go_must (refine wpList_nextM _ rfl _ rfl rfl hR.out.it hR.out.mp hO.out hN.out hne hH.out ?_ ?_))
    · intro hdone
      have hr0 : Hid (r = 0) := hZ.out (fun x hx => hR.out.no x hx (left_none hdone x hx))
      clear hdone
      go_wp2
      go_ret
      exact ⟨by rw [hr0.out]; rfl, hR.out.t⟩
    · intro e he p q w1 hp hq h1 h2 h3 hen
      have he' : e ∈ (leftOf es seen).toList := by simpa using he
      obtain ⟨hem, hes⟩ := left_mem he'
      by_cases hqt : q = tid
      · subst hqt
        have hpr : Hid (r = p) := by
          have := hY.out e hem hq
          rw [hp] at this
          injection this with _ this
          exact this.symm
        go_wp2
        go_ret
        exact ⟨by rw [hpr.out]; rfl, hR.out.t.fresh h3 (fun i hi => by omega)⟩
      · go_wp2
        have hz : (tid == 0) = false := by simp [h0]
        refine ⟨⟨u4, _, _, _, _, _, _, _, _, _, _, _, ⟨seen.push e.born, ?_⟩, by rw [hz]⟩, ?_⟩
        · refine ⟨h1, h2, fun x hx hb => ?_, hR.out.t.fresh h3 (fun i hi => by omega)⟩
          rcases Array.mem_push.1 hb with hb | hb
          · exact hR.out.no x hx hb
          · have hxe : x = e := by
              have hnd := hN.out
              rw [List.nodup_iff_pairwise_ne, List.pairwise_map] at hnd
              by_cases hxe : x = e
              · exact hxe
              · exfalso
                rcases List.mem_iff_getElem.1 hx with ⟨i, hi, rfl⟩
                rcases List.mem_iff_getElem.1 hem with ⟨j, hj, hje⟩
                rw [List.pairwise_iff_getElem] at hnd
                rcases Nat.lt_trichotomy i j with hij | hij | hij
                · exact hnd i j hi hj hij (by rw [hje]; exact hb)
                · subst hij; exact hxe hje
                · exact hnd j i hj hi hij (by rw [hje]; exact hb.symm)
            subst hxe
            rw [hq]
            intro hc
            injection hc with _ hc
            exact hqt hc
        · rw [sofM_eq h1, sofM_eq hR.out.it]
          exact left_shrinks es seen e he'
end Go.Proofs.YtcmlgmiomcegeaaGreat
