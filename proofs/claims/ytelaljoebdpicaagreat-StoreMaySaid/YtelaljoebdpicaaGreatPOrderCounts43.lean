/- Part 43 of what the proof of OrderCounts rests on. No condition. -/
import Derived.Test.YtelaljoebdpicaaGreatPOrderCounts14
namespace Go.Proofs.YtelaljoebdpicaaGreat
set_option maxRecDepth 100000
set_option maxHeartbeats 60000000
set_option linter.unusedVariables false
set_option linter.unusedSimpArgs false
set_option linter.unusedSectionVars false
section
open Go.RowKit Go.Maps
def RiseE {α : Type} (q : α -> Bool) (f : α -> Int) (l : List α) (k : Nat) : Prop := ∀ i (h : i < l.length), i < k -> q l[i] = true /\ ∀ (h0 : 0 < i), f l[i - 1] < f l[i]
theorem riseE_all {α : Type} {q : α -> Bool} {f : α -> Int} {l : List α} : RiseE q f l l.length ↔ (l.all q && strictB (l.map f)) = true := by
 unfold RiseE
 rw [Bool.and_eq_true, strict_idx, List.all_eq_true]
 constructor
 ·intro h
  refine ⟨fun x hx => ?_, fun i hi => ?_⟩
  ·obtain ⟨i, hi, rfl⟩ := List.getElem_of_mem hx
   exact (h i hi hi).1
  ·have hi' : i + 1 < l.length := by simpa using hi
   have := (h (i + 1) hi' hi').2 (by omega)
   simpa using this
 ·rintro ⟨h1, h2⟩ i hi _
  refine ⟨h1 _ (List.getElem_mem hi), fun h0 => ?_⟩
  have := h2 (i - 1) (by rw [List.length_map]; omega)
  simp only [List.getElem_map] at this
  have e : i - 1 + 1 = i := by omega
  simpa [e] using this
theorem riseE_bad {α : Type} {q : α -> Bool} {f : α -> Int} {l : List α} {k : Nat} (hk : k < l.length) (h : q l[k] = false ∨ ∃ h0 : 0 < k, ¬ f l[k - 1] < f l[k]) : (l.all q && strictB (l.map f)) = false := by
 cases e : (l.all q && strictB (l.map f)) with
 | false => rfl
 | true =>
  have := (riseE_all.2 e) k hk hk
  rcases h with h | ⟨h0, h⟩
  ·rw [this.1] at h; cases h
  ·exact absurd (this.2 h0) h
theorem riseE_step {α : Type} {q : α -> Bool} {f : α -> Int} {l : List α} {k : Nat} (h : RiseE q f l k) (hk : k < l.length) (hb : q l[k] = true) (hp : ∀ h0 : 0 < k, f l[k - 1] < f l[k]) : RiseE q f l (k + 1) := by
 intro i hi hik
 by_cases e : i = k
 ·subst e; exact ⟨hb, hp⟩
 ·exact h i hi (by omega)
theorem pendB_eq (s : StM) (p : PendM) : pendB s p = (((decide (homeM p.tid = s.broker) && decide (1 <= p.parts.length)) && (risingB p.parts && decide ((p.parts.length : Int) <= 7))) && !p.parts.contains s.broker) := by
 unfold pendB
 have e : decide ((p.parts.length : Int) <= 7) = decide (p.parts.length <= 7) := by congr 1; simp; omega
 rw [e]
 by_cases h1 : 1 <= p.parts.length <;> by_cases h2 : p.parts.length <= 7 <;> simp [h1, h2]
theorem rpends_any (s : StM) (l : List PendM) (hok : ∀ p ∈ l, I64 p.tid /\ ∀ x ∈ p.parts, I64 x) (v vl : Value) (w : World) (h : IsSt w v s) (hl : IsPends w vl l) :
  Calls Tryz.prog 60 #[v, vl] w fun e w' => e = .returned (.bool (l.all (pendB s) && strictB (l.map (·.tid)))) /\ Tch No w w' := by
 obtain ⟨am, cm, aw, cw, ae, ce, ao, co, an, cn, rfl, _⟩ := h.shape
 obtain ⟨a, cap, rfl, _⟩ := hl.shape
 have H := Lib.hid hl
 have HOK := Lib.hid hok
 obtain ⟨m, hm⟩ : ∃ n, l.length = n := ⟨_, rfl⟩
 rw [hm] at H ⊢
 have HM := Lib.hid hm
 have hml : m <= 9223372036854775807 := by
  obtain ⟨_, c, _, h1, h2⟩ := IsPends.shape H.out
  unfold maxLen at h2; omega
 generalize s.ms.length = nm
 generalize s.waits.length = nw
 generalize s.ends.length = ne
 generalize s.opens.length = no
 generalize s.noes.length = nn
 obtain ⟨res, hres⟩ : ∃ r, (l.all (pendB s) && strictB (l.map (·.tid))) = r := ⟨_, rfl⟩
 have HRES := Lib.hid hres
 rw [hres]
 clear h hl hm hok hres
 unfold stV
 go_enter Tryz.func60, Tryz.ntmps60
 go_wp2_with fail
 go_loopg [5] m (fun kx s5 wr => ∃ k : Nat, s5 = .int .i64 k /\ k <= m /\ m - k <= kx /\ Hid (Tch No w wr) /\ Hid (BoxAt wr w.heap.size [.int .i64 s.broker]) /\ Hid (RiseE (pendB s) (·.tid) l k))
 case atStart => exact ⟨0, rfl, Nat.zero_le _, by omega, Tch.alloc _ _, fun i x hx => BoxAt.made w _ _ i x (by cases i with | zero => simpa using hx | succ i => simp at hx), fun i _ h => absurd h (Nat.not_lt_zero _)⟩
 case round =>
  obtain ⟨k, rfl, hk, hgk, TT, HB, I⟩ := hrel
  by_cases hlt : k < m
  ·have hkl : k < l.length := by have := HM.out; omega
   have hb : ∃ b o, a = some ⟨b, o, none⟩ /\ ∀ i (hi : i < l.length), wr.cell? ⟨b, o + i * 2, none⟩ = some (.int .i64 l[i].tid) /\ ∃ a c, wr.cell? ⟨b, o + i * 2 + 1, none⟩ = some (.slice a l[i].parts.length c) /\ IsInts w (.slice a l[i].parts.length c) l[i].parts := by
    rcases pends_cells H.out with ⟨_, h0⟩ | ⟨b, o, cap2, h1, _, _, _, h5⟩
    ·rw [h0] at hkl; simp at hkl
    ·rw [HM.out] at h1
     injection h1 with h1 _ _
     refine ⟨b, o, h1, fun i hi => ?_⟩
     obtain ⟨g1, a, c, g2, g3⟩ := h5 i hi
     exact ⟨TT.out.cell g1 (fun h => h), a, c, TT.out.cell g2 (fun h => h), g3⟩
   obtain ⟨b, o, rfl, hc⟩ := hb
   obtain ⟨e0, pa, pc, e1, hpu⟩ := hc k hkl
   have HC0 := Lib.hid hc
   obtain ⟨np, hnp⟩ : ∃ n, l[k].parts.length = n := ⟨_, rfl⟩
   have hokp := HOK.out _ (List.getElem_mem hkl)
   have HPB := Lib.hid (pendB_eq s l[k])
   obtain ⟨t, ht⟩ : ∃ t, l[k].tid = t := ⟨_, rfl⟩
   obtain ⟨ps, hps⟩ : ∃ t, l[k].parts = t := ⟨_, rfl⟩
   rw [hnp, ht, hps] at HPB
   rw [hps] at hnp hpu e1
   rw [hnp] at hpu e1
   rw [ht] at e0 hokp
   have HT0 := Lib.hid ht
   have HH := Lib.hid (fun W => rhome_any t hokp.1 W)
   have HP := Lib.hid hpu
   have d0 := HB.out 0 _ rfl
   clear hc hokp ht hps hpu
   go_upto_region 5 with fail
   refine wp_world (fun w4 => Hid (Tch No wr w4) /\ w4.cell? ⟨wr.heap.size, 0, none⟩ = some (.int .i64 t) /\ w4.cell? ⟨wr.heap.size, 1, none⟩ = some (.slice pa np pc)) ⟨Tch.alloc _ _, box_cell _ _ _ 0 (by simp), box_cell _ _ _ 1 (by simp)⟩ ?_
   rintro w4 ⟨T4, g0, g1⟩
   have HR0 : Hid (∀ p : TchW w4, Calls Tryz.prog 92 #[.slice pa np pc] p.wo fun e w' => e = .returned (.bool (risingB ps && decide ((np : Int) <= 7))) /\ Tch No p.wo w') := fun p => by
    have := rrising_any ps (.slice pa np pc) p.wo (HP.out.keep ((TT.out.trans0 T4.out).trans0 p.t))
    rw [hnp] at this; exact this
   have HC1 : Hid (∀ p : TchW w4, Calls Tryz.prog 79 #[.slice pa np pc, .int .i64 s.broker] p.wo fun e w' => e = .returned (.bool (ps.contains s.broker)) /\ p.wo = w') := fun p => rhas_any ps s.broker _ p.wo (HP.out.keep ((TT.out.trans0 T4.out).trans0 p.t))
   have HB4 : Hid (BoxAt w4 w.heap.size [.int .i64 s.broker]) := HB.out.keep T4.out
   have d0' : ∀ p : TchW w4, p.wo.cell? ⟨w.heap.size, 0, none⟩ = some (.int .i64 s.broker) := fun p => p.cell (T4.out.cell d0 (fun h => h))
   have g0' : ∀ p : TchW w4, p.wo.cell? ⟨wr.heap.size, 0, none⟩ = some (.int .i64 t) := fun p => p.cell g0
   have g1' : ∀ p : TchW w4, p.wo.cell? ⟨wr.heap.size, 1, none⟩ = some (.slice pa np pc) := fun p => p.cell g1
   clear d0 g0 g1 e0 e1 hnp
   generalize (risingB ps && decide ((np : Int) <= 7)) = qr at HPB HR0
   generalize ps.contains s.broker = qc at HPB HC1
   have HR := HR0
   have HC := HC1
   clear HR0 HC1 HP
   have hk1' : k - 1 < l.length := by omega
   by_cases hh : homeM t = s.broker
   ·rw [hh] at HH
    rw [decide_eq_true hh] at HPB
    clear hh
    by_cases h0 : k = 0
    ·have HPVH : Hid (∀ _ : 0 < k, (fun p : PendM => p.tid) (l[k - 1]'hk1') < (fun p : PendM => p.tid) l[k]) := fun h => by omega
     have hk0d : decide ((0 : Int) < (k : Int)) = false := by simp; omega
     have hk0e : decide (0 < k) = false := by simp; omega
     clear h0
     cases hn1 : decide (1 <= np) with
     | false =>
      have hn2 : ¬ 1 <= np := by simpa using hn1
      have hn3 : decide ((np : Int) < 1) = true := decide_eq_true (by omega)
      have hn4 : np = 0 := by omega
      have HN : Hid (res = false) := HRES.out.symm.trans <| riseE_bad hkl (.inl (by rw [HPB.out, hn1]; simp))
      clear hn1 hn2
      subst hn4
      refine wp_region_qt (by kernel_rfl) (by kernel_rfl) ?_
      repeat
       with_reducible refine wpQuiet_step (fun K hK => ?_)
       go_simp
       first
        | (with_reducible refine hK _ ?_; clear hK K)
        | (rw [if_neg (by decide)]; with_reducible refine hK _ ?_; clear hK K)
        | (apply Exists.intro; with_reducible refine ⟨fun _ => ?_, hK _ ?_⟩; (first | (go_at_call 54; exact qt_s (HH.out _)) | (go_at_call 92; exact qt_t (HR.out _)) | (go_at_call 79; exact qt_s (HC.out _))); clear hK K)
      with_reducible refine wpQuiet_nil ?_
      rintro _ ⟨pq, rfl⟩
      go_wp2_with fail
      go_ret
      exact ⟨ret_b HN.out.symm, (TT.out.trans0 T4.out).trans0 pq.t⟩
     | true =>
      have hn6 : 1 <= np := by simpa using hn1
      have hn3 : decide ((np : Int) < 1) = false := decide_eq_false (by omega)
      have hn5 : np ≠ 0 := by omega
      cases qr with
      | false =>
       have HN : Hid (res = false) := HRES.out.symm.trans <| riseE_bad hkl (.inl (by rw [HPB.out]; simp))
       refine wp_region_qt (by kernel_rfl) (by kernel_rfl) ?_
       repeat
        with_reducible refine wpQuiet_step (fun K hK => ?_)
        go_simp
        first
         | (with_reducible refine hK _ ?_; clear hK K)
         | (rw [if_neg (by decide)]; with_reducible refine hK _ ?_; clear hK K)
         | (apply Exists.intro; with_reducible refine ⟨fun _ => ?_, hK _ ?_⟩; (first | (go_at_call 54; exact qt_s (HH.out _)) | (go_at_call 92; exact qt_t (HR.out _)) | (go_at_call 79; exact qt_s (HC.out _))); clear hK K)
       with_reducible refine wpQuiet_nil ?_
       rintro _ ⟨pq, rfl⟩
       go_wp2_with fail
       go_ret
       exact ⟨ret_b HN.out.symm, (TT.out.trans0 T4.out).trans0 pq.t⟩
      | true =>
       cases qc with
       | true =>
        have HN : Hid (res = false) := HRES.out.symm.trans <| riseE_bad hkl (.inl (by rw [HPB.out]; simp))
        refine wp_region_qt (by kernel_rfl) (by kernel_rfl) ?_
        repeat
         with_reducible refine wpQuiet_step (fun K hK => ?_)
         go_simp
         first
          | (with_reducible refine hK _ ?_; clear hK K)
          | (rw [if_neg (by decide)]; with_reducible refine hK _ ?_; clear hK K)
          | (apply Exists.intro; with_reducible refine ⟨fun _ => ?_, hK _ ?_⟩; (first | (go_at_call 54; exact qt_s (HH.out _)) | (go_at_call 92; exact qt_t (HR.out _)) | (go_at_call 79; exact qt_s (HC.out _))); clear hK K)
        with_reducible refine wpQuiet_nil ?_
        rintro _ ⟨pq, rfl⟩
        go_wp2_with fail
        go_ret
        exact ⟨ret_b HN.out.symm, (TT.out.trans0 T4.out).trans0 pq.t⟩
       | false =>
        have HI : Hid (RiseE (pendB s) (·.tid) l (k + 1)) := riseE_step I.out hkl (by rw [HPB.out, hn1]; rfl) HPVH.out
        refine wp_region_qt (by kernel_rfl) (by kernel_rfl) ?_
        repeat
         with_reducible refine wpQuiet_step (fun K hK => ?_)
         go_simp
         first
          | (with_reducible refine hK _ ?_; clear hK K)
          | (rw [if_neg (by decide)]; with_reducible refine hK _ ?_; clear hK K)
          | (apply Exists.intro; with_reducible refine ⟨fun _ => ?_, hK _ ?_⟩; (first | (go_at_call 54; exact qt_s (HH.out _)) | (go_at_call 92; exact qt_t (HR.out _)) | (go_at_call 79; exact qt_s (HC.out _))); clear hK K)
        with_reducible refine wpQuiet_nil ?_
        rintro _ ⟨pq, rfl⟩
        go_wp2_with fail
        go_roundg (m - (k + 1))
        case measure => omega
        case rel => exact ⟨k + 1, by go_num, by omega, by omega, (TT.out.trans0 T4.out).trans0 pq.t, (TT.out.trans0 T4.out).trans0 pq.t |> fun _ => HB4.out.keep pq.t, HI⟩
    ·have hk0 : 0 < k := by omega
     have hk1 : (k : Int) - 1 = ((k - 1 : Nat) : Int) := by omega
     have hk3 : k - 1 < m := by omega
     have hk4 : IntKind.i64.wrap ((k - 1 : Nat) : Int) = ((k - 1 : Nat) : Int) := IntWalk.i64_in _ (by omega)
     have hd0 : decide ((0 : Int) < (k : Int)) = true := decide_eq_true (by omega)
     have hd0' : decide (0 < k) = true := decide_eq_true (by omega)
     have he1 := (HC0.out (k - 1) hk1').1
     obtain ⟨t1, ht1⟩ : ∃ x, (l[k - 1]'hk1').tid = x := ⟨_, rfl⟩
     rw [ht1] at he1
     have HT1 := Lib.hid ht1
     have e1' : ∀ p : TchW w4, p.wo.cell? ⟨b, o + (k - 1) * 2, none⟩ = some (.int .i64 t1) := fun p => p.cell (T4.out.cell he1 (fun h => h))
     clear ht1 he1 h0
     by_cases hyx : t1 < t
     ·have hd : decide (t <= t1) = false := decide_eq_false (by omega)
      have HPVH : Hid (∀ _ : 0 < k, (fun p : PendM => p.tid) (l[k - 1]'hk1') < (fun p : PendM => p.tid) l[k]) := fun h => by show (l[k - 1]'hk1').tid < l[k].tid; rw [HT1.out, HT0.out]; exact hyx
      cases hn1 : decide (1 <= np) with
      | false =>
       have hn2 : ¬ 1 <= np := by simpa using hn1
       have hn3 : decide ((np : Int) < 1) = true := decide_eq_true (by omega)
       have hn4 : np = 0 := by omega
       have HN : Hid (res = false) := HRES.out.symm.trans <| riseE_bad hkl (.inl (by rw [HPB.out, hn1]; simp))
       clear hn1 hn2
       subst hn4
       refine wp_region_qt (by kernel_rfl) (by kernel_rfl) ?_
       repeat
        with_reducible refine wpQuiet_step (fun K hK => ?_)
        go_simp
        first
         | (with_reducible refine hK _ ?_; clear hK K)
         | (rw [if_neg (by decide)]; with_reducible refine hK _ ?_; clear hK K)
         | (apply Exists.intro; with_reducible refine ⟨fun _ => ?_, hK _ ?_⟩; (first | (go_at_call 54; exact qt_s (HH.out _)) | (go_at_call 92; exact qt_t (HR.out _)) | (go_at_call 79; exact qt_s (HC.out _))); clear hK K)
       with_reducible refine wpQuiet_nil ?_
       rintro _ ⟨pq, rfl⟩
       go_wp2_with fail
       go_ret
       exact ⟨ret_b HN.out.symm, (TT.out.trans0 T4.out).trans0 pq.t⟩
      | true =>
       have hn6 : 1 <= np := by simpa using hn1
       have hn3 : decide ((np : Int) < 1) = false := decide_eq_false (by omega)
       have hn5 : np ≠ 0 := by omega
       cases qr with
       | false =>
        have HN : Hid (res = false) := HRES.out.symm.trans <| riseE_bad hkl (.inl (by rw [HPB.out]; simp))
        refine wp_region_qt (by kernel_rfl) (by kernel_rfl) ?_
        repeat
         with_reducible refine wpQuiet_step (fun K hK => ?_)
         go_simp
         first
          | (with_reducible refine hK _ ?_; clear hK K)
          | (rw [if_neg (by decide)]; with_reducible refine hK _ ?_; clear hK K)
          | (apply Exists.intro; with_reducible refine ⟨fun _ => ?_, hK _ ?_⟩; (first | (go_at_call 54; exact qt_s (HH.out _)) | (go_at_call 92; exact qt_t (HR.out _)) | (go_at_call 79; exact qt_s (HC.out _))); clear hK K)
        with_reducible refine wpQuiet_nil ?_
        rintro _ ⟨pq, rfl⟩
        go_wp2_with fail
        go_ret
        exact ⟨ret_b HN.out.symm, (TT.out.trans0 T4.out).trans0 pq.t⟩
       | true =>
        cases qc with
        | true =>
         have HN : Hid (res = false) := HRES.out.symm.trans <| riseE_bad hkl (.inl (by rw [HPB.out]; simp))
         refine wp_region_qt (by kernel_rfl) (by kernel_rfl) ?_
         repeat
          with_reducible refine wpQuiet_step (fun K hK => ?_)
          go_simp
          first
           | (with_reducible refine hK _ ?_; clear hK K)
           | (rw [if_neg (by decide)]; with_reducible refine hK _ ?_; clear hK K)
           | (apply Exists.intro; with_reducible refine ⟨fun _ => ?_, hK _ ?_⟩; (first | (go_at_call 54; exact qt_s (HH.out _)) | (go_at_call 92; exact qt_t (HR.out _)) | (go_at_call 79; exact qt_s (HC.out _))); clear hK K)
         with_reducible refine wpQuiet_nil ?_
         rintro _ ⟨pq, rfl⟩
         go_wp2_with fail
         go_ret
         exact ⟨ret_b HN.out.symm, (TT.out.trans0 T4.out).trans0 pq.t⟩
        | false =>
         have HI : Hid (RiseE (pendB s) (·.tid) l (k + 1)) := riseE_step I.out hkl (by rw [HPB.out, hn1]; rfl) HPVH.out
         refine wp_region_qt (by kernel_rfl) (by kernel_rfl) ?_
         repeat
          with_reducible refine wpQuiet_step (fun K hK => ?_)
          go_simp
          first
           | (with_reducible refine hK _ ?_; clear hK K)
           | (rw [if_neg (by decide)]; with_reducible refine hK _ ?_; clear hK K)
           | (apply Exists.intro; with_reducible refine ⟨fun _ => ?_, hK _ ?_⟩; (first | (go_at_call 54; exact qt_s (HH.out _)) | (go_at_call 92; exact qt_t (HR.out _)) | (go_at_call 79; exact qt_s (HC.out _))); clear hK K)
         with_reducible refine wpQuiet_nil ?_
         rintro _ ⟨pq, rfl⟩
         go_wp2_with fail
         go_roundg (m - (k + 1))
         case measure => omega
         case rel => exact ⟨k + 1, by go_num, by omega, by omega, (TT.out.trans0 T4.out).trans0 pq.t, (TT.out.trans0 T4.out).trans0 pq.t |> fun _ => HB4.out.keep pq.t, HI⟩
     ·have hd : decide (t <= t1) = true := decide_eq_true (by omega)
      have HN : Hid (res = false) := HRES.out.symm.trans <| riseE_bad hkl (.inr ⟨hk0, by show ¬ l[k - 1].tid < l[k].tid; rw [HT1.out, HT0.out]; exact hyx⟩)
      refine wp_region_qt (by kernel_rfl) (by kernel_rfl) ?_
      repeat
       with_reducible refine wpQuiet_step (fun K hK => ?_)
       go_simp
       first
        | (with_reducible refine hK _ ?_; clear hK K)
        | (rw [if_neg (by decide)]; with_reducible refine hK _ ?_; clear hK K)
        | (apply Exists.intro; with_reducible refine ⟨fun _ => ?_, hK _ ?_⟩; (first | (go_at_call 54; exact qt_s (HH.out _)) | (go_at_call 92; exact qt_t (HR.out _)) | (go_at_call 79; exact qt_s (HC.out _))); clear hK K)
      with_reducible refine wpQuiet_nil ?_
      rintro _ ⟨pq, rfl⟩
      go_wp2_with fail
      go_ret
      exact ⟨ret_b HN.out.symm, (TT.out.trans0 T4.out).trans0 pq.t⟩
   ·have hne : Hid (homeM t ≠ s.broker) := hh
    obtain ⟨hm2, hhm2⟩ : ∃ x, homeM t = x := ⟨_, rfl⟩
    rw [hhm2] at HH hh
    have hd : (hm2 == s.broker) = false := by simpa using hh
    have hd2 : (hm2 != s.broker) = true := by simpa using hh
    clear hh hhm2
    have HN : Hid (res = false) := HRES.out.symm.trans <| riseE_bad hkl (.inl (by rw [HPB.out, decide_eq_false hne.out]; rfl))
    refine wp_region_qt (by kernel_rfl) (by kernel_rfl) ?_
    repeat
     with_reducible refine wpQuiet_step (fun K hK => ?_)
     go_simp
     first
      | (with_reducible refine hK _ ?_; clear hK K)
      | (rw [if_neg (by decide)]; with_reducible refine hK _ ?_; clear hK K)
      | (apply Exists.intro; with_reducible refine ⟨fun _ => ?_, hK _ ?_⟩; (first | (go_at_call 54; exact qt_s (HH.out _)) | (go_at_call 92; exact qt_t (HR.out _)) | (go_at_call 79; exact qt_s (HC.out _))); clear hK K)
    with_reducible refine wpQuiet_nil ?_
    rintro _ ⟨pq, rfl⟩
    go_wp2_with fail
    go_ret
    exact ⟨ret_b HN.out.symm, (TT.out.trans0 T4.out).trans0 pq.t⟩
  ·obtain rfl : m = k := by omega
   have HN : Hid (res = true) := HRES.out.symm.trans <| riseE_all.1 (by rw [HM.out]; exact I.out)
   clear hgk hlt hk
   go_wp2_with fail
   go_ret
   exact ⟨ret_b HN.out.symm, TT.out⟩
end
end Go.Proofs.YtelaljoebdpicaaGreat
