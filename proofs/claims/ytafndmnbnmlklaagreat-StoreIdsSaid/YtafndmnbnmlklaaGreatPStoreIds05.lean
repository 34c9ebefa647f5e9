/- Part 5 of what the proof of StoreIds rests on. No condition. -/
import Derived.Test.YtafndmnbnmlklaaGreatPStoreIds02
import Derived.Test.YtafndmnbnmlklaaGreatPStoreIds03
import Derived.Test.YtafndmnbnmlklaaGreatPStoreIds04
namespace Go.Proofs.YtafndmnbnmlklaaGreat
set_option maxRecDepth 100000
set_option maxHeartbeats 60000000
set_option linter.unusedVariables false
set_option linter.unusedSimpArgs false
set_option linter.unusedSectionVars false
section
open Go.RowKit Go.Maps
theorem between_any (n lo hi : Int) (w : World) : Calls Tryz.prog 75 #[.int .i64 n, .int .i64 lo, .int .i64 hi] w fun e w' => e = .returned (.bool (decide (lo <= n) && decide (n <= hi))) /\ w = w' := by
 by_cases h : lo <= n
 ·have hd : decide (lo <= n) = true := decide_eq_true h
  go_enter Tryz.func75, Tryz.ntmps75
  go_wp2_with fail
  go_ret
  exact ⟨ret_b (by first | rfl | (rw [hd]; rfl) | simp [hd]), rfl⟩
 ·have hd : decide (lo <= n) = false := decide_eq_false h
  go_enter Tryz.func75, Tryz.ntmps75
  go_wp2_with fail
  go_ret
  exact ⟨ret_b (by first | rfl | (rw [hd]; rfl) | simp [hd]), rfl⟩
theorem may1_any (a : Int) (y : Value) (hy : y.oneCell' = true) (w : World) : Calls Tryz.prog 77 #[.agg #[.int .i64 a, y]] w fun e w' => e = .returned (.int .i64 a) /\ Tch No w w' := by
 go_enter Tryz.func77, Tryz.ntmps77
 go_wp2_with fail
 go_ret
 exact ⟨rfl, Tch.alloc _ _⟩
theorem may2_any (a : Int) (y : Value) (hy : y.oneCell' = true) (w : World) : Calls Tryz.prog 79 #[.agg #[.int .i64 a, y]] w fun e w' => e = .returned (.int .i64 a) /\ Tch No w w' := by
 go_enter Tryz.func79, Tryz.ntmps79
 go_wp2_with fail
 go_ret
 exact ⟨rfl, Tch.alloc _ _⟩
theorem may3_any (a : Int) (y : Value) (hy : y.oneCell' = true) (w : World) : Calls Tryz.prog 81 #[.agg #[.int .i64 a, y]] w fun e w' => e = .returned (.int .i64 a) /\ Tch No w w' := by
 go_enter Tryz.func81, Tryz.ntmps81
 go_wp2_with fail
 go_ret
 exact ⟨rfl, Tch.alloc _ _⟩
theorem may4_any (a : Int) (y : Value) (hy : y.oneCell' = true) (w : World) : Calls Tryz.prog 82 #[.agg #[.int .i64 a, y]] w fun e w' => e = .returned (.int .i64 a) /\ Tch No w w' := by
 go_enter Tryz.func82, Tryz.ntmps82
 go_wp2_with fail
 go_ret
 exact ⟨rfl, Tch.alloc _ _⟩
theorem tids1 {α : Type} (f : α -> Int) (g : α -> Value) (l : List α) (hi64 : ∀ x ∈ l, I64 (f x)) (v : Value) (w : World) (h : CellsAt w v l.length 2 (l.flatMap (fun x => [.int .i64 (f x), g x]))) (hg : ∀ x ∈ l, ∃ a n c, g x = .slice a n c) :
  Calls Tryz.prog 76 #[v, .func (.func 77) #[] #[]] w fun e w' => e = .returned (.bool (((l.map f).all tidB && strictB (l.map f)) && decide ((l.length : Int) <= 2000))) /\ Tch No w w' := by
 have H := Lib.hid h
 have HI := Lib.hid hi64
 have HG := Lib.hid hg
 obtain ⟨m, hm⟩ : ∃ m, l.length = m := ⟨_, rfl⟩
 have HM := Lib.hid hm
 obtain ⟨a, cap, hv, hcap, hmax⟩ := CellsAt.shape h
 rw [hm] at hcap hv ⊢
 have hml : m <= 9223372036854775807 := by unfold maxLen at hmax; omega
 subst hv
 obtain ⟨res, hres⟩ : ∃ res, ((l.map f).all tidB && strictB (l.map f)) = res := ⟨_, rfl⟩
 have HRES := Lib.hid hres
 rw [hres]
 clear h hm hcap hmax hi64 hg hres
 go_enter Tryz.func76, Tryz.ntmps76
 go_wp2_with fail
 go_loopg [9] m (fun kx s9 wr => ∃ k : Nat, s9 = .int .i64 k /\ k <= m /\ m - k <= kx /\ Hid (Tch No w wr) /\ Hid (RiseQ tidB (l.map f) k))
 case atStart => exact ⟨0, rfl, Nat.zero_le _, by omega, Tch.refl _ _, fun i _ h => absurd h (Nat.not_lt_zero _)⟩
 case round =>
  obtain ⟨k, rfl, hk, hgk, TT, I⟩ := hrel
  by_cases hlt : k < m
  ·have hkl : k < l.length := by have := HM.out; omega
   have hkm : k < (l.map f).length := by rw [List.length_map]; exact hkl
   have hb : ∃ b o, a = some ⟨b, o, none⟩ /\ b < wr.heap.size /\ ∀ i (hi : i < l.length), wr.cell? ⟨b, o + i * 2, none⟩ = some (.int .i64 (f l[i])) /\ wr.cell? ⟨b, o + i * 2 + 1, none⟩ = some (g l[i]) := by
    rcases pair_cells H.out with ⟨_, h0⟩ | ⟨b, o, cap2, h1, _, _, h4, h5⟩
    ·subst h0; simp at hkl
    ·rw [HM.out] at h1
     injection h1 with h1 _ _
     exact ⟨b, o, h1, Nat.lt_of_lt_of_le h4 TT.out.size, fun i hi => ⟨TT.out.cell (h5 i hi).1 (fun h => h), TT.out.cell (h5 i hi).2 (fun h => h)⟩⟩
   obtain ⟨b, o, rfl, hbl, hc⟩ := hb
   have hc1 := (hc k hkl).1
   have hc2 := (hc k hkl).2
   have HC := Lib.hid hc
   clear hc
   obtain ⟨ya, yn, yc, hyy⟩ := HG.out _ (List.getElem_mem hkl)
   have hx6 := HI.out _ (List.getElem_mem hkl)
   obtain ⟨x, hx⟩ : ∃ x, f l[k] = x := ⟨_, rfl⟩
   rw [hx] at hc1 hx6
   rw [hyy] at hc2
   have HX : Hid ((l.map f)[k] = x) := by rw [Hid, List.getElem_map]; exact hx
   have HMay := Lib.hid (fun W => may1_any x (.slice ya yn yc) rfl W)
   have HT := Lib.hid (fun W => ktid_any x hx6 W)
   have HBL := Lib.hid hbl
   clear hx hyy hx6 hbl
   go_upto_region 4 with fail
   refine wp_world (fun w4 => Hid (Tch No wr w4) /\ w4.cell? ⟨wr.heap.size, 0, none⟩ = some (.int .i64 x) /\ w4.cell? ⟨wr.heap.size, 1, none⟩ = some (.slice ya yn yc)) ⟨Tch.alloc _ _, box_cell _ _ _ 0 (by simp), box_cell _ _ _ 1 (by simp)⟩ ?_
   rintro w4 ⟨T4, d0, d1⟩
   have d0' : ∀ p : TchW w4, p.wo.cell? ⟨wr.heap.size, 0, none⟩ = some (.int .i64 x) := fun p => p.cell d0
   have d1' : ∀ p : TchW w4, p.wo.cell? ⟨wr.heap.size, 1, none⟩ = some (.slice ya yn yc) := fun p => p.cell d1
   clear hc1 hc2 d0 d1
   cases hbx : tidB x with
   | false =>
    have HN : Hid (res = false) := HRES.out.symm.trans <| riseQ_bad hkm (.inl (by rw [HX.out]; exact hbx))
    rw [hbx] at HT
    clear hbx
    refine wp_region_qt (by kernel_rfl) (by kernel_rfl) ?_
    repeat
     with_reducible refine wpQuiet_step (fun K hK => ?_)
     go_simp
     first
      | (with_reducible refine hK _ ?_; clear hK K)
      | (rw [if_neg (by decide)]; with_reducible refine hK _ ?_; clear hK K)
      | (apply Exists.intro; with_reducible refine ⟨fun _ => ?_, hK _ ?_⟩; (first | (go_at_call 77; exact qt_t (HMay.out _)) | (go_at_call 159; exact qt_s (HT.out _))); clear hK K)
    with_reducible refine wpQuiet_nil ?_
    rintro _ ⟨pq, rfl⟩
    go_wp2_with fail
    go_ret
    exact ⟨ret_b (by rw [HN.out]; rfl), (TT.out.trans0 T4.out).trans0 pq.t⟩
   | true =>
    rw [hbx] at HT
    have HX2 := Lib.hid hbx
    clear hbx
    by_cases h0 : k = 0
    ·have HI : Hid (RiseQ tidB (l.map f) (k + 1)) := riseQ_step I.out hkm (by rw [HX.out]; exact HX2.out) (fun h => by omega)
     subst h0
     refine wp_region_qt (by kernel_rfl) (by kernel_rfl) ?_
     repeat
      with_reducible refine wpQuiet_step (fun K hK => ?_)
      go_simp
      first
       | (with_reducible refine hK _ ?_; clear hK K)
       | (rw [if_neg (by decide)]; with_reducible refine hK _ ?_; clear hK K)
       | (apply Exists.intro; with_reducible refine ⟨fun _ => ?_, hK _ ?_⟩; (first | (go_at_call 77; exact qt_t (HMay.out _)) | (go_at_call 159; exact qt_s (HT.out _))); clear hK K)
     with_reducible refine wpQuiet_nil ?_
     rintro _ ⟨pq, rfl⟩
     go_wp2_with fail
     go_roundg (m - 1)
     case measure => omega
     case rel => exact ⟨1, by go_num, by omega, by omega, (TT.out.trans0 T4.out).trans0 pq.t, HI⟩
    ·have hk0 : 0 < k := by omega
     have hk1' : k - 1 < l.length := by omega
     have hk1 : (k : Int) - 1 = ((k - 1 : Nat) : Int) := by omega
     have hk3 : k - 1 < m := by omega
     have hk4 : IntKind.i64.wrap ((k - 1 : Nat) : Int) = ((k - 1 : Nat) : Int) := IntWalk.i64_in _ (by omega)
     have hd0 : decide ((0 : Int) < (k : Int)) = true := decide_eq_true (by omega)
     have hd0' : decide (0 < k) = true := decide_eq_true (by omega)
     obtain ⟨za, zn, zc, hzz⟩ := HG.out _ (List.getElem_mem hk1')
     have he1 := (HC.out (k - 1) hk1').1
     have he2 := (HC.out (k - 1) hk1').2
     obtain ⟨x1, hx1⟩ : ∃ x, f (l[k - 1]'hk1') = x := ⟨_, rfl⟩
     rw [hx1] at he1
     rw [hzz] at he2
     have HX1 : Hid ((l.map f)[k - 1]'(by omega) = x1) := by rw [Hid, List.getElem_map]; exact hx1
     have e1' : ∀ p : TchW w4, p.wo.cell? ⟨b, o + (k - 1) * 2, none⟩ = some (.int .i64 x1) := fun p => p.cell (T4.out.cell he1 (fun h => h))
     have e2' : ∀ p : TchW w4, p.wo.cell? ⟨b, o + (k - 1) * 2 + 1, none⟩ = some (.slice za zn zc) := fun p => p.cell (T4.out.cell he2 (fun h => h))
     have HMay2 := Lib.hid (fun W => may1_any x1 (.slice za zn zc) rfl W)
     clear hx1 hzz he1 he2
     by_cases hyx : x1 < x
     ·have HI : Hid (RiseQ tidB (l.map f) (k + 1)) := riseQ_step I.out hkm (by rw [HX.out]; exact HX2.out) (fun h => by rw [HX1.out, HX.out]; exact hyx)
      have hd : decide (x <= x1) = false := decide_eq_false (by omega)
      refine wp_region_qt (by kernel_rfl) (by kernel_rfl) ?_
      repeat
       with_reducible refine wpQuiet_step (fun K hK => ?_)
       go_simp
       first
        | (with_reducible refine hK _ ?_; clear hK K)
        | (rw [if_neg (by decide)]; with_reducible refine hK _ ?_; clear hK K)
        | (apply Exists.intro; with_reducible refine ⟨fun _ => ?_, hK _ ?_⟩; (first | (go_at_call 77; with_reducible exact qt_t (HMay.out _)) | (go_at_call 77; with_reducible exact qt_t (HMay2.out _)) | (go_at_call 159; exact qt_s (HT.out _))); clear hK K)
      with_reducible refine wpQuiet_nil ?_
      rintro _ ⟨pq, rfl⟩
      go_wp2_with fail
      go_roundg (m - (k + 1))
      case measure => omega
      case rel => exact ⟨k + 1, by go_num, by omega, by omega, (TT.out.trans0 T4.out).trans0 pq.t, HI⟩
     ·have hd : decide (x <= x1) = true := decide_eq_true (by omega)
      have HN : Hid (res = false) := HRES.out.symm.trans <| riseQ_bad hkm (.inr ⟨hk0, by rw [HX1.out, HX.out]; exact hyx⟩)
      refine wp_region_qt (by kernel_rfl) (by kernel_rfl) ?_
      repeat
       with_reducible refine wpQuiet_step (fun K hK => ?_)
       go_simp
       first
        | (with_reducible refine hK _ ?_; clear hK K)
        | (rw [if_neg (by decide)]; with_reducible refine hK _ ?_; clear hK K)
        | (apply Exists.intro; with_reducible refine ⟨fun _ => ?_, hK _ ?_⟩; (first | (go_at_call 77; with_reducible exact qt_t (HMay.out _)) | (go_at_call 77; with_reducible exact qt_t (HMay2.out _)) | (go_at_call 159; exact qt_s (HT.out _))); clear hK K)
      with_reducible refine wpQuiet_nil ?_
      rintro _ ⟨pq, rfl⟩
      go_wp2_with fail
      go_ret
      exact ⟨ret_b (by rw [HN.out]; rfl), (TT.out.trans0 T4.out).trans0 pq.t⟩
  ·obtain rfl : k = m := by omega
   have HN : Hid (res = true) := HRES.out.symm.trans <| riseQ_all.1 (by rw [List.length_map, HM.out]; exact I.out)
   clear hgk hlt hk
   go_wp2_with fail
   go_ret
   exact ⟨ret_b (by first | rfl | (rw [HN.out]; rfl) | simp [HN.out]), TT.out⟩
theorem tids2 {α : Type} (f : α -> Int) (g : α -> Value) (l : List α) (hi64 : ∀ x ∈ l, I64 (f x)) (v : Value) (w : World) (h : CellsAt w v l.length 2 (l.flatMap (fun x => [.int .i64 (f x), g x]))) (hg : ∀ x ∈ l, ∃ b, g x = .bool b) :
  Calls Tryz.prog 78 #[v, .func (.func 79) #[] #[]] w fun e w' => e = .returned (.bool (((l.map f).all tidB && strictB (l.map f)) && decide ((l.length : Int) <= 2000))) /\ Tch No w w' := by
 have H := Lib.hid h
 have HI := Lib.hid hi64
 have HG := Lib.hid hg
 obtain ⟨m, hm⟩ : ∃ m, l.length = m := ⟨_, rfl⟩
 have HM := Lib.hid hm
 obtain ⟨a, cap, hv, hcap, hmax⟩ := CellsAt.shape h
 rw [hm] at hcap hv ⊢
 have hml : m <= 9223372036854775807 := by unfold maxLen at hmax; omega
 subst hv
 obtain ⟨res, hres⟩ : ∃ res, ((l.map f).all tidB && strictB (l.map f)) = res := ⟨_, rfl⟩
 have HRES := Lib.hid hres
 rw [hres]
 clear h hm hcap hmax hi64 hg hres
 go_enter Tryz.func78, Tryz.ntmps78
 go_wp2_with fail
 go_loopg [9] m (fun kx s9 wr => ∃ k : Nat, s9 = .int .i64 k /\ k <= m /\ m - k <= kx /\ Hid (Tch No w wr) /\ Hid (RiseQ tidB (l.map f) k))
 case atStart => exact ⟨0, rfl, Nat.zero_le _, by omega, Tch.refl _ _, fun i _ h => absurd h (Nat.not_lt_zero _)⟩
 case round =>
  obtain ⟨k, rfl, hk, hgk, TT, I⟩ := hrel
  by_cases hlt : k < m
  ·have hkl : k < l.length := by have := HM.out; omega
   have hkm : k < (l.map f).length := by rw [List.length_map]; exact hkl
   have hb : ∃ b o, a = some ⟨b, o, none⟩ /\ b < wr.heap.size /\ ∀ i (hi : i < l.length), wr.cell? ⟨b, o + i * 2, none⟩ = some (.int .i64 (f l[i])) /\ wr.cell? ⟨b, o + i * 2 + 1, none⟩ = some (g l[i]) := by
    rcases pair_cells H.out with ⟨_, h0⟩ | ⟨b, o, cap2, h1, _, _, h4, h5⟩
    ·subst h0; simp at hkl
    ·rw [HM.out] at h1
     injection h1 with h1 _ _
     exact ⟨b, o, h1, Nat.lt_of_lt_of_le h4 TT.out.size, fun i hi => ⟨TT.out.cell (h5 i hi).1 (fun h => h), TT.out.cell (h5 i hi).2 (fun h => h)⟩⟩
   obtain ⟨b, o, rfl, hbl, hc⟩ := hb
   have hc1 := (hc k hkl).1
   have hc2 := (hc k hkl).2
   have HC := Lib.hid hc
   clear hc
   obtain ⟨yb, hyy⟩ := HG.out _ (List.getElem_mem hkl)
   have hx6 := HI.out _ (List.getElem_mem hkl)
   obtain ⟨x, hx⟩ : ∃ x, f l[k] = x := ⟨_, rfl⟩
   rw [hx] at hc1 hx6
   rw [hyy] at hc2
   have HX : Hid ((l.map f)[k] = x) := by rw [Hid, List.getElem_map]; exact hx
   have HMay := Lib.hid (fun W => may2_any x (.bool yb) rfl W)
   have HT := Lib.hid (fun W => ktid_any x hx6 W)
   have HBL := Lib.hid hbl
   clear hx hyy hx6 hbl
   go_upto_region 4 with fail
   refine wp_world (fun w4 => Hid (Tch No wr w4) /\ w4.cell? ⟨wr.heap.size, 0, none⟩ = some (.int .i64 x) /\ w4.cell? ⟨wr.heap.size, 1, none⟩ = some (.bool yb)) ⟨Tch.alloc _ _, box_cell _ _ _ 0 (by simp), box_cell _ _ _ 1 (by simp)⟩ ?_
   rintro w4 ⟨T4, d0, d1⟩
   have d0' : ∀ p : TchW w4, p.wo.cell? ⟨wr.heap.size, 0, none⟩ = some (.int .i64 x) := fun p => p.cell d0
   have d1' : ∀ p : TchW w4, p.wo.cell? ⟨wr.heap.size, 1, none⟩ = some (.bool yb) := fun p => p.cell d1
   clear hc1 hc2 d0 d1
   cases hbx : tidB x with
   | false =>
    have HN : Hid (res = false) := HRES.out.symm.trans <| riseQ_bad hkm (.inl (by rw [HX.out]; exact hbx))
    rw [hbx] at HT
    clear hbx
    refine wp_region_qt (by kernel_rfl) (by kernel_rfl) ?_
    repeat
     with_reducible refine wpQuiet_step (fun K hK => ?_)
     go_simp
     first
      | (with_reducible refine hK _ ?_; clear hK K)
      | (rw [if_neg (by decide)]; with_reducible refine hK _ ?_; clear hK K)
      | (apply Exists.intro; with_reducible refine ⟨fun _ => ?_, hK _ ?_⟩; (first | (go_at_call 79; exact qt_t (HMay.out _)) | (go_at_call 159; exact qt_s (HT.out _))); clear hK K)
    with_reducible refine wpQuiet_nil ?_
    rintro _ ⟨pq, rfl⟩
    go_wp2_with fail
    go_ret
    exact ⟨ret_b (by rw [HN.out]; rfl), (TT.out.trans0 T4.out).trans0 pq.t⟩
   | true =>
    rw [hbx] at HT
    have HX2 := Lib.hid hbx
    clear hbx
    by_cases h0 : k = 0
    ·have HI : Hid (RiseQ tidB (l.map f) (k + 1)) := riseQ_step I.out hkm (by rw [HX.out]; exact HX2.out) (fun h => by omega)
     subst h0
     refine wp_region_qt (by kernel_rfl) (by kernel_rfl) ?_
     repeat
      with_reducible refine wpQuiet_step (fun K hK => ?_)
      go_simp
      first
       | (with_reducible refine hK _ ?_; clear hK K)
       | (rw [if_neg (by decide)]; with_reducible refine hK _ ?_; clear hK K)
       | (apply Exists.intro; with_reducible refine ⟨fun _ => ?_, hK _ ?_⟩; (first | (go_at_call 79; exact qt_t (HMay.out _)) | (go_at_call 159; exact qt_s (HT.out _))); clear hK K)
     with_reducible refine wpQuiet_nil ?_
     rintro _ ⟨pq, rfl⟩
     go_wp2_with fail
     go_roundg (m - 1)
     case measure => omega
     case rel => exact ⟨1, by go_num, by omega, by omega, (TT.out.trans0 T4.out).trans0 pq.t, HI⟩
    ·have hk0 : 0 < k := by omega
     have hk1' : k - 1 < l.length := by omega
     have hk1 : (k : Int) - 1 = ((k - 1 : Nat) : Int) := by omega
     have hk3 : k - 1 < m := by omega
     have hk4 : IntKind.i64.wrap ((k - 1 : Nat) : Int) = ((k - 1 : Nat) : Int) := IntWalk.i64_in _ (by omega)
     have hd0 : decide ((0 : Int) < (k : Int)) = true := decide_eq_true (by omega)
     have hd0' : decide (0 < k) = true := decide_eq_true (by omega)
     obtain ⟨zb, hzz⟩ := HG.out _ (List.getElem_mem hk1')
     have he1 := (HC.out (k - 1) hk1').1
     have he2 := (HC.out (k - 1) hk1').2
     obtain ⟨x1, hx1⟩ : ∃ x, f (l[k - 1]'hk1') = x := ⟨_, rfl⟩
     rw [hx1] at he1
     rw [hzz] at he2
     have HX1 : Hid ((l.map f)[k - 1]'(by omega) = x1) := by rw [Hid, List.getElem_map]; exact hx1
     have e1' : ∀ p : TchW w4, p.wo.cell? ⟨b, o + (k - 1) * 2, none⟩ = some (.int .i64 x1) := fun p => p.cell (T4.out.cell he1 (fun h => h))
     have e2' : ∀ p : TchW w4, p.wo.cell? ⟨b, o + (k - 1) * 2 + 1, none⟩ = some (.bool zb) := fun p => p.cell (T4.out.cell he2 (fun h => h))
     have HMay2 := Lib.hid (fun W => may2_any x1 (.bool zb) rfl W)
     clear hx1 hzz he1 he2
     by_cases hyx : x1 < x
     ·have HI : Hid (RiseQ tidB (l.map f) (k + 1)) := riseQ_step I.out hkm (by rw [HX.out]; exact HX2.out) (fun h => by rw [HX1.out, HX.out]; exact hyx)
      have hd : decide (x <= x1) = false := decide_eq_false (by omega)
      refine wp_region_qt (by kernel_rfl) (by kernel_rfl) ?_
      repeat
       with_reducible refine wpQuiet_step (fun K hK => ?_)
       go_simp
       first
        | (with_reducible refine hK _ ?_; clear hK K)
        | (rw [if_neg (by decide)]; with_reducible refine hK _ ?_; clear hK K)
        | (apply Exists.intro; with_reducible refine ⟨fun _ => ?_, hK _ ?_⟩; (first | (go_at_call 79; with_reducible exact qt_t (HMay.out _)) | (go_at_call 79; with_reducible exact qt_t (HMay2.out _)) | (go_at_call 159; exact qt_s (HT.out _))); clear hK K)
      with_reducible refine wpQuiet_nil ?_
      rintro _ ⟨pq, rfl⟩
      go_wp2_with fail
      go_roundg (m - (k + 1))
      case measure => omega
      case rel => exact ⟨k + 1, by go_num, by omega, by omega, (TT.out.trans0 T4.out).trans0 pq.t, HI⟩
     ·have hd : decide (x <= x1) = true := decide_eq_true (by omega)
      have HN : Hid (res = false) := HRES.out.symm.trans <| riseQ_bad hkm (.inr ⟨hk0, by rw [HX1.out, HX.out]; exact hyx⟩)
      refine wp_region_qt (by kernel_rfl) (by kernel_rfl) ?_
      repeat
       with_reducible refine wpQuiet_step (fun K hK => ?_)
       go_simp
       first
        | (with_reducible refine hK _ ?_; clear hK K)
        | (rw [if_neg (by decide)]; with_reducible refine hK _ ?_; clear hK K)
        | (apply Exists.intro; with_reducible refine ⟨fun _ => ?_, hK _ ?_⟩; (first | (go_at_call 79; with_reducible exact qt_t (HMay.out _)) | (go_at_call 79; with_reducible exact qt_t (HMay2.out _)) | (go_at_call 159; exact qt_s (HT.out _))); clear hK K)
      with_reducible refine wpQuiet_nil ?_
      rintro _ ⟨pq, rfl⟩
      go_wp2_with fail
      go_ret
      exact ⟨ret_b (by rw [HN.out]; rfl), (TT.out.trans0 T4.out).trans0 pq.t⟩
  ·obtain rfl : k = m := by omega
   have HN : Hid (res = true) := HRES.out.symm.trans <| riseQ_all.1 (by rw [List.length_map, HM.out]; exact I.out)
   clear hgk hlt hk
   go_wp2_with fail
   go_ret
   exact ⟨ret_b (by first | rfl | (rw [HN.out]; rfl) | simp [HN.out]), TT.out⟩
theorem tids3 {α : Type} (f : α -> Int) (g : α -> Value) (l : List α) (hi64 : ∀ x ∈ l, I64 (f x)) (v : Value) (w : World) (h : CellsAt w v l.length 2 (l.flatMap (fun x => [.int .i64 (f x), g x]))) (hg : ∀ x ∈ l, ∃ a n c, g x = .slice a n c) :
  Calls Tryz.prog 80 #[v, .func (.func 81) #[] #[]] w fun e w' => e = .returned (.bool (((l.map f).all tidB && strictB (l.map f)) && decide ((l.length : Int) <= 2000))) /\ Tch No w w' := by
 have H := Lib.hid h
 have HI := Lib.hid hi64
 have HG := Lib.hid hg
 obtain ⟨m, hm⟩ : ∃ m, l.length = m := ⟨_, rfl⟩
 have HM := Lib.hid hm
 obtain ⟨a, cap, hv, hcap, hmax⟩ := CellsAt.shape h
 rw [hm] at hcap hv ⊢
 have hml : m <= 9223372036854775807 := by unfold maxLen at hmax; omega
 subst hv
 obtain ⟨res, hres⟩ : ∃ res, ((l.map f).all tidB && strictB (l.map f)) = res := ⟨_, rfl⟩
 have HRES := Lib.hid hres
 rw [hres]
 clear h hm hcap hmax hi64 hg hres
 go_enter Tryz.func80, Tryz.ntmps80
 go_wp2_with fail
 go_loopg [9] m (fun kx s9 wr => ∃ k : Nat, s9 = .int .i64 k /\ k <= m /\ m - k <= kx /\ Hid (Tch No w wr) /\ Hid (RiseQ tidB (l.map f) k))
 case atStart => exact ⟨0, rfl, Nat.zero_le _, by omega, Tch.refl _ _, fun i _ h => absurd h (Nat.not_lt_zero _)⟩
 case round =>
  obtain ⟨k, rfl, hk, hgk, TT, I⟩ := hrel
  by_cases hlt : k < m
  ·have hkl : k < l.length := by have := HM.out; omega
   have hkm : k < (l.map f).length := by rw [List.length_map]; exact hkl
   have hb : ∃ b o, a = some ⟨b, o, none⟩ /\ b < wr.heap.size /\ ∀ i (hi : i < l.length), wr.cell? ⟨b, o + i * 2, none⟩ = some (.int .i64 (f l[i])) /\ wr.cell? ⟨b, o + i * 2 + 1, none⟩ = some (g l[i]) := by
    rcases pair_cells H.out with ⟨_, h0⟩ | ⟨b, o, cap2, h1, _, _, h4, h5⟩
    ·subst h0; simp at hkl
    ·rw [HM.out] at h1
     injection h1 with h1 _ _
     exact ⟨b, o, h1, Nat.lt_of_lt_of_le h4 TT.out.size, fun i hi => ⟨TT.out.cell (h5 i hi).1 (fun h => h), TT.out.cell (h5 i hi).2 (fun h => h)⟩⟩
   obtain ⟨b, o, rfl, hbl, hc⟩ := hb
   have hc1 := (hc k hkl).1
   have hc2 := (hc k hkl).2
   have HC := Lib.hid hc
   clear hc
   obtain ⟨ya, yn, yc, hyy⟩ := HG.out _ (List.getElem_mem hkl)
   have hx6 := HI.out _ (List.getElem_mem hkl)
   obtain ⟨x, hx⟩ : ∃ x, f l[k] = x := ⟨_, rfl⟩
   rw [hx] at hc1 hx6
   rw [hyy] at hc2
   have HX : Hid ((l.map f)[k] = x) := by rw [Hid, List.getElem_map]; exact hx
   have HMay := Lib.hid (fun W => may3_any x (.slice ya yn yc) rfl W)
   have HT := Lib.hid (fun W => ktid_any x hx6 W)
   have HBL := Lib.hid hbl
   clear hx hyy hx6 hbl
   go_upto_region 4 with fail
   refine wp_world (fun w4 => Hid (Tch No wr w4) /\ w4.cell? ⟨wr.heap.size, 0, none⟩ = some (.int .i64 x) /\ w4.cell? ⟨wr.heap.size, 1, none⟩ = some (.slice ya yn yc)) ⟨Tch.alloc _ _, box_cell _ _ _ 0 (by simp), box_cell _ _ _ 1 (by simp)⟩ ?_
   rintro w4 ⟨T4, d0, d1⟩
   have d0' : ∀ p : TchW w4, p.wo.cell? ⟨wr.heap.size, 0, none⟩ = some (.int .i64 x) := fun p => p.cell d0
   have d1' : ∀ p : TchW w4, p.wo.cell? ⟨wr.heap.size, 1, none⟩ = some (.slice ya yn yc) := fun p => p.cell d1
   clear hc1 hc2 d0 d1
   cases hbx : tidB x with
   | false =>
    have HN : Hid (res = false) := HRES.out.symm.trans <| riseQ_bad hkm (.inl (by rw [HX.out]; exact hbx))
    rw [hbx] at HT
    clear hbx
    refine wp_region_qt (by kernel_rfl) (by kernel_rfl) ?_
    repeat
     with_reducible refine wpQuiet_step (fun K hK => ?_)
     go_simp
     first
      | (with_reducible refine hK _ ?_; clear hK K)
      | (rw [if_neg (by decide)]; with_reducible refine hK _ ?_; clear hK K)
      | (apply Exists.intro; with_reducible refine ⟨fun _ => ?_, hK _ ?_⟩; (first | (go_at_call 81; exact qt_t (HMay.out _)) | (go_at_call 159; exact qt_s (HT.out _))); clear hK K)
    with_reducible refine wpQuiet_nil ?_
    rintro _ ⟨pq, rfl⟩
    go_wp2_with fail
    go_ret
    exact ⟨ret_b (by rw [HN.out]; rfl), (TT.out.trans0 T4.out).trans0 pq.t⟩
   | true =>
    rw [hbx] at HT
    have HX2 := Lib.hid hbx
    clear hbx
    by_cases h0 : k = 0
    ·have HI : Hid (RiseQ tidB (l.map f) (k + 1)) := riseQ_step I.out hkm (by rw [HX.out]; exact HX2.out) (fun h => by omega)
     subst h0
     refine wp_region_qt (by kernel_rfl) (by kernel_rfl) ?_
     repeat
      with_reducible refine wpQuiet_step (fun K hK => ?_)
      go_simp
      first
       | (with_reducible refine hK _ ?_; clear hK K)
       | (rw [if_neg (by decide)]; with_reducible refine hK _ ?_; clear hK K)
       | (apply Exists.intro; with_reducible refine ⟨fun _ => ?_, hK _ ?_⟩; (first | (go_at_call 81; exact qt_t (HMay.out _)) | (go_at_call 159; exact qt_s (HT.out _))); clear hK K)
     with_reducible refine wpQuiet_nil ?_
     rintro _ ⟨pq, rfl⟩
     go_wp2_with fail
     go_roundg (m - 1)
     case measure => omega
     case rel => exact ⟨1, by go_num, by omega, by omega, (TT.out.trans0 T4.out).trans0 pq.t, HI⟩
    ·have hk0 : 0 < k := by omega
     have hk1' : k - 1 < l.length := by omega
     have hk1 : (k : Int) - 1 = ((k - 1 : Nat) : Int) := by omega
     have hk3 : k - 1 < m := by omega
     have hk4 : IntKind.i64.wrap ((k - 1 : Nat) : Int) = ((k - 1 : Nat) : Int) := IntWalk.i64_in _ (by omega)
     have hd0 : decide ((0 : Int) < (k : Int)) = true := decide_eq_true (by omega)
     have hd0' : decide (0 < k) = true := decide_eq_true (by omega)
     obtain ⟨za, zn, zc, hzz⟩ := HG.out _ (List.getElem_mem hk1')
     have he1 := (HC.out (k - 1) hk1').1
     have he2 := (HC.out (k - 1) hk1').2
     obtain ⟨x1, hx1⟩ : ∃ x, f (l[k - 1]'hk1') = x := ⟨_, rfl⟩
     rw [hx1] at he1
     rw [hzz] at he2
     have HX1 : Hid ((l.map f)[k - 1]'(by omega) = x1) := by rw [Hid, List.getElem_map]; exact hx1
     have e1' : ∀ p : TchW w4, p.wo.cell? ⟨b, o + (k - 1) * 2, none⟩ = some (.int .i64 x1) := fun p => p.cell (T4.out.cell he1 (fun h => h))
     have e2' : ∀ p : TchW w4, p.wo.cell? ⟨b, o + (k - 1) * 2 + 1, none⟩ = some (.slice za zn zc) := fun p => p.cell (T4.out.cell he2 (fun h => h))
     have HMay2 := Lib.hid (fun W => may3_any x1 (.slice za zn zc) rfl W)
     clear hx1 hzz he1 he2
     by_cases hyx : x1 < x
     ·have HI : Hid (RiseQ tidB (l.map f) (k + 1)) := riseQ_step I.out hkm (by rw [HX.out]; exact HX2.out) (fun h => by rw [HX1.out, HX.out]; exact hyx)
      have hd : decide (x <= x1) = false := decide_eq_false (by omega)
      refine wp_region_qt (by kernel_rfl) (by kernel_rfl) ?_
      repeat
       with_reducible refine wpQuiet_step (fun K hK => ?_)
       go_simp
       first
        | (with_reducible refine hK _ ?_; clear hK K)
        | (rw [if_neg (by decide)]; with_reducible refine hK _ ?_; clear hK K)
        | (apply Exists.intro; with_reducible refine ⟨fun _ => ?_, hK _ ?_⟩; (first | (go_at_call 81; with_reducible exact qt_t (HMay.out _)) | (go_at_call 81; with_reducible exact qt_t (HMay2.out _)) | (go_at_call 159; exact qt_s (HT.out _))); clear hK K)
      with_reducible refine wpQuiet_nil ?_
      rintro _ ⟨pq, rfl⟩
      go_wp2_with fail
      go_roundg (m - (k + 1))
      case measure => omega
      case rel => exact ⟨k + 1, by go_num, by omega, by omega, (TT.out.trans0 T4.out).trans0 pq.t, HI⟩
     ·have hd : decide (x <= x1) = true := decide_eq_true (by omega)
      have HN : Hid (res = false) := HRES.out.symm.trans <| riseQ_bad hkm (.inr ⟨hk0, by rw [HX1.out, HX.out]; exact hyx⟩)
      refine wp_region_qt (by kernel_rfl) (by kernel_rfl) ?_
      repeat
       with_reducible refine wpQuiet_step (fun K hK => ?_)
       go_simp
       first
        | (with_reducible refine hK _ ?_; clear hK K)
        | (rw [if_neg (by decide)]; with_reducible refine hK _ ?_; clear hK K)
        | (apply Exists.intro; with_reducible refine ⟨fun _ => ?_, hK _ ?_⟩; (first | (go_at_call 81; with_reducible exact qt_t (HMay.out _)) | (go_at_call 81; with_reducible exact qt_t (HMay2.out _)) | (go_at_call 159; exact qt_s (HT.out _))); clear hK K)
      with_reducible refine wpQuiet_nil ?_
      rintro _ ⟨pq, rfl⟩
      go_wp2_with fail
      go_ret
      exact ⟨ret_b (by rw [HN.out]; rfl), (TT.out.trans0 T4.out).trans0 pq.t⟩
  ·obtain rfl : k = m := by omega
   have HN : Hid (res = true) := HRES.out.symm.trans <| riseQ_all.1 (by rw [List.length_map, HM.out]; exact I.out)
   clear hgk hlt hk
   go_wp2_with fail
   go_ret
   exact ⟨ret_b (by first | rfl | (rw [HN.out]; rfl) | simp [HN.out]), TT.out⟩
theorem tids4 {α : Type} (f : α -> Int) (g : α -> Value) (l : List α) (hi64 : ∀ x ∈ l, I64 (f x)) (v : Value) (w : World) (h : CellsAt w v l.length 2 (l.flatMap (fun x => [.int .i64 (f x), g x]))) (hg : ∀ x ∈ l, ∃ a n c, g x = .slice a n c) :
  Calls Tryz.prog 80 #[v, .func (.func 82) #[] #[]] w fun e w' => e = .returned (.bool (((l.map f).all tidB && strictB (l.map f)) && decide ((l.length : Int) <= 2000))) /\ Tch No w w' := by
 have H := Lib.hid h
 have HI := Lib.hid hi64
 have HG := Lib.hid hg
 obtain ⟨m, hm⟩ : ∃ m, l.length = m := ⟨_, rfl⟩
 have HM := Lib.hid hm
 obtain ⟨a, cap, hv, hcap, hmax⟩ := CellsAt.shape h
 rw [hm] at hcap hv ⊢
 have hml : m <= 9223372036854775807 := by unfold maxLen at hmax; omega
 subst hv
 obtain ⟨res, hres⟩ : ∃ res, ((l.map f).all tidB && strictB (l.map f)) = res := ⟨_, rfl⟩
 have HRES := Lib.hid hres
 rw [hres]
 clear h hm hcap hmax hi64 hg hres
 go_enter Tryz.func80, Tryz.ntmps80
 go_wp2_with fail
 go_loopg [9] m (fun kx s9 wr => ∃ k : Nat, s9 = .int .i64 k /\ k <= m /\ m - k <= kx /\ Hid (Tch No w wr) /\ Hid (RiseQ tidB (l.map f) k))
 case atStart => exact ⟨0, rfl, Nat.zero_le _, by omega, Tch.refl _ _, fun i _ h => absurd h (Nat.not_lt_zero _)⟩
 case round =>
  obtain ⟨k, rfl, hk, hgk, TT, I⟩ := hrel
  by_cases hlt : k < m
  ·have hkl : k < l.length := by have := HM.out; omega
   have hkm : k < (l.map f).length := by rw [List.length_map]; exact hkl
   have hb : ∃ b o, a = some ⟨b, o, none⟩ /\ b < wr.heap.size /\ ∀ i (hi : i < l.length), wr.cell? ⟨b, o + i * 2, none⟩ = some (.int .i64 (f l[i])) /\ wr.cell? ⟨b, o + i * 2 + 1, none⟩ = some (g l[i]) := by
    rcases pair_cells H.out with ⟨_, h0⟩ | ⟨b, o, cap2, h1, _, _, h4, h5⟩
    ·subst h0; simp at hkl
    ·rw [HM.out] at h1
     injection h1 with h1 _ _
     exact ⟨b, o, h1, Nat.lt_of_lt_of_le h4 TT.out.size, fun i hi => ⟨TT.out.cell (h5 i hi).1 (fun h => h), TT.out.cell (h5 i hi).2 (fun h => h)⟩⟩
   obtain ⟨b, o, rfl, hbl, hc⟩ := hb
   have hc1 := (hc k hkl).1
   have hc2 := (hc k hkl).2
   have HC := Lib.hid hc
   clear hc
   obtain ⟨ya, yn, yc, hyy⟩ := HG.out _ (List.getElem_mem hkl)
   have hx6 := HI.out _ (List.getElem_mem hkl)
   obtain ⟨x, hx⟩ : ∃ x, f l[k] = x := ⟨_, rfl⟩
   rw [hx] at hc1 hx6
   rw [hyy] at hc2
   have HX : Hid ((l.map f)[k] = x) := by rw [Hid, List.getElem_map]; exact hx
   have HMay := Lib.hid (fun W => may4_any x (.slice ya yn yc) rfl W)
   have HT := Lib.hid (fun W => ktid_any x hx6 W)
   have HBL := Lib.hid hbl
   clear hx hyy hx6 hbl
   go_upto_region 4 with fail
   refine wp_world (fun w4 => Hid (Tch No wr w4) /\ w4.cell? ⟨wr.heap.size, 0, none⟩ = some (.int .i64 x) /\ w4.cell? ⟨wr.heap.size, 1, none⟩ = some (.slice ya yn yc)) ⟨Tch.alloc _ _, box_cell _ _ _ 0 (by simp), box_cell _ _ _ 1 (by simp)⟩ ?_
   rintro w4 ⟨T4, d0, d1⟩
   have d0' : ∀ p : TchW w4, p.wo.cell? ⟨wr.heap.size, 0, none⟩ = some (.int .i64 x) := fun p => p.cell d0
   have d1' : ∀ p : TchW w4, p.wo.cell? ⟨wr.heap.size, 1, none⟩ = some (.slice ya yn yc) := fun p => p.cell d1
   clear hc1 hc2 d0 d1
   cases hbx : tidB x with
   | false =>
    have HN : Hid (res = false) := HRES.out.symm.trans <| riseQ_bad hkm (.inl (by rw [HX.out]; exact hbx))
    rw [hbx] at HT
    clear hbx
    refine wp_region_qt (by kernel_rfl) (by kernel_rfl) ?_
    repeat
     with_reducible refine wpQuiet_step (fun K hK => ?_)
     go_simp
     first
      | (with_reducible refine hK _ ?_; clear hK K)
      | (rw [if_neg (by decide)]; with_reducible refine hK _ ?_; clear hK K)
      | (apply Exists.intro; with_reducible refine ⟨fun _ => ?_, hK _ ?_⟩; (first | (go_at_call 82; exact qt_t (HMay.out _)) | (go_at_call 159; exact qt_s (HT.out _))); clear hK K)
    with_reducible refine wpQuiet_nil ?_
    rintro _ ⟨pq, rfl⟩
    go_wp2_with fail
    go_ret
    exact ⟨ret_b (by rw [HN.out]; rfl), (TT.out.trans0 T4.out).trans0 pq.t⟩
   | true =>
    rw [hbx] at HT
    have HX2 := Lib.hid hbx
    clear hbx
    by_cases h0 : k = 0
    ·have HI : Hid (RiseQ tidB (l.map f) (k + 1)) := riseQ_step I.out hkm (by rw [HX.out]; exact HX2.out) (fun h => by omega)
     subst h0
     refine wp_region_qt (by kernel_rfl) (by kernel_rfl) ?_
     repeat
      with_reducible refine wpQuiet_step (fun K hK => ?_)
      go_simp
      first
       | (with_reducible refine hK _ ?_; clear hK K)
       | (rw [if_neg (by decide)]; with_reducible refine hK _ ?_; clear hK K)
       | (apply Exists.intro; with_reducible refine ⟨fun _ => ?_, hK _ ?_⟩; (first | (go_at_call 82; exact qt_t (HMay.out _)) | (go_at_call 159; exact qt_s (HT.out _))); clear hK K)
     with_reducible refine wpQuiet_nil ?_
     rintro _ ⟨pq, rfl⟩
     go_wp2_with fail
     go_roundg (m - 1)
     case measure => omega
     case rel => exact ⟨1, by go_num, by omega, by omega, (TT.out.trans0 T4.out).trans0 pq.t, HI⟩
    ·have hk0 : 0 < k := by omega
     have hk1' : k - 1 < l.length := by omega
     have hk1 : (k : Int) - 1 = ((k - 1 : Nat) : Int) := by omega
     have hk3 : k - 1 < m := by omega
     have hk4 : IntKind.i64.wrap ((k - 1 : Nat) : Int) = ((k - 1 : Nat) : Int) := IntWalk.i64_in _ (by omega)
     have hd0 : decide ((0 : Int) < (k : Int)) = true := decide_eq_true (by omega)
     have hd0' : decide (0 < k) = true := decide_eq_true (by omega)
     obtain ⟨za, zn, zc, hzz⟩ := HG.out _ (List.getElem_mem hk1')
     have he1 := (HC.out (k - 1) hk1').1
     have he2 := (HC.out (k - 1) hk1').2
     obtain ⟨x1, hx1⟩ : ∃ x, f (l[k - 1]'hk1') = x := ⟨_, rfl⟩
     rw [hx1] at he1
     rw [hzz] at he2
     have HX1 : Hid ((l.map f)[k - 1]'(by omega) = x1) := by rw [Hid, List.getElem_map]; exact hx1
     have e1' : ∀ p : TchW w4, p.wo.cell? ⟨b, o + (k - 1) * 2, none⟩ = some (.int .i64 x1) := fun p => p.cell (T4.out.cell he1 (fun h => h))
     have e2' : ∀ p : TchW w4, p.wo.cell? ⟨b, o + (k - 1) * 2 + 1, none⟩ = some (.slice za zn zc) := fun p => p.cell (T4.out.cell he2 (fun h => h))
     have HMay2 := Lib.hid (fun W => may4_any x1 (.slice za zn zc) rfl W)
     clear hx1 hzz he1 he2
     by_cases hyx : x1 < x
     ·have HI : Hid (RiseQ tidB (l.map f) (k + 1)) := riseQ_step I.out hkm (by rw [HX.out]; exact HX2.out) (fun h => by rw [HX1.out, HX.out]; exact hyx)
      have hd : decide (x <= x1) = false := decide_eq_false (by omega)
      refine wp_region_qt (by kernel_rfl) (by kernel_rfl) ?_
      repeat
       with_reducible refine wpQuiet_step (fun K hK => ?_)
       go_simp
       first
        | (with_reducible refine hK _ ?_; clear hK K)
        | (rw [if_neg (by decide)]; with_reducible refine hK _ ?_; clear hK K)
        | (apply Exists.intro; with_reducible refine ⟨fun _ => ?_, hK _ ?_⟩; (first | (go_at_call 82; with_reducible exact qt_t (HMay.out _)) | (go_at_call 82; with_reducible exact qt_t (HMay2.out _)) | (go_at_call 159; exact qt_s (HT.out _))); clear hK K)
      with_reducible refine wpQuiet_nil ?_
      rintro _ ⟨pq, rfl⟩
      go_wp2_with fail
      go_roundg (m - (k + 1))
      case measure => omega
      case rel => exact ⟨k + 1, by go_num, by omega, by omega, (TT.out.trans0 T4.out).trans0 pq.t, HI⟩
     ·have hd : decide (x <= x1) = true := decide_eq_true (by omega)
      have HN : Hid (res = false) := HRES.out.symm.trans <| riseQ_bad hkm (.inr ⟨hk0, by rw [HX1.out, HX.out]; exact hyx⟩)
      refine wp_region_qt (by kernel_rfl) (by kernel_rfl) ?_
      repeat
       with_reducible refine wpQuiet_step (fun K hK => ?_)
       go_simp
       first
        | (with_reducible refine hK _ ?_; clear hK K)
        | (rw [if_neg (by decide)]; with_reducible refine hK _ ?_; clear hK K)
        | (apply Exists.intro; with_reducible refine ⟨fun _ => ?_, hK _ ?_⟩; (first | (go_at_call 82; with_reducible exact qt_t (HMay.out _)) | (go_at_call 82; with_reducible exact qt_t (HMay2.out _)) | (go_at_call 159; exact qt_s (HT.out _))); clear hK K)
      with_reducible refine wpQuiet_nil ?_
      rintro _ ⟨pq, rfl⟩
      go_wp2_with fail
      go_ret
      exact ⟨ret_b (by rw [HN.out]; rfl), (TT.out.trans0 T4.out).trans0 pq.t⟩
  ·obtain rfl : k = m := by omega
   have HN : Hid (res = true) := HRES.out.symm.trans <| riseQ_all.1 (by rw [List.length_map, HM.out]; exact I.out)
   clear hgk hlt hk
   go_wp2_with fail
   go_ret
   exact ⟨ret_b (by first | rfl | (rw [HN.out]; rfl) | simp [HN.out]), TT.out⟩
end
end Go.Proofs.YtafndmnbnmlklaaGreat
