/- Part 25 of what the proof of StoreIds rests on. No condition. -/
import Derived.Test.YtafndmnbnmlklaaGreatPStoreIds24
namespace Go.Proofs.YtafndmnbnmlklaaGreat
set_option maxRecDepth 100000
set_option maxHeartbeats 60000000
set_option linter.unusedVariables false
set_option linter.unusedSimpArgs false
set_option linter.unusedSectionVars false
section
open Go.RowKit Go.Maps
theorem none_has {s : StM} {r : RecM} (h : noneM s r = 0) (hk : r.kind = 2) : hasP (fun x : MsgM => x.id) s.ms r.id = true := by
 unfold noneM at h
 rw [if_pos hk] at h
 split at h
 ·assumption
 ·cases h
theorem can_first {s : StM} {r : RecM} (hrec : recB r = true) (hov : r.kind = 9 ∨ hasP (·.tid) s.ends r.tid = false) : canM s r = (if noneM s r = 0 then (if otherM s r = 0 then (if busyM s r = 0 then sfullM s r else busyM s r) else otherM s r) else noneM s r) := by
 have hk := (rec_parts hrec).1
 have hc : r.kind = 1 ∨ r.kind = 2 ∨ r.kind = 3 ∨ r.kind = 4 ∨ r.kind = 5 ∨ r.kind = 6 ∨ r.kind = 7 ∨ r.kind = 8 ∨ r.kind = 9 := by omega
 have hov' : ¬ (r.kind ≠ 9 /\ hasP (·.tid) s.ends r.tid = true) := by
  rintro ⟨h1, h2⟩
  rcases hov with h | h
  ·exact h1 h
  ·rw [h] at h2; cases h2
 unfold canM
 rw [if_neg (by rw [hrec]; simp), if_neg hov']
 rcases hc with k | k | k | k | k | k | k | k | k
 ·simp only [k, noneM, otherM, busyM, sfullM]
  by_cases h1 : r.tid = makeM s.broker (s.tx + 1) <;> by_cases h2 : 200 <= s.tx <;> simp [h1, h2]
 ·have hn : noneM s r = if hasP (·.id) s.ms r.id = true then 0 else 6 := by unfold noneM; rw [if_pos k]
  have ho : otherM s r = 0 := by unfold otherM; simp [k]
  have hs : sfullM s r = fullM s r := by unfold sfullM; simp [k]
  rw [hn, ho, hs]
  unfold busyM
  simp only [k]
  rcases find_at (fun x : MsgM => x.id) s.ms r.id with ⟨h1, _, h2⟩ | ⟨j, hj, h1, _, h2⟩
  ·rw [h1]
   rw [h2]; simp
  ·rw [h1]
   rw [h2]
   simp only
   generalize fullM s r = fu
   by_cases h3 : (s.ms[j].who ≠ 0 /\ s.ms[j].who ≠ r.tid) ∨ hasP (fun x : BrM => x.tid) s.waits r.tid = true ∨ hasP (fun x : PendM => x.tid) s.opens r.tid = true
   ·rw [if_pos h3, if_pos h3]; simp
   ·rw [if_neg h3, if_neg h3]; simp
 ·simp only [k, noneM, otherM, busyM, sfullM]
  generalize hasP (fun x : BrM => x.tid) s.waits r.tid = rd
  generalize hasP (fun x : PendM => x.tid) s.opens r.tid = op
  generalize decide (homeM r.tid = s.broker) = ow
  generalize r.parts.contains s.broker = hs
  generalize fullM s r = fu
  cases rd <;> cases op <;> cases ow <;> cases hs <;> simp
 ·simp only [k, noneM, otherM, busyM, sfullM]
  generalize hasP (fun x : BrM => x.tid) s.waits r.tid = rd
  generalize hasP (fun x : PendM => x.tid) s.opens r.tid = op
  generalize decide (homeM r.tid = s.broker) = ow
  generalize r.parts.contains s.broker = hs
  generalize fullM s r = fu
  cases rd <;> cases op <;> cases ow <;> cases hs <;> simp
 ·simp only [k, noneM, otherM, busyM, sfullM]
  generalize hasP (fun x : BrM => x.tid) s.waits r.tid = rd
  generalize hasP (fun x : PendM => x.tid) s.opens r.tid = op
  generalize decide (homeM r.tid = s.broker) = ow
  generalize r.parts.contains s.broker = hs
  generalize fullM s r = fu
  cases rd <;> cases op <;> cases ow <;> cases hs <;> simp
 ·simp only [k, noneM, otherM, busyM, sfullM]
  generalize hasP (fun x : BrM => x.tid) s.waits r.tid = rd
  generalize hasP (fun x : PendM => x.tid) s.opens r.tid = op
  generalize decide (homeM r.tid = s.broker) = ow
  generalize r.parts.contains s.broker = hs
  generalize fullM s r = fu
  cases rd <;> cases op <;> cases ow <;> cases hs <;> simp
 ·simp only [k, noneM, otherM, busyM, sfullM]
  generalize hasP (fun x : BrM => x.tid) s.waits r.tid = rd
  generalize hasP (fun x : PendM => x.tid) s.opens r.tid = op
  generalize decide (homeM r.tid = s.broker) = ow
  generalize r.parts.contains s.broker = hs
  generalize fullM s r = fu
  cases rd <;> cases op <;> cases ow <;> cases hs <;> simp
 ·simp only [k, noneM, otherM, busyM, sfullM]
  generalize hasP (fun x : BrM => x.tid) s.waits r.tid = rd
  generalize hasP (fun x : PendM => x.tid) s.opens r.tid = op
  generalize decide (homeM r.tid = s.broker) = ow
  generalize r.parts.contains s.broker = hs
  generalize fullM s r = fu
  cases rd <;> cases op <;> cases ow <;> cases hs <;> simp
 ·have ho : otherM s r = 0 := by unfold otherM; simp [k]
  have hb : busyM s r = 0 := by unfold busyM; simp [k]
  have hs : sfullM s r = fullM s r := by unfold sfullM; simp [k]
  rw [ho, hb, hs]
  unfold noneM
  simp only [k]
  rcases find_at (fun x : PendM => x.tid) s.noes r.tid with ⟨h1, _, h2⟩ | ⟨j, hj, h1, _, h2⟩
  ·rw [h2]; simp
  ·rw [h2]
   simp only
   generalize fullM s r = fu
   cases s.noes[j].parts.contains (r.parts.headD 0) <;> simp
theorem snone_any (s : StM) (hok : OkSt s) (hm : MayP s) (r : RecM) (hor : OkRec r) (hrec : recB r = true) (hu : r.puts.length <= 1000000) (v vr : Value) (w : World) (h : IsSt w v s) (hr : IsRec w vr r) :
  Calls Tryz.prog 58 #[v, vr] w fun e w' => e = .returned (.int .i64 (noneM s r : Nat)) /\ Tch No w w' := by
 have hk := (rec_parts hrec).1
 exact snone_all s hok hm r hor hk hrec hu v vr w h hr
theorem sother_any (s : StM) (hok : OkSt s) (hm : MayP s) (r : RecM) (hor : OkRec r) (hrec : recB r = true) (hu : r.puts.length <= 1000000) (v vr : Value) (w : World) (h : IsSt w v s) (hr : IsRec w vr r) :
  Calls Tryz.prog 59 #[v, vr] w fun e w' => e = .returned (.int .i64 (otherM s r : Nat)) /\ Tch No w w' := by
 have hk := (rec_parts hrec).1
 exact sother_all s hok hm r hor hk hrec hu v vr w h hr
theorem sbusy_any (s : StM) (hok : OkSt s) (hm : MayP s) (r : RecM) (hor : OkRec r) (hrec : recB r = true) (hu : r.puts.length <= 1000000) (hpre : r.kind = 2 -> hasP (fun x : MsgM => x.id) s.ms r.id = true) (v vr : Value) (w : World) (h : IsSt w v s) (hr : IsRec w vr r) :
  Calls Tryz.prog 60 #[v, vr] w fun e w' => e = .returned (.int .i64 (busyM s r : Nat)) /\ Tch No w w' := by
 have hk := (rec_parts hrec).1
 exact sbusy_all s hok hm r hor hk hrec hu hpre v vr w h hr
theorem sfull_any (s : StM) (hok : OkSt s) (hm : MayP s) (r : RecM) (hor : OkRec r) (hrec : recB r = true) (hu : r.puts.length <= 1000000) (v vr : Value) (w : World) (h : IsSt w v s) (hr : IsRec w vr r) :
  Calls Tryz.prog 61 #[v, vr] w fun e w' => e = .returned (.int .i64 (sfullM s r : Nat)) /\ Tch No w w' := by
 have hk := (rec_parts hrec).1
 exact sfull_all s hok hm r hor hk hrec hu v vr w h hr
theorem scan_any (s : StM) (hok : OkSt s) (hm : MayP s) (r : RecM) (hor : OkRec r) (v vr : Value) (w : World) (h : IsSt w v s) (hr : IsRec w vr r) :
  Calls Tryz.prog 21 #[v, vr] w fun e w' => e = .returned (.int .i64 (canM s r : Nat)) /\ Tch No w w' := by
 have HRE : Hid (∀ W, Tch No w W -> Calls Tryz.prog 56 #[vr] W fun e w' => e = .returned (.bool (recB r)) /\ Tch No W w') := fun W T => krecord_any r hor vr W (hr.keep T)
 cases hrec : recB r with
 | false =>
  rw [hrec] at HRE
  have HN : Hid (canM s r = 1) := by rw [Hid, canM, hrec]; rfl
  obtain ⟨am, cm, aw, cw, ae, ce, ao, co, an, cn, nm, nw, ne, no, nn, hval, HMSL, HNM, hlnm, HWSL, HNW, hlnw, HESL, HNE, hlne, HOSL, HNO, hlno, HNSL, HNN, hlnn⟩ := st_pre h
  obtain ⟨ap, cp, au, cu, rfl, hrp, hru⟩ := hr.shape
  generalize r.parts.length = np at HRE ⊢
  generalize r.puts.length = nu at HRE ⊢
  clear h hr hrec hor hrp hru hm hok
  subst hval
  go_enter Tryz.func21, Tryz.ntmps21
  go_wp2_with (go_at_call 56; refine (HRE.out _ ((Tch.alloc _ _).trans0 (Tch.alloc _ _))).mono ?_; rintro e w3 ⟨rfl, T3⟩)
  go_ret
  exact ⟨ret_e HN.out, ((Tch.alloc _ _).trans0 (Tch.alloc _ _)).trans0 T3⟩
 | true =>
  rw [hrec] at HRE
  have hu : r.puts.length <= 1000000 := by
   have hk := rec_parts hrec
   by_cases hc : r.kind = 4 ∨ r.kind = 7
   ·have := (hk.2.2.1 hc).1; omega
   ·have hrec2 := hrec
    unfold recB at hrec2
    simp only [Bool.and_eq_true] at hrec2
    have h5 := hrec2.1.2
    rw [if_neg hc] at h5
    have : r.puts = [] := by simpa using h5
    rw [this]; simp
  have HNO : Hid (∀ W, Tch No w W -> Calls Tryz.prog 58 #[v, vr] W fun e w' => e = .returned (.int .i64 (noneM s r : Nat)) /\ Tch No W w') := fun W T => snone_any s hok hm r hor hrec hu v vr W (h.keep T) (hr.keep T)
  have HOT : Hid (∀ W, Tch No w W -> Calls Tryz.prog 59 #[v, vr] W fun e w' => e = .returned (.int .i64 (otherM s r : Nat)) /\ Tch No W w') := fun W T => sother_any s hok hm r hor hrec hu v vr W (h.keep T) (hr.keep T)
  have HBU : Hid (noneM s r = 0 -> ∀ W, Tch No w W -> Calls Tryz.prog 60 #[v, vr] W fun e w' => e = .returned (.int .i64 (busyM s r : Nat)) /\ Tch No W w') := fun hn W T => sbusy_any s hok hm r hor hrec hu (none_has hn) v vr W (h.keep T) (hr.keep T)
  have HFU : Hid (∀ W, Tch No w W -> Calls Tryz.prog 61 #[v, vr] W fun e w' => e = .returned (.int .i64 (sfullM s r : Nat)) /\ Tch No W w') := fun W T => sfull_any s hok hm r hor hrec hu v vr W (h.keep T) (hr.keep T)
  have HOVC : Hid (r.kind ≠ 9 -> hasP (·.tid) s.ends r.tid = true -> canM s r = 9) := fun h1 h2 => by unfold canM; rw [if_neg (by rw [hrec]; simp), if_pos ⟨h1, h2⟩]
  have HCF0 : Hid (r.kind = 9 ∨ hasP (·.tid) s.ends r.tid = false -> canM s r = (if noneM s r = 0 then (if otherM s r = 0 then (if busyM s r = 0 then sfullM s r else busyM s r) else otherM s r) else noneM s r)) := fun h => can_first hrec h
  obtain ⟨am, cm, aw, cw, ae, ce, ao, co, an, cn, nm, nw, ne, no, nn, hval, HMSL, HNM, hlnm, HWSL, HNW, hlnw, HESL, HNE, hlne, HOSL, HNO, hlno, HNSL, HNN, hlnn⟩ := st_pre h
  have HEN : Hid (∀ W, Tch No w W -> Calls Tryz.prog 57 #[.slice ae ne ce, .int .i64 r.tid] W fun e w' => e = .returned (.tuple #[.int .i64 (posP (·.tid) s.ends r.tid : Nat), .bool (hasP (·.tid) s.ends r.tid)]) /\ Tch No W w') := fun W T => ends_any s.ends hm.ends2 (by have := hm.le; omega) r.tid _ W (HESL.out.keep T)
  obtain ⟨ap, cp, au, cu, rfl, hrp, hru⟩ := hr.shape
  generalize r.parts.length = np at *
  generalize r.puts.length = nu at *
  clear h hr hrec hor hrp hru hm hok hu
  subst hval
  obtain ⟨ov, hov⟩ : ∃ b, hasP (fun x : EndM => x.tid) s.ends r.tid = b := ⟨_, rfl⟩
  rw [hov] at HEN HOVC HCF0
  generalize posP (fun x : EndM => x.tid) s.ends r.tid = pe at HEN
  clear hov
  go_enter Tryz.func21, Tryz.ntmps21
  go_upto_region 1 with fail
  refine wp_world (fun w' => Hid (Tch No w w') /\ Hid (BoxAt w' w.heap.size [.int .i64 s.broker, .int .i64 s.nid, .int .i64 s.nseq, .int .i64 s.tx, .slice am nm cm, .slice aw nw cw, .slice ae ne ce, .slice ao no co, .slice an nn cn]) /\ Hid (BoxAt w' (w.heap.size + 1) [.int .i64 r.kind, .int .i64 r.tid, .int .i64 r.id, .bool r.yes, .slice ap np cp, .slice au nu cu])) ⟨(Tch.alloc _ _).trans0 (Tch.alloc _ _), box2a _ _ _ _ _, box2b _ _ _ _ _⟩ ?_
  rintro w1 ⟨TT, HB, HB2⟩
  refine wp_world (fun w' => ∃ p : TchW w1, w' = p.wo) ⟨⟨w1, Tch.refl _ _⟩, rfl⟩ ?_
  rintro _ ⟨p0, rfl⟩
  obtain ⟨c0, c1, c2, c3, c4, c5, c6, c7, c8⟩ := kb9 HB.out
  obtain ⟨g0, g1, g2, g3, g4, g5⟩ := kb6 HB2.out
  by_cases k9 : r.kind = 9
  ·have d1 : (r.kind == 9) = true := by simpa using k9
   have d2 : (r.kind != 9) = false := by simpa using k9
   have K9 := Lib.hid k9
   clear k9
   cases ov with
   | true =>
    have HCF : Hid (canM s r = (if noneM s r = 0 then (if otherM s r = 0 then (if busyM s r = 0 then sfullM s r else busyM s r) else otherM s r) else noneM s r)) := HCF0.out (.inl K9.out)
    go_wp2_with (first
   | (go_at_call 56; refine cz HRE.out TT fun q' => ?_)
   | (go_at_call 57; refine cz HEN.out TT fun q' => ?_))
    obtain ⟨n0, hn0⟩ : ∃ n, noneM s r = n := ⟨_, rfl⟩
    obtain ⟨n1, hn1⟩ : ∃ n, otherM s r = n := ⟨_, rfl⟩
    obtain ⟨n2, hn2⟩ : ∃ n, busyM s r = n := ⟨_, rfl⟩
    obtain ⟨n3, hn3⟩ : ∃ n, sfullM s r = n := ⟨_, rfl⟩
    rw [hn0] at HNO HBU HCF
    rw [hn1] at HOT HCF
    rw [hn2] at HBU HCF
    rw [hn3] at HFU HCF
    clear hn0 hn1 hn2 hn3
    have i0 : ∀ W, (Instr.index 89 (.agg #[.func (.func 58) #[] #[], .func (.func 59) #[] #[], .func (.func 60) #[] #[], .func (.func 61) #[] #[]]) (.int .i64 0)).run Tryz.prog W = .ok (.func (.func 58) #[] #[]) W := fun _ => by kernel_rfl
    have i1 : ∀ W, (Instr.index 89 (.agg #[.func (.func 58) #[] #[], .func (.func 59) #[] #[], .func (.func 60) #[] #[], .func (.func 61) #[] #[]]) (.int .i64 1)).run Tryz.prog W = .ok (.func (.func 59) #[] #[]) W := fun _ => by kernel_rfl
    have i2 : ∀ W, (Instr.index 89 (.agg #[.func (.func 58) #[] #[], .func (.func 59) #[] #[], .func (.func 60) #[] #[], .func (.func 61) #[] #[]]) (.int .i64 2)).run Tryz.prog W = .ok (.func (.func 60) #[] #[]) W := fun _ => by kernel_rfl
    have i3 : ∀ W, (Instr.index 89 (.agg #[.func (.func 58) #[] #[], .func (.func 59) #[] #[], .func (.func 60) #[] #[], .func (.func 61) #[] #[]]) (.int .i64 3)).run Tryz.prog W = .ok (.func (.func 61) #[] #[]) W := fun _ => by kernel_rfl
    go_loopg [28] 4 (fun kx sx wr => ∃ k : Nat, sx = .int .i64 k /\ k <= 4 /\ 4 - k <= kx /\ Hid (Tch No w wr) /\ Hid (BoxAt wr w.heap.size [.int .i64 s.broker, .int .i64 s.nid, .int .i64 s.nseq, .int .i64 s.tx, .slice am nm cm, .slice aw nw cw, .slice ae ne ce, .slice ao no co, .slice an nn cn]) /\ Hid (BoxAt wr (w.heap.size + 1) [.int .i64 r.kind, .int .i64 r.tid, .int .i64 r.id, .bool r.yes, .slice ap np cp, .slice au nu cu]) /\ Hid (∀ j, j < k -> [n0, n1, n2, n3][j]? = some 0))
    case atStart => exact ⟨0, rfl, by omega, by omega, TT.out.trans0 (TchW.t _), HB.out.keep (TchW.t _), HB2.out.keep (TchW.t _), fun j h => absurd h (Nat.not_lt_zero _)⟩
    case round =>
     clear TT HB HB2 c0 c1 c2 c3 c4 c5 c6 c7 c8 g0 g1 g2 g3 g4 g5
     obtain ⟨k, rfl, hk, hgk, TT, HB, HB2, I⟩ := hrel
     refine wp_world (fun w' => ∃ p : TchW wr, w' = p.wo) ⟨⟨wr, Tch.refl _ _⟩, rfl⟩ ?_
     rintro _ ⟨p1, rfl⟩
     obtain ⟨c0, c1, c2, c3, c4, c5, c6, c7, c8⟩ := kb9 HB.out
     obtain ⟨g0, g1, g2, g3, g4, g5⟩ := kb6 HB2.out
     rcases (show k = 0 ∨ k = 1 ∨ k = 2 ∨ k = 3 ∨ k = 4 by omega) with rfl | rfl | rfl | rfl | rfl
     ·by_cases z : n0 = 0
      ·have hz : ((n0 : Nat) : Int) = 0 := by omega
       have hz2 : (((n0 : Nat) : Int) == 0) = true := by simpa using hz
       have hz3 : (((n0 : Nat) : Int) != 0) = false := by simpa using hz
       have Z := Lib.hid z
       clear z hz
       go_wp2_with (go_at_call 58; refine cz HNO.out TT fun q' => ?_)
       go_roundg (3)
       case measure => omega
       case rel => exact ⟨1, rfl, by omega, by omega, TT.out.trans0 (TchW.t _), HB.out.keep (TchW.t _), HB2.out.keep (TchW.t _), by intro j hj; rcases (show j = 0 by omega) with rfl <;> simp [Z.out]⟩
      ·have hz2 : (((n0 : Nat) : Int) == 0) = false := by simp; omega
       have hz3 : (((n0 : Nat) : Int) != 0) = true := by simp; omega
       have HN : Hid (canM s r = n0) := by rw [Hid, HCF.out]; simp [z]
       clear z
       go_wp2_with (go_at_call 58; refine cz HNO.out TT fun q' => ?_)
       go_ret
       exact ⟨ret_e HN.out, TT.out.trans0 (TchW.t _)⟩
     ·have q0 : n0 = 0 := by have h := I.out 0 (by omega); simpa using h
      have Q0 := Lib.hid q0
      clear q0
      by_cases z : n1 = 0
      ·have hz : ((n1 : Nat) : Int) = 0 := by omega
       have hz2 : (((n1 : Nat) : Int) == 0) = true := by simpa using hz
       have hz3 : (((n1 : Nat) : Int) != 0) = false := by simpa using hz
       have Z := Lib.hid z
       clear z hz
       go_wp2_with (go_at_call 59; refine cz HOT.out TT fun q' => ?_)
       go_roundg (2)
       case measure => omega
       case rel => exact ⟨2, rfl, by omega, by omega, TT.out.trans0 (TchW.t _), HB.out.keep (TchW.t _), HB2.out.keep (TchW.t _), by intro j hj; rcases (show j = 0 ∨ j = 1 by omega) with rfl | rfl <;> simp [Q0.out, Z.out]⟩
      ·have hz2 : (((n1 : Nat) : Int) == 0) = false := by simp; omega
       have hz3 : (((n1 : Nat) : Int) != 0) = true := by simp; omega
       have HN : Hid (canM s r = n1) := by rw [Hid, HCF.out]; simp [Q0.out, z]
       clear z
       go_wp2_with (go_at_call 59; refine cz HOT.out TT fun q' => ?_)
       go_ret
       exact ⟨ret_e HN.out, TT.out.trans0 (TchW.t _)⟩
     ·have q0 : n0 = 0 := by have h := I.out 0 (by omega); simpa using h
      have q1 : n1 = 0 := by have h := I.out 1 (by omega); simpa using h
      have Q0 := Lib.hid q0
      have Q1 := Lib.hid q1
      clear q0 q1
      by_cases z : n2 = 0
      ·have hz : ((n2 : Nat) : Int) = 0 := by omega
       have hz2 : (((n2 : Nat) : Int) == 0) = true := by simpa using hz
       have hz3 : (((n2 : Nat) : Int) != 0) = false := by simpa using hz
       have Z := Lib.hid z
       clear z hz
       go_wp2_with (go_at_call 60; refine (qt_t ((HBU.out Q0.out) _ (TT.out.trans0 (TchW.t _)))).mono ?_; rintro e _ ⟨rfl, q', rfl⟩)
       go_roundg (1)
       case measure => omega
       case rel => exact ⟨3, rfl, by omega, by omega, TT.out.trans0 (TchW.t _), HB.out.keep (TchW.t _), HB2.out.keep (TchW.t _), by intro j hj; rcases (show j = 0 ∨ j = 1 ∨ j = 2 by omega) with rfl | rfl | rfl <;> simp [Q0.out, Q1.out, Z.out]⟩
      ·have hz2 : (((n2 : Nat) : Int) == 0) = false := by simp; omega
       have hz3 : (((n2 : Nat) : Int) != 0) = true := by simp; omega
       have HN : Hid (canM s r = n2) := by rw [Hid, HCF.out]; simp [Q0.out, Q1.out, z]
       clear z
       go_wp2_with (go_at_call 60; refine (qt_t ((HBU.out Q0.out) _ (TT.out.trans0 (TchW.t _)))).mono ?_; rintro e _ ⟨rfl, q', rfl⟩)
       go_ret
       exact ⟨ret_e HN.out, TT.out.trans0 (TchW.t _)⟩
     ·have q0 : n0 = 0 := by have h := I.out 0 (by omega); simpa using h
      have q1 : n1 = 0 := by have h := I.out 1 (by omega); simpa using h
      have q2 : n2 = 0 := by have h := I.out 2 (by omega); simpa using h
      have Q0 := Lib.hid q0
      have Q1 := Lib.hid q1
      have Q2 := Lib.hid q2
      clear q0 q1 q2
      by_cases z : n3 = 0
      ·have hz : ((n3 : Nat) : Int) = 0 := by omega
       have hz2 : (((n3 : Nat) : Int) == 0) = true := by simpa using hz
       have hz3 : (((n3 : Nat) : Int) != 0) = false := by simpa using hz
       have Z := Lib.hid z
       clear z hz
       go_wp2_with (go_at_call 61; refine cz HFU.out TT fun q' => ?_)
       go_roundg (0)
       case measure => omega
       case rel => exact ⟨4, rfl, by omega, by omega, TT.out.trans0 (TchW.t _), HB.out.keep (TchW.t _), HB2.out.keep (TchW.t _), by intro j hj; rcases (show j = 0 ∨ j = 1 ∨ j = 2 ∨ j = 3 by omega) with rfl | rfl | rfl | rfl <;> simp [Q0.out, Q1.out, Q2.out, Z.out]⟩
      ·have hz2 : (((n3 : Nat) : Int) == 0) = false := by simp; omega
       have hz3 : (((n3 : Nat) : Int) != 0) = true := by simp; omega
       have HN : Hid (canM s r = n3) := by rw [Hid, HCF.out]; simp [Q0.out, Q1.out, Q2.out, z]
       clear z
       go_wp2_with (go_at_call 61; refine cz HFU.out TT fun q' => ?_)
       go_ret
       exact ⟨ret_e HN.out, TT.out.trans0 (TchW.t _)⟩
     ·have q0 : n0 = 0 := by have h := I.out 0 (by omega); simpa using h
      have q1 : n1 = 0 := by have h := I.out 1 (by omega); simpa using h
      have q2 : n2 = 0 := by have h := I.out 2 (by omega); simpa using h
      have q3 : n3 = 0 := by have h := I.out 3 (by omega); simpa using h
      have HN : Hid (canM s r = 0) := by rw [Hid, HCF.out]; simp [q0, q1, q2, q3]
      clear q0 q1 q2 q3 I
      go_wp2_with fail
      go_ret
      exact ⟨ret_e HN.out, TT.out.trans0 (TchW.t _)⟩
   | false =>
    have HCF : Hid (canM s r = (if noneM s r = 0 then (if otherM s r = 0 then (if busyM s r = 0 then sfullM s r else busyM s r) else otherM s r) else noneM s r)) := HCF0.out (.inl K9.out)
    go_wp2_with (first
   | (go_at_call 56; refine cz HRE.out TT fun q' => ?_)
   | (go_at_call 57; refine cz HEN.out TT fun q' => ?_))
    obtain ⟨n0, hn0⟩ : ∃ n, noneM s r = n := ⟨_, rfl⟩
    obtain ⟨n1, hn1⟩ : ∃ n, otherM s r = n := ⟨_, rfl⟩
    obtain ⟨n2, hn2⟩ : ∃ n, busyM s r = n := ⟨_, rfl⟩
    obtain ⟨n3, hn3⟩ : ∃ n, sfullM s r = n := ⟨_, rfl⟩
    rw [hn0] at HNO HBU HCF
    rw [hn1] at HOT HCF
    rw [hn2] at HBU HCF
    rw [hn3] at HFU HCF
    clear hn0 hn1 hn2 hn3
    have i0 : ∀ W, (Instr.index 89 (.agg #[.func (.func 58) #[] #[], .func (.func 59) #[] #[], .func (.func 60) #[] #[], .func (.func 61) #[] #[]]) (.int .i64 0)).run Tryz.prog W = .ok (.func (.func 58) #[] #[]) W := fun _ => by kernel_rfl
    have i1 : ∀ W, (Instr.index 89 (.agg #[.func (.func 58) #[] #[], .func (.func 59) #[] #[], .func (.func 60) #[] #[], .func (.func 61) #[] #[]]) (.int .i64 1)).run Tryz.prog W = .ok (.func (.func 59) #[] #[]) W := fun _ => by kernel_rfl
    have i2 : ∀ W, (Instr.index 89 (.agg #[.func (.func 58) #[] #[], .func (.func 59) #[] #[], .func (.func 60) #[] #[], .func (.func 61) #[] #[]]) (.int .i64 2)).run Tryz.prog W = .ok (.func (.func 60) #[] #[]) W := fun _ => by kernel_rfl
    have i3 : ∀ W, (Instr.index 89 (.agg #[.func (.func 58) #[] #[], .func (.func 59) #[] #[], .func (.func 60) #[] #[], .func (.func 61) #[] #[]]) (.int .i64 3)).run Tryz.prog W = .ok (.func (.func 61) #[] #[]) W := fun _ => by kernel_rfl
    go_loopg [28] 4 (fun kx sx wr => ∃ k : Nat, sx = .int .i64 k /\ k <= 4 /\ 4 - k <= kx /\ Hid (Tch No w wr) /\ Hid (BoxAt wr w.heap.size [.int .i64 s.broker, .int .i64 s.nid, .int .i64 s.nseq, .int .i64 s.tx, .slice am nm cm, .slice aw nw cw, .slice ae ne ce, .slice ao no co, .slice an nn cn]) /\ Hid (BoxAt wr (w.heap.size + 1) [.int .i64 r.kind, .int .i64 r.tid, .int .i64 r.id, .bool r.yes, .slice ap np cp, .slice au nu cu]) /\ Hid (∀ j, j < k -> [n0, n1, n2, n3][j]? = some 0))
    case atStart => exact ⟨0, rfl, by omega, by omega, TT.out.trans0 (TchW.t _), HB.out.keep (TchW.t _), HB2.out.keep (TchW.t _), fun j h => absurd h (Nat.not_lt_zero _)⟩
    case round =>
     clear TT HB HB2 c0 c1 c2 c3 c4 c5 c6 c7 c8 g0 g1 g2 g3 g4 g5
     obtain ⟨k, rfl, hk, hgk, TT, HB, HB2, I⟩ := hrel
     refine wp_world (fun w' => ∃ p : TchW wr, w' = p.wo) ⟨⟨wr, Tch.refl _ _⟩, rfl⟩ ?_
     rintro _ ⟨p1, rfl⟩
     obtain ⟨c0, c1, c2, c3, c4, c5, c6, c7, c8⟩ := kb9 HB.out
     obtain ⟨g0, g1, g2, g3, g4, g5⟩ := kb6 HB2.out
     rcases (show k = 0 ∨ k = 1 ∨ k = 2 ∨ k = 3 ∨ k = 4 by omega) with rfl | rfl | rfl | rfl | rfl
     ·by_cases z : n0 = 0
      ·have hz : ((n0 : Nat) : Int) = 0 := by omega
       have hz2 : (((n0 : Nat) : Int) == 0) = true := by simpa using hz
       have hz3 : (((n0 : Nat) : Int) != 0) = false := by simpa using hz
       have Z := Lib.hid z
       clear z hz
       go_wp2_with (go_at_call 58; refine cz HNO.out TT fun q' => ?_)
       go_roundg (3)
       case measure => omega
       case rel => exact ⟨1, rfl, by omega, by omega, TT.out.trans0 (TchW.t _), HB.out.keep (TchW.t _), HB2.out.keep (TchW.t _), by intro j hj; rcases (show j = 0 by omega) with rfl <;> simp [Z.out]⟩
      ·have hz2 : (((n0 : Nat) : Int) == 0) = false := by simp; omega
       have hz3 : (((n0 : Nat) : Int) != 0) = true := by simp; omega
       have HN : Hid (canM s r = n0) := by rw [Hid, HCF.out]; simp [z]
       clear z
       go_wp2_with (go_at_call 58; refine cz HNO.out TT fun q' => ?_)
       go_ret
       exact ⟨ret_e HN.out, TT.out.trans0 (TchW.t _)⟩
     ·have q0 : n0 = 0 := by have h := I.out 0 (by omega); simpa using h
      have Q0 := Lib.hid q0
      clear q0
      by_cases z : n1 = 0
      ·have hz : ((n1 : Nat) : Int) = 0 := by omega
       have hz2 : (((n1 : Nat) : Int) == 0) = true := by simpa using hz
       have hz3 : (((n1 : Nat) : Int) != 0) = false := by simpa using hz
       have Z := Lib.hid z
       clear z hz
       go_wp2_with (go_at_call 59; refine cz HOT.out TT fun q' => ?_)
       go_roundg (2)
       case measure => omega
       case rel => exact ⟨2, rfl, by omega, by omega, TT.out.trans0 (TchW.t _), HB.out.keep (TchW.t _), HB2.out.keep (TchW.t _), by intro j hj; rcases (show j = 0 ∨ j = 1 by omega) with rfl | rfl <;> simp [Q0.out, Z.out]⟩
      ·have hz2 : (((n1 : Nat) : Int) == 0) = false := by simp; omega
       have hz3 : (((n1 : Nat) : Int) != 0) = true := by simp; omega
       have HN : Hid (canM s r = n1) := by rw [Hid, HCF.out]; simp [Q0.out, z]
       clear z
       go_wp2_with (go_at_call 59; refine cz HOT.out TT fun q' => ?_)
       go_ret
       exact ⟨ret_e HN.out, TT.out.trans0 (TchW.t _)⟩
     ·have q0 : n0 = 0 := by have h := I.out 0 (by omega); simpa using h
      have q1 : n1 = 0 := by have h := I.out 1 (by omega); simpa using h
      have Q0 := Lib.hid q0
      have Q1 := Lib.hid q1
      clear q0 q1
      by_cases z : n2 = 0
      ·have hz : ((n2 : Nat) : Int) = 0 := by omega
       have hz2 : (((n2 : Nat) : Int) == 0) = true := by simpa using hz
       have hz3 : (((n2 : Nat) : Int) != 0) = false := by simpa using hz
       have Z := Lib.hid z
       clear z hz
       go_wp2_with (go_at_call 60; refine (qt_t ((HBU.out Q0.out) _ (TT.out.trans0 (TchW.t _)))).mono ?_; rintro e _ ⟨rfl, q', rfl⟩)
       go_roundg (1)
       case measure => omega
       case rel => exact ⟨3, rfl, by omega, by omega, TT.out.trans0 (TchW.t _), HB.out.keep (TchW.t _), HB2.out.keep (TchW.t _), by intro j hj; rcases (show j = 0 ∨ j = 1 ∨ j = 2 by omega) with rfl | rfl | rfl <;> simp [Q0.out, Q1.out, Z.out]⟩
      ·have hz2 : (((n2 : Nat) : Int) == 0) = false := by simp; omega
       have hz3 : (((n2 : Nat) : Int) != 0) = true := by simp; omega
       have HN : Hid (canM s r = n2) := by rw [Hid, HCF.out]; simp [Q0.out, Q1.out, z]
       clear z
       go_wp2_with (go_at_call 60; refine (qt_t ((HBU.out Q0.out) _ (TT.out.trans0 (TchW.t _)))).mono ?_; rintro e _ ⟨rfl, q', rfl⟩)
       go_ret
       exact ⟨ret_e HN.out, TT.out.trans0 (TchW.t _)⟩
     ·have q0 : n0 = 0 := by have h := I.out 0 (by omega); simpa using h
      have q1 : n1 = 0 := by have h := I.out 1 (by omega); simpa using h
      have q2 : n2 = 0 := by have h := I.out 2 (by omega); simpa using h
      have Q0 := Lib.hid q0
      have Q1 := Lib.hid q1
      have Q2 := Lib.hid q2
      clear q0 q1 q2
      by_cases z : n3 = 0
      ·have hz : ((n3 : Nat) : Int) = 0 := by omega
       have hz2 : (((n3 : Nat) : Int) == 0) = true := by simpa using hz
       have hz3 : (((n3 : Nat) : Int) != 0) = false := by simpa using hz
       have Z := Lib.hid z
       clear z hz
       go_wp2_with (go_at_call 61; refine cz HFU.out TT fun q' => ?_)
       go_roundg (0)
       case measure => omega
       case rel => exact ⟨4, rfl, by omega, by omega, TT.out.trans0 (TchW.t _), HB.out.keep (TchW.t _), HB2.out.keep (TchW.t _), by intro j hj; rcases (show j = 0 ∨ j = 1 ∨ j = 2 ∨ j = 3 by omega) with rfl | rfl | rfl | rfl <;> simp [Q0.out, Q1.out, Q2.out, Z.out]⟩
      ·have hz2 : (((n3 : Nat) : Int) == 0) = false := by simp; omega
       have hz3 : (((n3 : Nat) : Int) != 0) = true := by simp; omega
       have HN : Hid (canM s r = n3) := by rw [Hid, HCF.out]; simp [Q0.out, Q1.out, Q2.out, z]
       clear z
       go_wp2_with (go_at_call 61; refine cz HFU.out TT fun q' => ?_)
       go_ret
       exact ⟨ret_e HN.out, TT.out.trans0 (TchW.t _)⟩
     ·have q0 : n0 = 0 := by have h := I.out 0 (by omega); simpa using h
      have q1 : n1 = 0 := by have h := I.out 1 (by omega); simpa using h
      have q2 : n2 = 0 := by have h := I.out 2 (by omega); simpa using h
      have q3 : n3 = 0 := by have h := I.out 3 (by omega); simpa using h
      have HN : Hid (canM s r = 0) := by rw [Hid, HCF.out]; simp [q0, q1, q2, q3]
      clear q0 q1 q2 q3 I
      go_wp2_with fail
      go_ret
      exact ⟨ret_e HN.out, TT.out.trans0 (TchW.t _)⟩
  ·have d1 : (r.kind == 9) = false := by simpa using k9
   have d2 : (r.kind != 9) = true := by simpa using k9
   have K9 := Lib.hid k9
   clear k9
   cases ov with
   | true =>
    have HN : Hid (canM s r = 9) := HOVC.out K9.out rfl
    go_wp2_with (first
   | (go_at_call 56; refine cz HRE.out TT fun q' => ?_)
   | (go_at_call 57; refine cz HEN.out TT fun q' => ?_))
    go_ret
    exact ⟨ret_e HN.out, TT.out.trans0 (TchW.t _)⟩
   | false =>
    have HCF : Hid (canM s r = (if noneM s r = 0 then (if otherM s r = 0 then (if busyM s r = 0 then sfullM s r else busyM s r) else otherM s r) else noneM s r)) := HCF0.out (.inr rfl)
    go_wp2_with (first
   | (go_at_call 56; refine cz HRE.out TT fun q' => ?_)
   | (go_at_call 57; refine cz HEN.out TT fun q' => ?_))
    obtain ⟨n0, hn0⟩ : ∃ n, noneM s r = n := ⟨_, rfl⟩
    obtain ⟨n1, hn1⟩ : ∃ n, otherM s r = n := ⟨_, rfl⟩
    obtain ⟨n2, hn2⟩ : ∃ n, busyM s r = n := ⟨_, rfl⟩
    obtain ⟨n3, hn3⟩ : ∃ n, sfullM s r = n := ⟨_, rfl⟩
    rw [hn0] at HNO HBU HCF
    rw [hn1] at HOT HCF
    rw [hn2] at HBU HCF
    rw [hn3] at HFU HCF
    clear hn0 hn1 hn2 hn3
    have i0 : ∀ W, (Instr.index 89 (.agg #[.func (.func 58) #[] #[], .func (.func 59) #[] #[], .func (.func 60) #[] #[], .func (.func 61) #[] #[]]) (.int .i64 0)).run Tryz.prog W = .ok (.func (.func 58) #[] #[]) W := fun _ => by kernel_rfl
    have i1 : ∀ W, (Instr.index 89 (.agg #[.func (.func 58) #[] #[], .func (.func 59) #[] #[], .func (.func 60) #[] #[], .func (.func 61) #[] #[]]) (.int .i64 1)).run Tryz.prog W = .ok (.func (.func 59) #[] #[]) W := fun _ => by kernel_rfl
    have i2 : ∀ W, (Instr.index 89 (.agg #[.func (.func 58) #[] #[], .func (.func 59) #[] #[], .func (.func 60) #[] #[], .func (.func 61) #[] #[]]) (.int .i64 2)).run Tryz.prog W = .ok (.func (.func 60) #[] #[]) W := fun _ => by kernel_rfl
    have i3 : ∀ W, (Instr.index 89 (.agg #[.func (.func 58) #[] #[], .func (.func 59) #[] #[], .func (.func 60) #[] #[], .func (.func 61) #[] #[]]) (.int .i64 3)).run Tryz.prog W = .ok (.func (.func 61) #[] #[]) W := fun _ => by kernel_rfl
    go_loopg [28] 4 (fun kx sx wr => ∃ k : Nat, sx = .int .i64 k /\ k <= 4 /\ 4 - k <= kx /\ Hid (Tch No w wr) /\ Hid (BoxAt wr w.heap.size [.int .i64 s.broker, .int .i64 s.nid, .int .i64 s.nseq, .int .i64 s.tx, .slice am nm cm, .slice aw nw cw, .slice ae ne ce, .slice ao no co, .slice an nn cn]) /\ Hid (BoxAt wr (w.heap.size + 1) [.int .i64 r.kind, .int .i64 r.tid, .int .i64 r.id, .bool r.yes, .slice ap np cp, .slice au nu cu]) /\ Hid (∀ j, j < k -> [n0, n1, n2, n3][j]? = some 0))
    case atStart => exact ⟨0, rfl, by omega, by omega, TT.out.trans0 (TchW.t _), HB.out.keep (TchW.t _), HB2.out.keep (TchW.t _), fun j h => absurd h (Nat.not_lt_zero _)⟩
    case round =>
     clear TT HB HB2 c0 c1 c2 c3 c4 c5 c6 c7 c8 g0 g1 g2 g3 g4 g5
     obtain ⟨k, rfl, hk, hgk, TT, HB, HB2, I⟩ := hrel
     refine wp_world (fun w' => ∃ p : TchW wr, w' = p.wo) ⟨⟨wr, Tch.refl _ _⟩, rfl⟩ ?_
     rintro _ ⟨p1, rfl⟩
     obtain ⟨c0, c1, c2, c3, c4, c5, c6, c7, c8⟩ := kb9 HB.out
     obtain ⟨g0, g1, g2, g3, g4, g5⟩ := kb6 HB2.out
     rcases (show k = 0 ∨ k = 1 ∨ k = 2 ∨ k = 3 ∨ k = 4 by omega) with rfl | rfl | rfl | rfl | rfl
     ·by_cases z : n0 = 0
      ·have hz : ((n0 : Nat) : Int) = 0 := by omega
       have hz2 : (((n0 : Nat) : Int) == 0) = true := by simpa using hz
       have hz3 : (((n0 : Nat) : Int) != 0) = false := by simpa using hz
       have Z := Lib.hid z
       clear z hz
       go_wp2_with (go_at_call 58; refine cz HNO.out TT fun q' => ?_)
       go_roundg (3)
       case measure => omega
       case rel => exact ⟨1, rfl, by omega, by omega, TT.out.trans0 (TchW.t _), HB.out.keep (TchW.t _), HB2.out.keep (TchW.t _), by intro j hj; rcases (show j = 0 by omega) with rfl <;> simp [Z.out]⟩
      ·have hz2 : (((n0 : Nat) : Int) == 0) = false := by simp; omega
       have hz3 : (((n0 : Nat) : Int) != 0) = true := by simp; omega
       have HN : Hid (canM s r = n0) := by rw [Hid, HCF.out]; simp [z]
       clear z
       go_wp2_with (go_at_call 58; refine cz HNO.out TT fun q' => ?_)
       go_ret
       exact ⟨ret_e HN.out, TT.out.trans0 (TchW.t _)⟩
     ·have q0 : n0 = 0 := by have h := I.out 0 (by omega); simpa using h
      have Q0 := Lib.hid q0
      clear q0
      by_cases z : n1 = 0
      ·have hz : ((n1 : Nat) : Int) = 0 := by omega
       have hz2 : (((n1 : Nat) : Int) == 0) = true := by simpa using hz
       have hz3 : (((n1 : Nat) : Int) != 0) = false := by simpa using hz
       have Z := Lib.hid z
       clear z hz
       go_wp2_with (go_at_call 59; refine cz HOT.out TT fun q' => ?_)
       go_roundg (2)
       case measure => omega
       case rel => exact ⟨2, rfl, by omega, by omega, TT.out.trans0 (TchW.t _), HB.out.keep (TchW.t _), HB2.out.keep (TchW.t _), by intro j hj; rcases (show j = 0 ∨ j = 1 by omega) with rfl | rfl <;> simp [Q0.out, Z.out]⟩
      ·have hz2 : (((n1 : Nat) : Int) == 0) = false := by simp; omega
       have hz3 : (((n1 : Nat) : Int) != 0) = true := by simp; omega
       have HN : Hid (canM s r = n1) := by rw [Hid, HCF.out]; simp [Q0.out, z]
       clear z
       go_wp2_with (go_at_call 59; refine cz HOT.out TT fun q' => ?_)
       go_ret
       exact ⟨ret_e HN.out, TT.out.trans0 (TchW.t _)⟩
     ·have q0 : n0 = 0 := by have h := I.out 0 (by omega); simpa using h
      have q1 : n1 = 0 := by have h := I.out 1 (by omega); simpa using h
      have Q0 := Lib.hid q0
      have Q1 := Lib.hid q1
      clear q0 q1
      by_cases z : n2 = 0
      ·have hz : ((n2 : Nat) : Int) = 0 := by omega
       have hz2 : (((n2 : Nat) : Int) == 0) = true := by simpa using hz
       have hz3 : (((n2 : Nat) : Int) != 0) = false := by simpa using hz
       have Z := Lib.hid z
       clear z hz
       go_wp2_with (go_at_call 60; refine (qt_t ((HBU.out Q0.out) _ (TT.out.trans0 (TchW.t _)))).mono ?_; rintro e _ ⟨rfl, q', rfl⟩)
       go_roundg (1)
       case measure => omega
       case rel => exact ⟨3, rfl, by omega, by omega, TT.out.trans0 (TchW.t _), HB.out.keep (TchW.t _), HB2.out.keep (TchW.t _), by intro j hj; rcases (show j = 0 ∨ j = 1 ∨ j = 2 by omega) with rfl | rfl | rfl <;> simp [Q0.out, Q1.out, Z.out]⟩
      ·have hz2 : (((n2 : Nat) : Int) == 0) = false := by simp; omega
       have hz3 : (((n2 : Nat) : Int) != 0) = true := by simp; omega
       have HN : Hid (canM s r = n2) := by rw [Hid, HCF.out]; simp [Q0.out, Q1.out, z]
       clear z
       go_wp2_with (go_at_call 60; refine (qt_t ((HBU.out Q0.out) _ (TT.out.trans0 (TchW.t _)))).mono ?_; rintro e _ ⟨rfl, q', rfl⟩)
       go_ret
       exact ⟨ret_e HN.out, TT.out.trans0 (TchW.t _)⟩
     ·have q0 : n0 = 0 := by have h := I.out 0 (by omega); simpa using h
      have q1 : n1 = 0 := by have h := I.out 1 (by omega); simpa using h
      have q2 : n2 = 0 := by have h := I.out 2 (by omega); simpa using h
      have Q0 := Lib.hid q0
      have Q1 := Lib.hid q1
      have Q2 := Lib.hid q2
      clear q0 q1 q2
      by_cases z : n3 = 0
      ·have hz : ((n3 : Nat) : Int) = 0 := by omega
       have hz2 : (((n3 : Nat) : Int) == 0) = true := by simpa using hz
       have hz3 : (((n3 : Nat) : Int) != 0) = false := by simpa using hz
       have Z := Lib.hid z
       clear z hz
       go_wp2_with (go_at_call 61; refine cz HFU.out TT fun q' => ?_)
       go_roundg (0)
       case measure => omega
       case rel => exact ⟨4, rfl, by omega, by omega, TT.out.trans0 (TchW.t _), HB.out.keep (TchW.t _), HB2.out.keep (TchW.t _), by intro j hj; rcases (show j = 0 ∨ j = 1 ∨ j = 2 ∨ j = 3 by omega) with rfl | rfl | rfl | rfl <;> simp [Q0.out, Q1.out, Q2.out, Z.out]⟩
      ·have hz2 : (((n3 : Nat) : Int) == 0) = false := by simp; omega
       have hz3 : (((n3 : Nat) : Int) != 0) = true := by simp; omega
       have HN : Hid (canM s r = n3) := by rw [Hid, HCF.out]; simp [Q0.out, Q1.out, Q2.out, z]
       clear z
       go_wp2_with (go_at_call 61; refine cz HFU.out TT fun q' => ?_)
       go_ret
       exact ⟨ret_e HN.out, TT.out.trans0 (TchW.t _)⟩
     ·have q0 : n0 = 0 := by have h := I.out 0 (by omega); simpa using h
      have q1 : n1 = 0 := by have h := I.out 1 (by omega); simpa using h
      have q2 : n2 = 0 := by have h := I.out 2 (by omega); simpa using h
      have q3 : n3 = 0 := by have h := I.out 3 (by omega); simpa using h
      have HN : Hid (canM s r = 0) := by rw [Hid, HCF.out]; simp [q0, q1, q2, q3]
      clear q0 q1 q2 q3 I
      go_wp2_with fail
      go_ret
      exact ⟨ret_e HN.out, TT.out.trans0 (TchW.t _)⟩
end
end Go.Proofs.YtafndmnbnmlklaaGreat
