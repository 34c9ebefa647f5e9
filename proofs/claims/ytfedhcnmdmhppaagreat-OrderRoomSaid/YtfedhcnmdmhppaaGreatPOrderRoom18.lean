/- Part 18 of what the proof of OrderRoom rests on. No condition. -/
import Derived.Test.YtfedhcnmdmhppaaGreatPOrderRoom05
import Derived.Test.YtfedhcnmdmhppaaGreatPOrderRoom11
import Derived.Test.YtfedhcnmdmhppaaGreatPOrderRoom12
import Derived.Test.YtfedhcnmdmhppaaGreatPOrderRoom13
import Derived.Test.YtfedhcnmdmhppaaGreatPOrderRoom17
namespace Go.Proofs.YtfedhcnmdmhppaaGreat
set_option maxRecDepth 100000
set_option maxHeartbeats 60000000
set_option linter.unusedVariables false
set_option linter.unusedSimpArgs false
section
open Go.RowKit Go.Maps
structure DecO (w w4 : World) (ib bs rb : Nat) : Prop where
 o1 : w.heap.size <= bs
 o2 : bs < ib
 o3 : ib < rb
 o4 : rb < w4.heap.size
structure DecS (w w4 : World) (ib bs rb : Nat) (l : List UInt8) (cur : Array Value) (W : World) : Prop where
 inn : InS w ib l W
 box : W.heap[rb]? = some (.cells cur 37 (0, 0))
 res : W.heap[bs]? = some (.cells #[.int .i64 0, .int .i64 0, .int .i64 0, .bool false, .slice none 0 0, .slice none 0 0] 37 (0, 0))
 le : w4.heap.size <= W.heap.size
theorem DecS.keep {w w4 W W' : World} {ib bs rb : Nat} {l : List UInt8} {cur : Array Value} (h : DecS w w4 ib bs rb l cur W) (t : Tch No W W') : DecS w w4 ib bs rb l cur W' :=
 ⟨h.inn.keep t, blk_tch t h.box (fun h => h), blk_tch t h.res (fun h => h), Nat.le_trans h.le t.size⟩
theorem DecS.read {w w4 W W' : World} {ib bs rb : Nat} {l l' : List UInt8} {cur : Array Value} (o : DecO w w4 ib bs rb) (h : DecS w w4 ib bs rb l cur W) (i : InS w ib l' W') (t : Tch (InF ib) W W') : DecS w w4 ib bs rb l' cur W' :=
 ⟨i, blk_tch t h.box (fun e => by have := o.o3; rw [InF] at e; omega), blk_tch t h.res (fun e => by have := o.o2; rw [InF] at e; omega), Nat.le_trans h.le t.size⟩
theorem DecS.grow {F : Nat -> Prop} {w w4 W W' : World} {ib bs rb : Nat} {l : List UInt8} {cur : Array Value} (o : DecO w w4 ib bs rb) (h : DecS w w4 ib bs rb l cur W) (t : Tch F W W') (hF : ∀ k, F k -> w4.heap.size <= k) : DecS w w4 ib bs rb l cur W' := by
 have h1 := o.o1; have h2 := o.o2; have h3 := o.o3; have h4 := o.o4
 exact ⟨h.inn.keepF t (fun e => by have := hF _ e; omega) (fun k e => by have := hF _ e; omega), blk_tch t h.box (fun e => by have := hF _ e; omega), blk_tch t h.res (fun e => by have := hF _ e; omega), Nat.le_trans h.le t.size⟩
theorem DecS.set {w w4 W : World} {ib bs rb : Nat} {l : List UInt8} {cur : Array Value} (o : DecO w w4 ib bs rb) (h : DecS w w4 ib bs rb l cur W) (j : Nat) (u : Value) : DecS w w4 ib bs rb l (cur.setIfInBounds j u) (W.setCell ⟨rb, j, none⟩ u) := by
 have h1 := o.o1; have h2 := o.o2; have h3 := o.o3; have h4 := o.o4
 have t := Tch.setCell (F := fun q => q = rb) W ⟨rb, j, none⟩ u (fun _ => rfl)
 exact ⟨h.inn.keepF t (fun e => by omega) (fun k e => by omega), blk_set h.box j u, blk_tch t h.res (fun e => by omega), Nat.le_trans h.le t.size⟩
theorem own_in {w w4 W W' : World} {ib bs rb : Nat} {e : TypeId} {m n : Nat} {cs : List Value} {v : Value} (o : DecO w w4 ib bs rb) (h : OwnN w4 e m n cs v W) (t : Tch (InF ib) W W') : OwnN w4 e m n cs v W' :=
 ⟨own_tch h.1 t (fun k hk e => by have h2 := h.2 k hk; have h3 := o.o3; have h4 := o.o4; rw [InF] at e; omega), h.2⟩
theorem own_box {w w4 W : World} {ib bs rb j : Nat} {e : TypeId} {m n : Nat} {cs : List Value} {v u : Value} (o : DecO w w4 ib bs rb) (h : OwnN w4 e m n cs v W) : OwnN w4 e m n cs v (W.setCell ⟨rb, j, none⟩ u) :=
 ⟨own_tch h.1 (Tch.setCell (F := fun q => q = rb) W ⟨rb, j, none⟩ u (fun _ => rfl)) (fun k hk e => by have h2 := h.2 k hk; have h4 := o.o4; omega), h.2⟩
theorem own_win {w4 W : World} {e : TypeId} {m n : Nat} {cs : List Value} {v : Value} (h : OwnN w4 e m n cs v W) (F : Nat -> Prop) (hF : ∀ k, F k -> k < w4.heap.size) : ∀ W2, Tch F W W2 -> CellsAt W2 v n m cs :=
 fun W2 t => CellsAt.ofRow (own_tch h.1 t (fun k hk e => by have h2 := h.2 k hk; have := hF k e; omega))
theorem recdecode_any (r : RecM) (hb : recB r = true) (hok : OkRec r) (v : Value) (w : World) (h : SlB w v (encRecM r)) :
  Calls Tryz.prog 111 #[v] w fun e w' => ∃ v', e = .returned (.tuple #[v', .int .i64 0]) /\ (∀ W2, Tch (fun k => k < w.heap.size) w' W2 -> IsRec W2 v' r) /\ Tch No w w' := by
 obtain ⟨a, n, cap, rfl, _⟩ := h.shape'
 have HKR := Lib.hid (fun v W h => krecord_any r hok v W h)
 rw [hb] at HKR
 have I0 : Hid (InS w (w.alloc (.cells #[.int .i64 0, .int .i64 0, .int .i64 0, .bool false, .slice none 0 0, .slice none 0 0] 37)).heap.size (encRecM r) ((w.alloc (.cells #[.int .i64 0, .int .i64 0, .int .i64 0, .bool false, .slice none 0 0, .slice none 0 0] 37)).alloc (.cells #[.slice a n cap, .bool false] 185))) := InS.made (Tch.alloc _ _) (h.keep (fun k hk => (Tch.alloc w _).block k (h.blt k hk) (fun h => h))) h.blt
 have B0 : Hid (((w.alloc (.cells #[.int .i64 0, .int .i64 0, .int .i64 0, .bool false, .slice none 0 0, .slice none 0 0] 37)).alloc (.cells #[.slice a n cap, .bool false] 185)).heap[w.heap.size]? = some (.cells #[.int .i64 0, .int .i64 0, .int .i64 0, .bool false, .slice none 0 0, .slice none 0 0] 37 (0, 0))) := blk_tch (Tch.alloc _ _) (blk_new w _) (fun h => h)
 have HB := Lib.hid hb
 have HOK := Lib.hid hok
 have hk1 : 1 <= r.kind /\ r.kind <= 9 := by
  have := HB.out
  unfold recB at this
  simp only [Bool.and_eq_true, decide_eq_true_eq] at this
  exact this.1.1.1.1.1
 obtain ⟨kd, tid, id, yes, parts, puts⟩ := r
 simp only at hk1
 clear hb hok h
 go_enter Tryz.func111, Tryz.ntmps111
 go_wp2_with fail
 refine (read_any a n cap _).mono ?_
 rintro e w1 ⟨rfl, hw1⟩
 rw [<- hw1] at I0 B0
 clear hw1
 have HIB : Hid (w.heap.size < (w.alloc (.cells #[.int .i64 0, .int .i64 0, .int .i64 0, .bool false, .slice none 0 0, .slice none 0 0] 37)).heap.size) := by simp [Hid]
 generalize (w.alloc (.cells #[.int .i64 0, .int .i64 0, .int .i64 0, .bool false, .slice none 0 0, .slice none 0 0] 37)).heap.size = ib at I0 HIB ⊢
 obtain ⟨bs, hbs⟩ : ∃ x, w.heap.size = x := ⟨_, rfl⟩
 have HBS := Lib.hid hbs
 rw [hbs] at B0 HIB ⊢
 clear hbs
 obtain ⟨tl, htl⟩ : ∃ tl, tl = (if decide (kd = 2) = true then leBytes 8 (u64of id) else []) ++ ((if decide (kd = 5) = true then [if yes then 1 else 0] else []) ++ ((if ptsB kd = true then leBytes 2 parts.length ++ parts.flatMap encPtM else []) ++ (if putsB kd = true then leBytes 2 puts.length ++ puts.flatMap encPuM else []))) := ⟨_, rfl⟩
 have HE : encRecM ⟨kd, tid, id, yes, parts, puts⟩ = leBytes 2 kd.toNat ++ (leBytes 8 (u64of tid) ++ tl) := by
  rw [htl]; simp [encRecM]
 rw [HE] at I0
 have HTL := Lib.hid htl
 clear HE htl
 go_wp2_with fail
 refine (I0.out.small _ _ (by omega)).mono ?_
 rintro e w2 ⟨rfl, i2, t2⟩
 have hk2 : ((kd.toNat : Nat) : Int) = kd := by omega
 rw [hk2]
 have I2 := Lib.hid i2
 have B2 := Lib.hid (blk_tch t2 B0.out (by have := HIB.out; rw [InF]; omega))
 clear i2 t2 I0 B0 hk2
 go_wp2_with fail
 refine (I2.out.long tid _ HOK.out.tid).mono ?_
 rintro e w3 ⟨rfl, i3, t3⟩
 have I3 := Lib.hid i3
 have B3 := Lib.hid (blk_tch t3 B2.out (by have := HIB.out; rw [InF]; omega))
 have HI3 : Hid (ib < w3.heap.size) := by
  obtain ⟨_, h1, _⟩ := i3.ex
  exact blk_lt h1.cell
 clear i3 t3 I2 B2
 go_wp2_with fail
 obtain ⟨w4, hw4⟩ : ∃ x, w3.alloc (.cells #[.int .i64 kd, .int .i64 tid, .int .i64 0, .bool false, .slice none 0 0, .slice none 0 0] 37) = x := ⟨_, rfl⟩
 obtain ⟨rb, hrb⟩ : ∃ x, w3.heap.size = x := ⟨_, rfl⟩
 have O4 : Hid (DecO w w4 ib bs rb) := ⟨by have := HBS.out; omega, HIB.out, by have := HI3.out; omega, by rw [<- hw4, <- hrb]; simp⟩
 have D4 : Hid (DecS w w4 ib bs rb tl #[.int .i64 kd, .int .i64 tid, .int .i64 0, .bool false, .slice none 0 0, .slice none 0 0] w4) := by
  rw [Hid, <- hw4, <- hrb]
  exact ⟨I3.out.keep (Tch.alloc _ _), blk_new _ _, blk_tch (Tch.alloc _ _) B3.out (fun h => h), Nat.le_refl _⟩
 clear I3 B3 HI3 HIB
 have HH := Lib.hid (rechas_any kd w4)
 rw [hw4]
 try rw [hrb]
 clear hw4 hrb
 have HZ : Hid ((decide (kd = 2) = false -> id = 0) /\ (decide (kd = 5) = false -> yes = false) /\ (ptsB kd = false -> parts = []) /\ (putsB kd = false -> puts = [])) := by
  have hB := HB.out
  unfold recB at hB
  simp only [Bool.and_eq_true] at hB
  obtain ⟨⟨⟨⟨_, q1⟩, q2⟩, q3⟩, q4⟩ := hB
  refine ⟨fun h => ?_, fun h => ?_, fun h => ?_, fun h => ?_⟩
  ·rw [if_neg (by simpa using h)] at q1; simpa using q1
  ·rw [h] at q2; simpa using q2
  ·unfold ptsB at h
   simp only [Bool.or_eq_false_iff, decide_eq_false_iff_not] at h
   rw [if_neg h.1.1, if_neg h.1.2, if_neg h.2] at q4; simpa using q4
  ·unfold putsB at h
   simp only [Bool.or_eq_false_iff, decide_eq_false_iff_not] at h
   rw [if_neg (by omega)] at q3; simpa using q3
 refine HH.out.mono ?_
 rintro e w5 ⟨rfl, rfl⟩
 have HX : Hid ((decide (kd = 2) = true /\ decide (kd = 5) = false /\ ptsB kd = false /\ putsB kd = false) ∨ (decide (kd = 2) = false /\ decide (kd = 5) = true /\ ptsB kd = false /\ putsB kd = false) ∨ (decide (kd = 2) = false /\ decide (kd = 5) = false /\ ptsB kd = true /\ putsB kd = false) ∨
   (decide (kd = 2) = false /\ decide (kd = 5) = false /\ ptsB kd = false /\ putsB kd = true) ∨ (decide (kd = 2) = false /\ decide (kd = 5) = false /\ ptsB kd = false /\ putsB kd = false)) := by
  have : kd = 1 ∨ kd = 2 ∨ kd = 3 ∨ kd = 4 ∨ kd = 5 ∨ kd = 6 ∨ kd = 7 ∨ kd = 8 ∨ kd = 9 := by omega
  rcases this with h | h | h | h | h | h | h | h | h <;> subst h <;> simp [Hid, ptsB, putsB]
 have HPO : Hid (ptsB kd = true -> (∀ x ∈ parts, 0 <= x /\ x < 65536) /\ parts.length <= 7) := fun hq => by
  have hB := HB.out
  have hx : kd = 6 ∨ kd = 8 ∨ kd = 9 := by unfold ptsB at hq; simp at hq; omega
  unfold recB at hB
  simp only [Bool.and_eq_true] at hB
  have hl := hB.2
  have hrise : risingB parts = true /\ parts.length <= 7 := by
   rcases hx with rfl | rfl | rfl <;> simp at hl <;> exact ⟨hl.2, by omega⟩
  refine ⟨fun x hx => ?_, hrise.2⟩
  have h1 := hrise.1
  unfold risingB at h1
  simp only [Bool.and_eq_true, List.all_eq_true] at h1
  have := h1.1 x hx
  unfold brokerB at this
  simp only [decide_eq_true_eq] at this
  omega
 have HUO : Hid (putsB kd = true -> (∀ p ∈ puts, putB p = true) /\ puts.length <= 10) := fun hq => by
  have hB := HB.out
  have hx : kd = 4 ∨ kd = 7 := by unfold putsB at hq; simp at hq; omega
  unfold recB at hB
  simp only [Bool.and_eq_true] at hB
  have hl := hB.1.2
  rw [if_pos hx] at hl
  simp only [Bool.and_eq_true, decide_eq_true_eq, List.all_eq_true] at hl
  exact ⟨hl.2, hl.1⟩
 clear HB
 generalize decide (kd = 2) = x1 at HTL HX HZ ⊢
 generalize decide (kd = 5) = x2 at HTL HX HZ ⊢
 generalize ptsB kd = x3 at HTL HX HZ HPO ⊢
 generalize putsB kd = x4 at HTL HX HZ HUO ⊢
 rcases HX.out with ⟨rfl, rfl, rfl, rfl⟩ | ⟨rfl, rfl, rfl, rfl⟩ | ⟨rfl, rfl, rfl, rfl⟩ | ⟨rfl, rfl, rfl, rfl⟩ | ⟨rfl, rfl, rfl, rfl⟩
 ·simp only [if_true, if_false, Bool.false_eq_true, List.append_nil, List.nil_append] at HTL
  obtain ⟨z1, z2, z3, z4⟩ := HZ.out
  obtain rfl := z2 rfl
  obtain rfl := z3 rfl
  obtain rfl := z4 rfl
  have hT := HTL.out
  rw [hT, <- List.append_nil (leBytes 8 (u64of id))] at D4
  clear HX HPO HUO HTL hT z1 z2 z3 z4 HZ
  go_wp2_with fail
  refine (D4.out.inn.long id [] HOK.out.id).mono ?_
  rintro e w6 ⟨rfl, i6, t6⟩
  have D6 := Lib.hid (D4.out.read O4.out i6 t6)
  obtain ⟨wx, hwx⟩ : ∃ x, w6.setCell ⟨rb, 2, none⟩ (.int .i64 id) = x := ⟨_, rfl⟩
  have D : Hid (DecS w w4 ib bs rb [] #[.int .i64 kd, .int .i64 tid, .int .i64 id, .bool false, .slice none 0 0, .slice none 0 0] wx) := by rw [Hid, <- hwx]; exact D6.out.set O4.out 2 _
  have RW : Hid (∀ W2, Tch (fun k => k <= ib) wx W2 -> IsRec W2 (.agg #[.int .i64 kd, .int .i64 tid, .int .i64 id, .bool false, .slice none 0 0, .slice none 0 0]) ⟨kd, tid, id, false, [], []⟩) := fun W2 t => ⟨_, _, rfl, CellsAt.nil _ _, CellsAt.nil _ _⟩
  have c6 : w6.cell? ⟨rb, 2, none⟩ = some (.int .i64 0) := (blk_cell D6.out.box 2).trans rfl
  have f6 := blk_free D6.out.box 2
  clear i6 t6
  obtain ⟨b0, b1, b2, b3, b4, b5⟩ := kc6 D.out.box
  go_wp2_with fail
  refine D.out.inn.ended.mono ?_
  rintro e wy ⟨rfl, rfl⟩
  go_wp2_with fail
  refine (HKR.out _ wx (RW.out _ (Tch.refl _ _))).mono ?_
  rintro e wf ⟨rfl, TF⟩
  have DF := Lib.hid (D.out.keep TF)
  obtain ⟨wz, hwz, HRZ, TZ⟩ : ∃ W, ((((((wf.setCell ⟨bs, 0, none⟩ (.int .i64 kd)).setCell ⟨bs, 1, none⟩ (.int .i64 tid)).setCell ⟨bs, 2, none⟩ (.int .i64 id)).setCell ⟨bs, 3, none⟩ (.bool false)).setCell ⟨bs, 4, none⟩ (.slice none 0 0)).setCell ⟨bs, 5, none⟩ (.slice none 0 0)) = W /\ Hid (W.heap[bs]? = some (.cells #[.int .i64 kd, .int .i64 tid, .int .i64 id, .bool false, .slice none 0 0, .slice none 0 0] 37 (0, 0))) /\ Hid (Tch (fun k => k = bs) wf W) := by
   obtain ⟨g1, g2⟩ := set6e (W := wf) (b := bs) (T := 37) (.int .i64 kd) (.int .i64 tid) (.int .i64 id) (.bool false) (.slice none 0 0) (.slice none 0 0) DF.out.res
   exact ⟨_, rfl, g1, g2⟩
  have TFF := Lib.hid TF
  clear TF b0 b1 b2 b3 b4 b5
  obtain ⟨b0, b1, b2, b3, b4, b5⟩ := kc6 DF.out.box
  obtain ⟨r0, r1, r2, r3, r4, r5⟩ := kc6 DF.out.res
  obtain ⟨fr0, fr1, fr2, fr3, fr4, fr5⟩ := kf6 DF.out.res
  go_wp2_with fail
  obtain ⟨q0, q1, q2, q3, q4, q5⟩ := kc6 HRZ.out
  refine bodyPost_ret (v := .tuple #[.agg #[.int .i64 kd, .int .i64 tid, .int .i64 id, .bool false, .slice none 0 0, .slice none 0 0], .int .i64 0]) (by simp [results, Tryz.results111, go_sem, q0, q1, q2, q3, q4, q5]) rfl ?_
  refine ⟨_, rfl, fun W2 t => RW.out W2 ((TFF.out.no.trans TZ.out (fun k _ e => by have := O4.out.o2; omega)).trans t (fun k _ e => by have h1 := O4.out.o1; have h2 := O4.out.o2; omega)), ?_⟩
  exact (D.out.inn.tch.trans0 TFF.out).fresh TZ.out (fun k e => by have := O4.out.o1; omega)
 ·simp only [if_true, if_false, Bool.false_eq_true, List.append_nil, List.nil_append] at HTL
  obtain ⟨z1, z2, z3, z4⟩ := HZ.out
  obtain rfl := z1 rfl
  obtain rfl := z3 rfl
  obtain rfl := z4 rfl
  have hT := HTL.out
  rw [hT, <- List.append_nil [if yes = true then (1 : UInt8) else 0]] at D4
  clear HX HPO HUO HTL hT z1 z2 z3 z4 HZ
  go_wp2_with fail
  refine (D4.out.inn.truth yes []).mono ?_
  rintro e w6 ⟨rfl, i6, t6⟩
  have D6 := Lib.hid (D4.out.read O4.out i6 t6)
  obtain ⟨wx, hwx⟩ : ∃ x, w6.setCell ⟨rb, 3, none⟩ (.bool yes) = x := ⟨_, rfl⟩
  have D : Hid (DecS w w4 ib bs rb [] #[.int .i64 kd, .int .i64 tid, .int .i64 0, .bool yes, .slice none 0 0, .slice none 0 0] wx) := by rw [Hid, <- hwx]; exact D6.out.set O4.out 3 _
  have RW : Hid (∀ W2, Tch (fun k => k <= ib) wx W2 -> IsRec W2 (.agg #[.int .i64 kd, .int .i64 tid, .int .i64 0, .bool yes, .slice none 0 0, .slice none 0 0]) ⟨kd, tid, 0, yes, [], []⟩) := fun W2 t => ⟨_, _, rfl, CellsAt.nil _ _, CellsAt.nil _ _⟩
  have c6 : w6.cell? ⟨rb, 3, none⟩ = some (.bool false) := (blk_cell D6.out.box 3).trans rfl
  have f6 := blk_free D6.out.box 3
  clear i6 t6
  obtain ⟨b0, b1, b2, b3, b4, b5⟩ := kc6 D.out.box
  go_wp2_with fail
  refine D.out.inn.ended.mono ?_
  rintro e wy ⟨rfl, rfl⟩
  go_wp2_with fail
  refine (HKR.out _ wx (RW.out _ (Tch.refl _ _))).mono ?_
  rintro e wf ⟨rfl, TF⟩
  have DF := Lib.hid (D.out.keep TF)
  obtain ⟨wz, hwz, HRZ, TZ⟩ : ∃ W, ((((((wf.setCell ⟨bs, 0, none⟩ (.int .i64 kd)).setCell ⟨bs, 1, none⟩ (.int .i64 tid)).setCell ⟨bs, 2, none⟩ (.int .i64 0)).setCell ⟨bs, 3, none⟩ (.bool yes)).setCell ⟨bs, 4, none⟩ (.slice none 0 0)).setCell ⟨bs, 5, none⟩ (.slice none 0 0)) = W /\ Hid (W.heap[bs]? = some (.cells #[.int .i64 kd, .int .i64 tid, .int .i64 0, .bool yes, .slice none 0 0, .slice none 0 0] 37 (0, 0))) /\ Hid (Tch (fun k => k = bs) wf W) := by
   obtain ⟨g1, g2⟩ := set6e (W := wf) (b := bs) (T := 37) (.int .i64 kd) (.int .i64 tid) (.int .i64 0) (.bool yes) (.slice none 0 0) (.slice none 0 0) DF.out.res
   exact ⟨_, rfl, g1, g2⟩
  have TFF := Lib.hid TF
  clear TF b0 b1 b2 b3 b4 b5
  obtain ⟨b0, b1, b2, b3, b4, b5⟩ := kc6 DF.out.box
  obtain ⟨r0, r1, r2, r3, r4, r5⟩ := kc6 DF.out.res
  obtain ⟨fr0, fr1, fr2, fr3, fr4, fr5⟩ := kf6 DF.out.res
  go_wp2_with fail
  obtain ⟨q0, q1, q2, q3, q4, q5⟩ := kc6 HRZ.out
  refine bodyPost_ret (v := .tuple #[.agg #[.int .i64 kd, .int .i64 tid, .int .i64 0, .bool yes, .slice none 0 0, .slice none 0 0], .int .i64 0]) (by simp [results, Tryz.results111, go_sem, q0, q1, q2, q3, q4, q5]) rfl ?_
  refine ⟨_, rfl, fun W2 t => RW.out W2 ((TFF.out.no.trans TZ.out (fun k _ e => by have := O4.out.o2; omega)).trans t (fun k _ e => by have h1 := O4.out.o1; have h2 := O4.out.o2; omega)), ?_⟩
  exact (D.out.inn.tch.trans0 TFF.out).fresh TZ.out (fun k e => by have := O4.out.o1; omega)
 ·simp only [if_true, if_false, Bool.false_eq_true, List.append_nil, List.nil_append] at HTL
  obtain ⟨z1, z2, z3, z4⟩ := HZ.out
  obtain rfl := z1 rfl
  obtain rfl := z2 rfl
  obtain rfl := z4 rfl
  have hlp : parts.length <= 7 := (HPO.out (by trivial)).2
  have hT := HTL.out
  rw [hT] at D4
  clear HX HTL hT z1 z2 z3 z4 HZ HUO
  go_wp2_with fail
  refine (D4.out.inn.small parts.length _ (by omega)).mono ?_
  rintro e w6 ⟨rfl, i6, t6⟩
  have D6 := Lib.hid (D4.out.read O4.out i6 t6)
  clear i6 t6 D4
  obtain ⟨np, hnp⟩ : ∃ n, parts.length = n := ⟨_, rfl⟩
  have HNP := Lib.hid hnp
  rw [hnp] at hlp ⊢
  clear hnp
  go_wp2_with fail
  go_loopg [10] np (fun kx sx wr => ∃ k md : Nat, sx = .int .i64 ((md : Nat) : Int) /\ k + md = np /\ md <= kx /\ ∃ va vc, Hid (DecS w w4 ib bs rb ((parts.drop k).flatMap encPtM) #[.int .i64 kd, .int .i64 tid, .int .i64 0, .bool false, (.slice va k vc), .slice none 0 0] wr) /\ Hid (OwnN w4 3 1 k ((parts.take k).map (fun x => Value.int .i64 x)) (.slice va k vc) wr))
  case atStart => exact ⟨0, np, rfl, by omega, by omega, none, 0, D6.out, own_nil _ _ _, fun b hb => by simp [Value.ownBlock] at hb⟩
  case round =>
   obtain ⟨k, md, rfl, hkm, hgk, va, vc, DS, OW⟩ := hrel
   have HIB := Lib.hid DS.out.inn.bad
   cases md with
   | zero =>
    obtain rfl : k = np := by omega
    have D : Hid (DecS w w4 ib bs rb [] #[.int .i64 kd, .int .i64 tid, .int .i64 0, .bool false, (.slice va k vc), .slice none 0 0] wr) := by
     have h1 := DS.out
     rw [<- HNP.out, List.drop_length] at h1
     rw [<- HNP.out]
     exact h1
    have RW : Hid (∀ W2, Tch (fun j => j <= ib) wr W2 -> IsRec W2 (.agg #[.int .i64 kd, .int .i64 tid, .int .i64 0, .bool false, (.slice va k vc), .slice none 0 0]) ⟨kd, tid, 0, false, parts, []⟩) := fun W2 t => by
     have h1 := own_win OW.out (fun j => j <= ib) (fun j hj => by have h3 := O4.out.o3; have h4 := O4.out.o4; omega) W2 t
     have h2 : CellsAt W2 (.slice va k vc) parts.length 1 (parts.map (fun x => Value.int .i64 x)) := by
      have e : parts.take k = parts := by rw [<- HNP.out, List.take_length]
      rw [e] at h1
      rw [HNP.out]; exact h1
     exact ⟨_, _, rfl, h2, CellsAt.nil _ _⟩
    clear DS OW HIB
    obtain ⟨b0, b1, b2, b3, b4, b5⟩ := kc6 D.out.box
    go_wp2_with fail
    refine D.out.inn.ended.mono ?_
    rintro e wy ⟨rfl, rfl⟩
    go_wp2_with fail
    refine (HKR.out _ wr (RW.out _ (Tch.refl _ _))).mono ?_
    rintro e wf ⟨rfl, TF⟩
    have DF := Lib.hid (D.out.keep TF)
    obtain ⟨wz, hwz, HRZ, TZ⟩ : ∃ W, ((((((wf.setCell ⟨bs, 0, none⟩ (.int .i64 kd)).setCell ⟨bs, 1, none⟩ (.int .i64 tid)).setCell ⟨bs, 2, none⟩ (.int .i64 0)).setCell ⟨bs, 3, none⟩ (.bool false)).setCell ⟨bs, 4, none⟩ (.slice va k vc)).setCell ⟨bs, 5, none⟩ (.slice none 0 0)) = W /\ Hid (W.heap[bs]? = some (.cells #[.int .i64 kd, .int .i64 tid, .int .i64 0, .bool false, .slice va k vc, .slice none 0 0] 37 (0, 0))) /\ Hid (Tch (fun k => k = bs) wf W) := by
     obtain ⟨g1, g2⟩ := set6e (W := wf) (b := bs) (T := 37) (.int .i64 kd) (.int .i64 tid) (.int .i64 0) (.bool false) (.slice va k vc) (.slice none 0 0) DF.out.res
     exact ⟨_, rfl, g1, g2⟩
    have TFF := Lib.hid TF
    clear TF b0 b1 b2 b3 b4 b5
    obtain ⟨b0, b1, b2, b3, b4, b5⟩ := kc6 DF.out.box
    obtain ⟨r0, r1, r2, r3, r4, r5⟩ := kc6 DF.out.res
    obtain ⟨fr0, fr1, fr2, fr3, fr4, fr5⟩ := kf6 DF.out.res
    go_wp2_with fail
    obtain ⟨q0, q1, q2, q3, q4, q5⟩ := kc6 HRZ.out
    refine bodyPost_ret (v := .tuple #[.agg #[.int .i64 kd, .int .i64 tid, .int .i64 0, .bool false, .slice va k vc, .slice none 0 0], .int .i64 0]) (by simp [results, Tryz.results111, go_sem, q0, q1, q2, q3, q4, q5]) rfl ?_
    refine ⟨_, rfl, fun W2 t => RW.out W2 ((TFF.out.no.trans TZ.out (fun k _ e => by have := O4.out.o2; omega)).trans t (fun k _ e => by have h1 := O4.out.o1; have h2 := O4.out.o2; omega)), ?_⟩
    exact (D.out.inn.tch.trans0 TFF.out).fresh TZ.out (fun k e => by have := O4.out.o1; omega)
   | succ md =>
    have hlt : k < parts.length := by rw [HNP.out]; omega
    have hpos : (0 : Int) < ((md + 1 : Nat) : Int) := by omega
    as_aux_lemma =>
     have hx := (HPO.out (by trivial)).1 _ (List.getElem_mem hlt)
     obtain ⟨px, hpx⟩ : ∃ x, parts[k] = x := ⟨_, rfl⟩
     have HL : Hid ((parts.drop k).flatMap encPtM = leBytes 2 px.toNat ++ (parts.drop (k + 1)).flatMap encPtM) := by rw [Hid, List.drop_eq_getElem_cons hlt, List.flatMap_cons, hpx]; rfl
     have HXS : Hid ((parts.take (k + 1)).map (fun x => Value.int .i64 x) = (parts.take k).map (fun x => Value.int .i64 x) ++ [.int .i64 px]) := by rw [Hid, List.take_succ_eq_append_getElem hlt, List.map_append, hpx]; rfl
     have HON : Hid (Ones [Value.int .i64 px]) := fun u hu => by
      simp only [List.mem_cons, List.not_mem_nil, or_false] at hu
      subst hu; rfl
     rw [hpx] at hx
     clear hpx
     obtain ⟨rst, hrst⟩ : ∃ x, (parts.drop (k + 1)).flatMap encPtM = x := ⟨_, rfl⟩
     obtain ⟨L0, hL0⟩ : ∃ x, (parts.drop k).flatMap encPtM = x := ⟨_, rfl⟩
     have HS1 : Hid (∀ W, InS w ib L0 W -> Calls Tryz.prog 113 #[.pointer (some ⟨ib, 0, none⟩)] W fun e w' => e = .returned (.int .i64 px) /\ InS w ib rst w' /\ Tch (InF ib) W w') := fun W h => by
      rw [<- hL0, HL.out, hrst] at h
      have h2 := InS.small px.toNat rst h (by omega)
      have e : ((px.toNat : Nat) : Int) = px := by omega
      rwa [e] at h2
     rw [hL0] at DS
     obtain ⟨XS, hXS⟩ : ∃ x, (parts.take k).map (fun x => Value.int .i64 x) = x := ⟨_, rfl⟩
     rw [hXS] at OW HXS
     obtain ⟨vk, hvk⟩ : ∃ x, Value.slice va k vc = x := ⟨_, rfl⟩
     rw [hvk] at DS OW
     clear hvk
     go_wp2_with fail
     refine HIB.out.mono ?_
     rintro e wy ⟨rfl, rfl⟩
     go_upto_region 12 with fail
     refine frame_var 86 rfl (fun fr hfr hsz => ?_)
     have h4 : fr.eval (.tmp 4) = .pointer (some ⟨ib, 0, none⟩) := by rw [hfr.out]; rfl
     have h5 : fr.eval (.tmp 5) = .pointer (some ⟨rb, 0, none⟩) := by rw [hfr.out]; rfl
     have hk9 : k <= 10 := by omega
     have hlist : ∀ f ∈ ([(fun x _ => x = .pointer (some ⟨rb, 4, none⟩)), (fun x _ => x = vk), (fun x _ => x = .pointer (some ⟨ib, 0, none⟩)), (fun x _ => x = .int .i64 px), (SrcC 1 1 [.int .i64 px]), (OwnN w4 3 1 (k + 1) (XS ++ [.int .i64 px])), (fun x _ => x = .pointer (some ⟨rb, 4, none⟩)), (fun x _ => True)] : List (Value -> World -> Prop)), Stb f :=
      all_mem1 ((pur_eq _).stb) (all_mem1 ((pur_eq _).stb) (all_mem1 ((pur_eq _).stb) (all_mem1 ((pur_eq _).stb) (all_mem1 (stb_src) (all_mem1 (stb_own) (all_mem1 ((pur_eq _).stb) (all_mem1 (pur_any.stb) (all_mem0))))))))
     refine wp_region_inv4 [3, 5, 7] (fun i => ([[0, 1], [0, 1], [0], [], [1], [], [2], []][i]?).getD []) (fun kst : Nat => match kst with | 0 => (fun W => DecS w w4 ib bs rb (L0) #[.int .i64 kd, .int .i64 tid, .int .i64 0, .bool false, vk, .slice none 0 0] W /\ OwnN w4 3 1 k XS vk W) | 1 => (fun W => DecS w w4 ib bs rb (rst) #[.int .i64 kd, .int .i64 tid, .int .i64 0, .bool false, vk, .slice none 0 0] W /\ OwnN w4 3 1 k XS vk W) | 2 => (fun W => DecS w w4 ib bs rb (rst) #[.int .i64 kd, .int .i64 tid, .int .i64 0, .bool false, vk, .slice none 0 0] W) | _ => (fun W => ∃ a9 c9, DecS w w4 ib bs rb rst #[.int .i64 kd, .int .i64 tid, .int .i64 0, .bool false, .slice a9 (k + 1) c9, .slice none 0 0] W /\ OwnN w4 3 1 (k + 1) (XS ++ [.int .i64 px]) (.slice a9 (k + 1) c9) W)) (RL [(fun x _ => x = .pointer (some ⟨rb, 4, none⟩)), (fun x _ => x = vk), (fun x _ => x = .pointer (some ⟨ib, 0, none⟩)), (fun x _ => x = .int .i64 px), (SrcC 1 1 [.int .i64 px]), (OwnN w4 3 1 (k + 1) (XS ++ [.int .i64 px])), (fun x _ => x = .pointer (some ⟨rb, 4, none⟩)), (fun x _ => True)]) [4, 5] [47, 48, 49, 50, 51, 52, 53] [(some 47, [5], []), (some 48, [47], [0]), (some 49, [4], []), (some 50, [49], [2]), (some 51, [50], [3]), (some 52, [48, 51], [1, 4, 3]), (some 53, [5], [0, 1, 2, 3, 4, 5]), (none, [53, 52], [6, 5, 5, 0, 1, 2, 3, 4, 5])] (fun i => ([[], [0], [], [2], [2, 3], [0, 1, 2, 3, 4], [0, 1, 2, 3, 4, 5], [0, 1, 2, 3, 4, 5, 6]][i]?).getD []) (fun i => ([[], [0], [], [2], [3], [1, 4], [], [5, 6]][i]?).getD []) (fun i => ([[], [], [], [], [], [4], [], [4, 5]][i]?).getD []) (fun i => ([[5], [5], [4, 5], [4, 5], [5], [], [], []][i]?).getD []) (by kernel_rfl) (by kernel_rfl) (by kernel_rfl) (by rw [hsz]; kernel_rfl) (by kernel_rfl) (by kernel_rfl) ?_ (rl_pur ?_) ?_ ?_ ?_
     ·exact ⟨DS.out.keep (Tch.drew _), stb_own _ _ _ (Tch.drew _) OW.out⟩
     ·show ∀ j, j < 8 -> _ ∨ _
      refine all_lt1 (all_lt1 (all_lt1 (all_lt1 (all_lt1 (all_lt1 (all_lt1 (all_lt1 (all_lt0) (Or.inr (pur_eq _))) (Or.inr (pur_eq _))) (Or.inr (pur_eq _))) (Or.inr (pur_eq _))) (Or.inl (by decide))) (Or.inl (by decide))) (Or.inr (pur_eq _))) (Or.inr pur_any)
     ·show ∀ i, i < 8 -> _
      refine all_lt1 (all_lt1 (all_lt1 (all_lt1 (all_lt1 (all_lt1 (all_lt1 (all_lt1 (all_lt0) ?c0) ?c1) ?c2) ?c3) ?c4) ?c5) ?c6) ?c7
      case c0 =>
       intro kst hkst
       replace hkst : kst ∈ ([0, 1] : List Nat) := hkst
       simp only [List.mem_cons, List.not_mem_nil, or_false] at hkst
       rcases hkst with rfl | rfl
       ·exact istep_q (d := 47) (.pointer (some ⟨rb, 4, none⟩)) ⟨some 47, _, _, _, _, none⟩ rfl rfl (fun a w' hf hC hn => (iwanted_no rfl)) (fun _ _ => rfl) (fun a W hf hC hn => y_faRecord4 (ρ := a.eval) (.tmp 5) (b := rb) (off := 0) rfl (hf.ev (by kernel_rfl) h5) W)
       ·exact istep_q (d := 47) (.pointer (some ⟨rb, 4, none⟩)) ⟨some 47, _, _, _, _, none⟩ rfl rfl (fun a w' hf hC hn => (iwanted_no rfl)) (fun _ _ => rfl) (fun a W hf hC hn => y_faRecord4 (ρ := a.eval) (.tmp 5) (b := rb) (off := 0) rfl (hf.ev (by kernel_rfl) h5) W)
      case c1 =>
       intro kst hkst
       replace hkst : kst ∈ ([0, 1] : List Nat) := hkst
       simp only [List.mem_cons, List.not_mem_nil, or_false] at hkst
       rcases hkst with rfl | rfl
       ·exact istep_q (d := 48) (vk) ⟨some 48, _, _, _, _, none⟩ rfl rfl (fun a w' hf hC hn => (iwanted_no rfl)) (fun _ _ => rfl) (fun a W hf hC hn => y_ldSInt (ρ := a.eval) (.tmp 47) (ad := ⟨rb, 4, none⟩) rfl (hn 0 (by decide)) W (((blk_cell hC.1.box 4).trans rfl)))
       ·exact istep_q (d := 48) (vk) ⟨some 48, _, _, _, _, none⟩ rfl rfl (fun a w' hf hC hn => (iwanted_no rfl)) (fun _ _ => rfl) (fun a W hf hC hn => y_ldSInt (ρ := a.eval) (.tmp 47) (ad := ⟨rb, 4, none⟩) rfl (hn 0 (by decide)) W (((blk_cell hC.1.box 4).trans rfl)))
      case c2 =>
       intro kst hkst
       replace hkst : kst ∈ ([0] : List Nat) := hkst
       simp only [List.mem_cons, List.not_mem_nil, or_false] at hkst
       rcases hkst with rfl
       ·exact istep_q (d := 49) (.pointer (some ⟨ib, 0, none⟩)) ⟨some 49, _, _, _, _, none⟩ rfl rfl (fun a w' hf hC hn => (iwanted_no rfl)) (fun _ _ => rfl) (fun a W hf hC hn => y_move (ρ := a.eval) (.tmp 4) rfl (hf.ev (by kernel_rfl) h4) W)
      case c3 => intro kst hkst; exact (List.not_mem_nil (show kst ∈ ([] : List Nat) from hkst)).elim
      case c4 =>
       intro kst hkst
       replace hkst : kst ∈ ([1] : List Nat) := hkst
       simp only [List.mem_cons, List.not_mem_nil, or_false] at hkst
       rcases hkst with rfl
       ·refine istep_w ⟨some 51, _, _, _, _, none⟩ rfl (fun a w' hf hC hn => (iwanted_no rfl)) (fun a W hf hC hn K hK => ?_)
        refine wp_runs (y_bsInt (ρ := a.eval) (.tmp 50) rfl (hn 3 (by decide)) rfl W) ?_
        exact hK _ _ ⟨hC.1.keep (Tch.alloc _ _), stb_own _ _ _ (Tch.alloc _ _) hC.2⟩ (cells_lit W _ _ 1 _ rfl rfl _) (fun j _ _ _ _ x h => rl_stb hlist j x _ _ (Tch.alloc _ _) h)
      case c5 => intro kst hkst; exact (List.not_mem_nil (show kst ∈ ([] : List Nat) from hkst)).elim
      case c6 =>
       intro kst hkst
       replace hkst : kst ∈ ([2] : List Nat) := hkst
       simp only [List.mem_cons, List.not_mem_nil, or_false] at hkst
       rcases hkst with rfl
       ·exact istep_q (d := 53) (.pointer (some ⟨rb, 4, none⟩)) ⟨some 53, _, _, _, _, none⟩ rfl rfl (fun a w' hf hC hn => (iwanted_no rfl)) (fun _ _ => rfl) (fun a W hf hC hn => y_faRecord4 (ρ := a.eval) (.tmp 5) (b := rb) (off := 0) rfl (hf.ev (by kernel_rfl) h5) W)
      case c7 => intro kst hkst; exact (List.not_mem_nil (show kst ∈ ([] : List Nat) from hkst)).elim
     ·show ∀ k, k < 3 -> _
      refine all_lt1 (all_lt1 (all_lt1 (all_lt0) ?e3) ?e5) ?e7
      case e3 =>
       show IStep2 _ _ _ _ _ _ (fun W => DecS w w4 ib bs rb (L0) #[.int .i64 kd, .int .i64 tid, .int .i64 0, .bool false, vk, .slice none 0 0] W /\ OwnN w4 3 1 k XS vk W) (fun W => DecS w w4 ib bs rb (rst) #[.int .i64 kd, .int .i64 tid, .int .i64 0, .bool false, vk, .slice none 0 0] W /\ OwnN w4 3 1 k XS vk W) _ _ _ _ _ 3
       refine istep_w2 (i := 3) ⟨some 50, _, _, _, _, none⟩ rfl (fun a w' hf hC hn => (iwanted_no rfl)) (fun a W hf hk hC hn K hK => ?_)
       refine w_call Tryz.func113 (by kernel_rfl) (by kernel_rfl) [.tmp 49] _ rfl [.pointer (some ⟨ib, 0, none⟩)] (map1 (hn 2 (by decide))) (HS1.out W hC.1.inn) (fun e w' h => ?_)
       obtain ⟨he, hI, tI⟩ := h
       exact ⟨_, he, hK _ _ ⟨hC.1.read O4.out hI tI, own_in O4.out hC.2 tI⟩ rfl (by intro j hj h1 h2 h3; exfalso; revert j; decide)⟩
      case e5 =>
       show IStep2 _ _ _ _ _ _ (fun W => DecS w w4 ib bs rb (rst) #[.int .i64 kd, .int .i64 tid, .int .i64 0, .bool false, vk, .slice none 0 0] W /\ OwnN w4 3 1 k XS vk W) (fun W => DecS w w4 ib bs rb (rst) #[.int .i64 kd, .int .i64 tid, .int .i64 0, .bool false, vk, .slice none 0 0] W) _ _ _ _ _ 5
       refine istep_w2 (i := 5) ⟨some 52, _, _, _, _, none⟩ rfl (fun a w' hf hC hn => (iwanted_no rfl)) (fun a W hf hk hC hn K hK => ?_)
       have g4 : SrcC 1 1 [.int .i64 px] (a.eval (.tmp 51)) W := hn 4 (by decide)
       refine wp_appE eltInt (.tmp 48) (.tmp 51) rfl vk k XS (hn 1 (by decide)) hC.2.1 _ 1 _ rfl g4 HON.out (by omega) (fun a' n' c' w' hA hn' => ?_)
       refine hK _ _ (hC.1.grow O4.out (Tch.grown (F := fun q => vk.ownBlock = some q) hA.grow (fun q hq _ => hq)) (fun q hq => hC.2.2 q hq)) ⟨hA.own, fun q hq => ?_⟩ (by intro j hj h1 h2 h3; exfalso; revert j; decide)
       rcases hA.loc with e1 | e1
       ·rw [e1] at hq; exact hC.2.2 q hq
       ·rw [e1] at hq
        have z1 := hC.1.le
        simp at hq; omega
      case e7 =>
       show IStep2 _ _ _ _ _ _ (fun W => DecS w w4 ib bs rb (rst) #[.int .i64 kd, .int .i64 tid, .int .i64 0, .bool false, vk, .slice none 0 0] W) (fun W => ∃ a9 c9, DecS w w4 ib bs rb rst #[.int .i64 kd, .int .i64 tid, .int .i64 0, .bool false, .slice a9 (k + 1) c9, .slice none 0 0] W /\ OwnN w4 3 1 (k + 1) (XS ++ [.int .i64 px]) (.slice a9 (k + 1) c9) W) _ _ _ _ _ 7
       refine istep_w2 (i := 7) ⟨none, _, _, _, _, none⟩ rfl (fun a w' hf hC hn => (iwanted_no rfl)) (fun a W hf hk hC hn K hK => ?_)
       have g5 : OwnN w4 3 1 (k + 1) (XS ++ [.int .i64 px]) (a.eval (.tmp 52)) W := hn 5 (by decide)
       obtain ⟨a9, c9, e9, _, _⟩ := own_shape g5.1
       refine w_stSInt (.tmp 53) (.tmp 52) rfl rfl (hn 6 (by decide)) rfl (by rw [e9]; rfl) ((blk_cell hC.box 4).trans rfl) (blk_free hC.box 4) (fun z => ?_)
       rw [e9] at g5 ⊢
       exact hK _ _ ⟨a9, c9, hC.set O4.out 4 _, own_box O4.out g5⟩ trivial (by intro j hj h1 h2 h3; exfalso; revert j; decide)
     ·intro af wf hf hC hR
      replace hC : (fun W => ∃ a9 c9, DecS w w4 ib bs rb rst #[.int .i64 kd, .int .i64 tid, .int .i64 0, .bool false, .slice a9 (k + 1) c9, .slice none 0 0] W /\ OwnN w4 3 1 (k + 1) (XS ++ [.int .i64 px]) (.slice a9 (k + 1) c9) W) wf := hC
      obtain ⟨vs, hl, rfl⟩ := hf
      have hl : vs.length = 7 := hl
      obtain ⟨u0, vs0, hv0, hl⟩ := vs_cons hl
      obtain ⟨u1, vs1, hv1, hl⟩ := vs_cons hl
      obtain ⟨u2, vs2, hv2, hl⟩ := vs_cons hl
      obtain ⟨u3, vs3, hv3, hl⟩ := vs_cons hl
      obtain ⟨u4, vs4, hv4, hl⟩ := vs_cons hl
      obtain ⟨u5, vs5, hv5, hl⟩ := vs_cons hl
      obtain ⟨u6, vs6, hv6, hl⟩ := vs_cons hl
      have hvn := vs_nil hl
      have hvs : vs = [u0, u1, u2, u3, u4, u5, u6] := by rw [hv0, hv1, hv2, hv3, hv4, hv5, hv6, hvn]
      clear hvn hl hv0 hv1 hv2 hv3 hv4 hv5 hv6
      subst hvs
      have hfr2 := hfr.out
      subst hfr2
      simp only [putAll, Act.put, List.setIfInBounds_toArray, List.set_cons_succ, List.set_cons_zero]
      clear hR hlist hsz
      obtain ⟨a9, c9, DF, OF⟩ := hC
      have DFF := Lib.hid DF
      have OFF := Lib.hid OF
      clear DF OF
      go_wp2_with fail
      go_roundg md
      case measure => omega
      case rel => exact ⟨k + 1, md, by go_num, by omega, by omega, a9, c9, by rw [hrst]; exact DFF.out, by rw [HXS.out]; exact OFF.out⟩
 ·simp only [if_true, if_false, Bool.false_eq_true, List.append_nil, List.nil_append] at HTL
  obtain ⟨z1, z2, z3, z4⟩ := HZ.out
  obtain rfl := z1 rfl
  obtain rfl := z2 rfl
  obtain rfl := z3 rfl
  have hlp : puts.length <= 10 := (HUO.out (by trivial)).2
  have hT := HTL.out
  rw [hT] at D4
  clear HX HTL hT z1 z2 z3 z4 HZ HPO
  go_wp2_with fail
  refine (D4.out.inn.small puts.length _ (by omega)).mono ?_
  rintro e w6 ⟨rfl, i6, t6⟩
  have D6 := Lib.hid (D4.out.read O4.out i6 t6)
  clear i6 t6 D4
  obtain ⟨np, hnp⟩ : ∃ n, puts.length = n := ⟨_, rfl⟩
  have HNP := Lib.hid hnp
  rw [hnp] at hlp ⊢
  clear hnp
  go_wp2_with fail
  go_loopg [11] np (fun kx sx wr => ∃ k md : Nat, sx = .int .i64 ((md : Nat) : Int) /\ k + md = np /\ md <= kx /\ ∃ va vc, Hid (DecS w w4 ib bs rb ((puts.drop k).flatMap encPuM) #[.int .i64 kd, .int .i64 tid, .int .i64 0, .bool false, .slice none 0 0, (.slice va k vc)] wr) /\ Hid (OwnN w4 45 2 k ((puts.take k).flatMap encPut) (.slice va k vc) wr))
  case atStart => exact ⟨0, np, rfl, by omega, by omega, none, 0, D6.out, own_nil _ _ _, fun b hb => by simp [Value.ownBlock] at hb⟩
  case round =>
   obtain ⟨k, md, rfl, hkm, hgk, va, vc, DS, OW⟩ := hrel
   have HIB := Lib.hid DS.out.inn.bad
   cases md with
   | zero =>
    obtain rfl : k = np := by omega
    have D : Hid (DecS w w4 ib bs rb [] #[.int .i64 kd, .int .i64 tid, .int .i64 0, .bool false, .slice none 0 0, (.slice va k vc)] wr) := by
     have h1 := DS.out
     rw [<- HNP.out, List.drop_length] at h1
     rw [<- HNP.out]
     exact h1
    have RW : Hid (∀ W2, Tch (fun j => j <= ib) wr W2 -> IsRec W2 (.agg #[.int .i64 kd, .int .i64 tid, .int .i64 0, .bool false, .slice none 0 0, (.slice va k vc)]) ⟨kd, tid, 0, false, [], puts⟩) := fun W2 t => by
     have h1 := own_win OW.out (fun j => j <= ib) (fun j hj => by have h3 := O4.out.o3; have h4 := O4.out.o4; omega) W2 t
     have h2 : CellsAt W2 (.slice va k vc) puts.length 2 (puts.flatMap encPut) := by
      have e : puts.take k = puts := by rw [<- HNP.out, List.take_length]
      rw [e] at h1
      rw [HNP.out]; exact h1
     exact ⟨_, _, rfl, CellsAt.nil _ _, h2⟩
    clear DS OW HIB
    obtain ⟨b0, b1, b2, b3, b4, b5⟩ := kc6 D.out.box
    go_wp2_with fail
    refine D.out.inn.ended.mono ?_
    rintro e wy ⟨rfl, rfl⟩
    go_wp2_with fail
    refine (HKR.out _ wr (RW.out _ (Tch.refl _ _))).mono ?_
    rintro e wf ⟨rfl, TF⟩
    have DF := Lib.hid (D.out.keep TF)
    obtain ⟨wz, hwz, HRZ, TZ⟩ : ∃ W, ((((((wf.setCell ⟨bs, 0, none⟩ (.int .i64 kd)).setCell ⟨bs, 1, none⟩ (.int .i64 tid)).setCell ⟨bs, 2, none⟩ (.int .i64 0)).setCell ⟨bs, 3, none⟩ (.bool false)).setCell ⟨bs, 4, none⟩ (.slice none 0 0)).setCell ⟨bs, 5, none⟩ (.slice va k vc)) = W /\ Hid (W.heap[bs]? = some (.cells #[.int .i64 kd, .int .i64 tid, .int .i64 0, .bool false, .slice none 0 0, .slice va k vc] 37 (0, 0))) /\ Hid (Tch (fun k => k = bs) wf W) := by
     obtain ⟨g1, g2⟩ := set6e (W := wf) (b := bs) (T := 37) (.int .i64 kd) (.int .i64 tid) (.int .i64 0) (.bool false) (.slice none 0 0) (.slice va k vc) DF.out.res
     exact ⟨_, rfl, g1, g2⟩
    have TFF := Lib.hid TF
    clear TF b0 b1 b2 b3 b4 b5
    obtain ⟨b0, b1, b2, b3, b4, b5⟩ := kc6 DF.out.box
    obtain ⟨r0, r1, r2, r3, r4, r5⟩ := kc6 DF.out.res
    obtain ⟨fr0, fr1, fr2, fr3, fr4, fr5⟩ := kf6 DF.out.res
    go_wp2_with fail
    obtain ⟨q0, q1, q2, q3, q4, q5⟩ := kc6 HRZ.out
    refine bodyPost_ret (v := .tuple #[.agg #[.int .i64 kd, .int .i64 tid, .int .i64 0, .bool false, .slice none 0 0, .slice va k vc], .int .i64 0]) (by simp [results, Tryz.results111, go_sem, q0, q1, q2, q3, q4, q5]) rfl ?_
    refine ⟨_, rfl, fun W2 t => RW.out W2 ((TFF.out.no.trans TZ.out (fun k _ e => by have := O4.out.o2; omega)).trans t (fun k _ e => by have h1 := O4.out.o1; have h2 := O4.out.o2; omega)), ?_⟩
    exact (D.out.inn.tch.trans0 TFF.out).fresh TZ.out (fun k e => by have := O4.out.o1; omega)
   | succ md =>
    have hlt : k < puts.length := by rw [HNP.out]; omega
    have hpos : (0 : Int) < ((md + 1 : Nat) : Int) := by omega
    as_aux_lemma =>
     have hx := (HUO.out (by trivial)).1 _ (List.getElem_mem hlt)
     unfold putB queueB bodyB at hx
     simp only [Bool.and_eq_true, decide_eq_true_eq] at hx
     obtain ⟨pu, hpx⟩ : ∃ x, puts[k] = x := ⟨_, rfl⟩
     rw [hpx] at hx
     obtain ⟨q1, hq1⟩ : ∃ x : ByteArray, (⟨pu.q.toArray⟩ : ByteArray) = x := ⟨_, rfl⟩
     obtain ⟨q2, hq2⟩ : ∃ x : ByteArray, (⟨pu.b.toArray⟩ : ByteArray) = x := ⟨_, rfl⟩
     have HL : Hid ((puts.drop k).flatMap encPuM = textM pu.q ++ (textM pu.b ++ (puts.drop (k + 1)).flatMap encPuM)) := by rw [Hid, List.drop_eq_getElem_cons hlt, List.flatMap_cons, hpx, encPuM, List.append_assoc]
     have HXS : Hid ((puts.take (k + 1)).flatMap encPut = (puts.take k).flatMap encPut ++ [.string q1, .string q2]) := by rw [Hid, List.take_succ_eq_append_getElem hlt, List.flatMap_append, hpx, <- hq1, <- hq2]; simp [encPut, strV]
     have HON : Hid (Ones [Value.string q1, Value.string q2]) := fun u hu => by
      simp only [List.mem_cons, List.not_mem_nil, or_false] at hu
      rcases hu with rfl | rfl <;> rfl
     obtain ⟨rst, hrst⟩ : ∃ x, (puts.drop (k + 1)).flatMap encPuM = x := ⟨_, rfl⟩
     obtain ⟨L1, hL1⟩ : ∃ x, textM pu.b ++ rst = x := ⟨_, rfl⟩
     obtain ⟨L0, hL0⟩ : ∃ x, (puts.drop k).flatMap encPuM = x := ⟨_, rfl⟩
     have HS1 : Hid (∀ W, InS w ib L0 W -> Calls Tryz.prog 112 #[.pointer (some ⟨ib, 0, none⟩)] W fun e w' => e = .returned (.string q1) /\ InS w ib L1 w' /\ Tch (InF ib) W w') := fun W h => by
      rw [<- hL0, HL.out, hrst, hL1] at h
      have h2 := InS.text pu.q L1 h (by omega)
      rwa [strV, hq1] at h2
     have HS2 : Hid (∀ W, InS w ib L1 W -> Calls Tryz.prog 112 #[.pointer (some ⟨ib, 0, none⟩)] W fun e w' => e = .returned (.string q2) /\ InS w ib rst w' /\ Tch (InF ib) W w') := fun W h => by
      rw [<- hL1] at h
      have h2 := InS.text pu.b rst h (by omega)
      rwa [strV, hq2] at h2
     rw [hL0] at DS
     obtain ⟨XS, hXS⟩ : ∃ x, (puts.take k).flatMap encPut = x := ⟨_, rfl⟩
     rw [hXS] at OW HXS
     clear hpx hq1 hq2
     obtain ⟨vk, hvk⟩ : ∃ x, Value.slice va k vc = x := ⟨_, rfl⟩
     rw [hvk] at DS OW
     clear hvk
     go_wp2_with fail
     refine HIB.out.mono ?_
     rintro e wy ⟨rfl, rfl⟩
     go_upto_region 17 with fail
     refine frame_var 86 rfl (fun fr hfr hsz => ?_)
     have h4 : fr.eval (.tmp 4) = .pointer (some ⟨ib, 0, none⟩) := by rw [hfr.out]; rfl
     have h5 : fr.eval (.tmp 5) = .pointer (some ⟨rb, 0, none⟩) := by rw [hfr.out]; rfl
     have hk9 : k <= 10 := by omega
     have hlist : ∀ f ∈ ([(fun x _ => x = .pointer (some ⟨rb, 5, none⟩)), (fun x _ => x = vk), (fun x _ => x = .pointer (some ⟨ib, 0, none⟩)), (fun x _ => x = .string q1), (fun x _ => x = .pointer (some ⟨ib, 0, none⟩)), (fun x _ => x = .string q2), (fun x _ => x = .agg #[.string q1, .string q2]), (SrcC 1 2 [.string q1, .string q2]), (OwnN w4 45 2 (k + 1) (XS ++ [.string q1, .string q2])), (fun x _ => x = .pointer (some ⟨rb, 5, none⟩)), (fun x _ => True)] : List (Value -> World -> Prop)), Stb f :=
      all_mem1 ((pur_eq _).stb) (all_mem1 ((pur_eq _).stb) (all_mem1 ((pur_eq _).stb) (all_mem1 ((pur_eq _).stb) (all_mem1 ((pur_eq _).stb) (all_mem1 ((pur_eq _).stb) (all_mem1 ((pur_eq _).stb) (all_mem1 (stb_src) (all_mem1 (stb_own) (all_mem1 ((pur_eq _).stb) (all_mem1 (pur_any.stb) (all_mem0)))))))))))
     refine wp_region_inv4 [3, 5, 8, 10] (fun i => ([[0, 1, 2], [0, 1, 2], [0], [], [0, 1], [], [2], [2], [], [3], []][i]?).getD []) (fun kst : Nat => match kst with | 0 => (fun W => DecS w w4 ib bs rb (L0) #[.int .i64 kd, .int .i64 tid, .int .i64 0, .bool false, .slice none 0 0, vk] W /\ OwnN w4 45 2 k XS vk W) | 1 => (fun W => DecS w w4 ib bs rb (L1) #[.int .i64 kd, .int .i64 tid, .int .i64 0, .bool false, .slice none 0 0, vk] W /\ OwnN w4 45 2 k XS vk W) | 2 => (fun W => DecS w w4 ib bs rb (rst) #[.int .i64 kd, .int .i64 tid, .int .i64 0, .bool false, .slice none 0 0, vk] W /\ OwnN w4 45 2 k XS vk W) | 3 => (fun W => DecS w w4 ib bs rb (rst) #[.int .i64 kd, .int .i64 tid, .int .i64 0, .bool false, .slice none 0 0, vk] W) | _ => (fun W => ∃ a9 c9, DecS w w4 ib bs rb rst #[.int .i64 kd, .int .i64 tid, .int .i64 0, .bool false, .slice none 0 0, .slice a9 (k + 1) c9] W /\ OwnN w4 45 2 (k + 1) (XS ++ [.string q1, .string q2]) (.slice a9 (k + 1) c9) W)) (RL [(fun x _ => x = .pointer (some ⟨rb, 5, none⟩)), (fun x _ => x = vk), (fun x _ => x = .pointer (some ⟨ib, 0, none⟩)), (fun x _ => x = .string q1), (fun x _ => x = .pointer (some ⟨ib, 0, none⟩)), (fun x _ => x = .string q2), (fun x _ => x = .agg #[.string q1, .string q2]), (SrcC 1 2 [.string q1, .string q2]), (OwnN w4 45 2 (k + 1) (XS ++ [.string q1, .string q2])), (fun x _ => x = .pointer (some ⟨rb, 5, none⟩)), (fun x _ => True)]) [7, 8] [66, 67, 68, 69, 70, 71, 72, 73, 74, 75] [(some 66, [5], []), (some 67, [66], [0]), (some 68, [4], []), (some 69, [68], [2]), (some 70, [4], []), (some 71, [70], [4, 3]), (some 72, [69, 71], [3, 5]), (some 73, [72], [6]), (some 74, [67, 73], [1, 7, 5]), (some 75, [5], [0, 1, 2, 3, 4, 5, 6, 7, 8]), (none, [75, 74], [9, 8, 8, 0, 1, 2, 3, 4, 5, 6, 7, 8])] (fun i => ([[], [0], [], [2], [], [2, 3, 4], [2, 3, 4, 5], [2, 3, 4, 5, 6], [0, 1, 2, 3, 4, 5, 6, 7], [0, 1, 2, 3, 4, 5, 6, 7, 8], [0, 1, 2, 3, 4, 5, 6, 7, 8, 9]][i]?).getD []) (fun i => ([[], [0], [], [2], [], [4], [3, 5], [6], [1, 7], [], [8, 9]][i]?).getD []) (fun i => ([[], [], [], [], [], [], [], [], [7], [], [7, 8]][i]?).getD []) (fun i => ([[8], [8], [7, 8], [7, 8], [7, 8], [7, 8], [7, 8], [8], [], [], []][i]?).getD []) (by kernel_rfl) (by kernel_rfl) (by kernel_rfl) (by rw [hsz]; kernel_rfl) (by kernel_rfl) (by kernel_rfl) ?_ (rl_pur ?_) ?_ ?_ ?_
     ·exact ⟨DS.out.keep (Tch.drew _), stb_own _ _ _ (Tch.drew _) OW.out⟩
     ·show ∀ j, j < 11 -> _ ∨ _
      refine all_lt1 (all_lt1 (all_lt1 (all_lt1 (all_lt1 (all_lt1 (all_lt1 (all_lt1 (all_lt1 (all_lt1 (all_lt1 (all_lt0) (Or.inr (pur_eq _))) (Or.inr (pur_eq _))) (Or.inr (pur_eq _))) (Or.inr (pur_eq _))) (Or.inr (pur_eq _))) (Or.inr (pur_eq _))) (Or.inr (pur_eq _))) (Or.inl (by decide))) (Or.inl (by decide))) (Or.inr (pur_eq _))) (Or.inr pur_any)
     ·show ∀ i, i < 11 -> _
      refine all_lt1 (all_lt1 (all_lt1 (all_lt1 (all_lt1 (all_lt1 (all_lt1 (all_lt1 (all_lt1 (all_lt1 (all_lt1 (all_lt0) ?c0) ?c1) ?c2) ?c3) ?c4) ?c5) ?c6) ?c7) ?c8) ?c9) ?c10
      case c0 =>
       intro kst hkst
       replace hkst : kst ∈ ([0, 1, 2] : List Nat) := hkst
       simp only [List.mem_cons, List.not_mem_nil, or_false] at hkst
       rcases hkst with rfl | rfl | rfl
       ·exact istep_q (d := 66) (.pointer (some ⟨rb, 5, none⟩)) ⟨some 66, _, _, _, _, none⟩ rfl rfl (fun a w' hf hC hn => (iwanted_no rfl)) (fun _ _ => rfl) (fun a W hf hC hn => y_faRecord5 (ρ := a.eval) (.tmp 5) (b := rb) (off := 0) rfl (hf.ev (by kernel_rfl) h5) W)
       ·exact istep_q (d := 66) (.pointer (some ⟨rb, 5, none⟩)) ⟨some 66, _, _, _, _, none⟩ rfl rfl (fun a w' hf hC hn => (iwanted_no rfl)) (fun _ _ => rfl) (fun a W hf hC hn => y_faRecord5 (ρ := a.eval) (.tmp 5) (b := rb) (off := 0) rfl (hf.ev (by kernel_rfl) h5) W)
       ·exact istep_q (d := 66) (.pointer (some ⟨rb, 5, none⟩)) ⟨some 66, _, _, _, _, none⟩ rfl rfl (fun a w' hf hC hn => (iwanted_no rfl)) (fun _ _ => rfl) (fun a W hf hC hn => y_faRecord5 (ρ := a.eval) (.tmp 5) (b := rb) (off := 0) rfl (hf.ev (by kernel_rfl) h5) W)
      case c1 =>
       intro kst hkst
       replace hkst : kst ∈ ([0, 1, 2] : List Nat) := hkst
       simp only [List.mem_cons, List.not_mem_nil, or_false] at hkst
       rcases hkst with rfl | rfl | rfl
       ·exact istep_q (d := 67) (vk) ⟨some 67, _, _, _, _, none⟩ rfl rfl (fun a w' hf hC hn => (iwanted_no rfl)) (fun _ _ => rfl) (fun a W hf hC hn => y_ldSPut (ρ := a.eval) (.tmp 66) (ad := ⟨rb, 5, none⟩) rfl (hn 0 (by decide)) W (((blk_cell hC.1.box 5).trans rfl)))
       ·exact istep_q (d := 67) (vk) ⟨some 67, _, _, _, _, none⟩ rfl rfl (fun a w' hf hC hn => (iwanted_no rfl)) (fun _ _ => rfl) (fun a W hf hC hn => y_ldSPut (ρ := a.eval) (.tmp 66) (ad := ⟨rb, 5, none⟩) rfl (hn 0 (by decide)) W (((blk_cell hC.1.box 5).trans rfl)))
       ·exact istep_q (d := 67) (vk) ⟨some 67, _, _, _, _, none⟩ rfl rfl (fun a w' hf hC hn => (iwanted_no rfl)) (fun _ _ => rfl) (fun a W hf hC hn => y_ldSPut (ρ := a.eval) (.tmp 66) (ad := ⟨rb, 5, none⟩) rfl (hn 0 (by decide)) W (((blk_cell hC.1.box 5).trans rfl)))
      case c2 =>
       intro kst hkst
       replace hkst : kst ∈ ([0] : List Nat) := hkst
       simp only [List.mem_cons, List.not_mem_nil, or_false] at hkst
       rcases hkst with rfl
       ·exact istep_q (d := 68) (.pointer (some ⟨ib, 0, none⟩)) ⟨some 68, _, _, _, _, none⟩ rfl rfl (fun a w' hf hC hn => (iwanted_no rfl)) (fun _ _ => rfl) (fun a W hf hC hn => y_move (ρ := a.eval) (.tmp 4) rfl (hf.ev (by kernel_rfl) h4) W)
      case c3 => intro kst hkst; exact (List.not_mem_nil (show kst ∈ ([] : List Nat) from hkst)).elim
      case c4 =>
       intro kst hkst
       replace hkst : kst ∈ ([0, 1] : List Nat) := hkst
       simp only [List.mem_cons, List.not_mem_nil, or_false] at hkst
       rcases hkst with rfl | rfl
       ·exact istep_q (d := 70) (.pointer (some ⟨ib, 0, none⟩)) ⟨some 70, _, _, _, _, none⟩ rfl rfl (fun a w' hf hC hn => (iwanted_no rfl)) (fun _ _ => rfl) (fun a W hf hC hn => y_move (ρ := a.eval) (.tmp 4) rfl (hf.ev (by kernel_rfl) h4) W)
       ·exact istep_q (d := 70) (.pointer (some ⟨ib, 0, none⟩)) ⟨some 70, _, _, _, _, none⟩ rfl rfl (fun a w' hf hC hn => (iwanted_no rfl)) (fun _ _ => rfl) (fun a W hf hC hn => y_move (ρ := a.eval) (.tmp 4) rfl (hf.ev (by kernel_rfl) h4) W)
      case c5 => intro kst hkst; exact (List.not_mem_nil (show kst ∈ ([] : List Nat) from hkst)).elim
      case c6 =>
       intro kst hkst
       replace hkst : kst ∈ ([2] : List Nat) := hkst
       simp only [List.mem_cons, List.not_mem_nil, or_false] at hkst
       rcases hkst with rfl
       ·exact istep_q (d := 72) (.agg #[.string q1, .string q2]) ⟨some 72, _, _, _, _, none⟩ rfl rfl (fun a w' hf hC hn => (iwanted_no rfl)) (fun _ _ => rfl) (fun a W hf hC hn => y_bdPut (ρ := a.eval) (.tmp 69) (.tmp 71) rfl (hn 3 (by decide)) (hn 5 (by decide)) rfl rfl W)
      case c7 =>
       intro kst hkst
       replace hkst : kst ∈ ([2] : List Nat) := hkst
       simp only [List.mem_cons, List.not_mem_nil, or_false] at hkst
       rcases hkst with rfl
       ·refine istep_w ⟨some 73, _, _, _, _, none⟩ rfl (fun a w' hf hC hn => (iwanted_no rfl)) (fun a W hf hC hn K hK => ?_)
        refine wp_runs (y_bsPut (ρ := a.eval) (.tmp 72) (v0 := .string q1) (v1 := .string q2) rfl (hn 6 (by decide)) rfl rfl W) ?_
        exact hK _ _ ⟨hC.1.keep (Tch.alloc _ _), stb_own _ _ _ (Tch.alloc _ _) hC.2⟩ (cells_lit W _ _ 2 _ rfl rfl _) (fun j _ _ _ _ x h => rl_stb hlist j x _ _ (Tch.alloc _ _) h)
      case c8 => intro kst hkst; exact (List.not_mem_nil (show kst ∈ ([] : List Nat) from hkst)).elim
      case c9 =>
       intro kst hkst
       replace hkst : kst ∈ ([3] : List Nat) := hkst
       simp only [List.mem_cons, List.not_mem_nil, or_false] at hkst
       rcases hkst with rfl
       ·exact istep_q (d := 75) (.pointer (some ⟨rb, 5, none⟩)) ⟨some 75, _, _, _, _, none⟩ rfl rfl (fun a w' hf hC hn => (iwanted_no rfl)) (fun _ _ => rfl) (fun a W hf hC hn => y_faRecord5 (ρ := a.eval) (.tmp 5) (b := rb) (off := 0) rfl (hf.ev (by kernel_rfl) h5) W)
      case c10 => intro kst hkst; exact (List.not_mem_nil (show kst ∈ ([] : List Nat) from hkst)).elim
     ·show ∀ k, k < 4 -> _
      refine all_lt1 (all_lt1 (all_lt1 (all_lt1 (all_lt0) ?e3) ?e5) ?e8) ?e10
      case e3 =>
       show IStep2 _ _ _ _ _ _ (fun W => DecS w w4 ib bs rb (L0) #[.int .i64 kd, .int .i64 tid, .int .i64 0, .bool false, .slice none 0 0, vk] W /\ OwnN w4 45 2 k XS vk W) (fun W => DecS w w4 ib bs rb (L1) #[.int .i64 kd, .int .i64 tid, .int .i64 0, .bool false, .slice none 0 0, vk] W /\ OwnN w4 45 2 k XS vk W) _ _ _ _ _ 3
       refine istep_w2 (i := 3) ⟨some 69, _, _, _, _, none⟩ rfl (fun a w' hf hC hn => (iwanted_no rfl)) (fun a W hf hk hC hn K hK => ?_)
       refine w_call Tryz.func112 (by kernel_rfl) (by kernel_rfl) [.tmp 68] _ rfl [.pointer (some ⟨ib, 0, none⟩)] (map1 (hn 2 (by decide))) (HS1.out W hC.1.inn) (fun e w' h => ?_)
       obtain ⟨he, hI, tI⟩ := h
       exact ⟨_, he, hK _ _ ⟨hC.1.read O4.out hI tI, own_in O4.out hC.2 tI⟩ rfl (by intro j hj h1 h2 h3; exfalso; revert j; decide)⟩
      case e5 =>
       show IStep2 _ _ _ _ _ _ (fun W => DecS w w4 ib bs rb (L1) #[.int .i64 kd, .int .i64 tid, .int .i64 0, .bool false, .slice none 0 0, vk] W /\ OwnN w4 45 2 k XS vk W) (fun W => DecS w w4 ib bs rb (rst) #[.int .i64 kd, .int .i64 tid, .int .i64 0, .bool false, .slice none 0 0, vk] W /\ OwnN w4 45 2 k XS vk W) _ _ _ _ _ 5
       refine istep_w2 (i := 5) ⟨some 71, _, _, _, _, none⟩ rfl (fun a w' hf hC hn => (iwanted_no rfl)) (fun a W hf hk hC hn K hK => ?_)
       refine w_call Tryz.func112 (by kernel_rfl) (by kernel_rfl) [.tmp 70] _ rfl [.pointer (some ⟨ib, 0, none⟩)] (map1 (hn 4 (by decide))) (HS2.out W hC.1.inn) (fun e w' h => ?_)
       obtain ⟨he, hI, tI⟩ := h
       exact ⟨_, he, hK _ _ ⟨hC.1.read O4.out hI tI, own_in O4.out hC.2 tI⟩ rfl (by intro j hj h1 h2 h3; exfalso; revert j; decide)⟩
      case e8 =>
       show IStep2 _ _ _ _ _ _ (fun W => DecS w w4 ib bs rb (rst) #[.int .i64 kd, .int .i64 tid, .int .i64 0, .bool false, .slice none 0 0, vk] W /\ OwnN w4 45 2 k XS vk W) (fun W => DecS w w4 ib bs rb (rst) #[.int .i64 kd, .int .i64 tid, .int .i64 0, .bool false, .slice none 0 0, vk] W) _ _ _ _ _ 8
       refine istep_w2 (i := 8) ⟨some 74, _, _, _, _, none⟩ rfl (fun a w' hf hC hn => (iwanted_no rfl)) (fun a W hf hk hC hn K hK => ?_)
       have g4 : SrcC 1 2 [.string q1, .string q2] (a.eval (.tmp 73)) W := hn 7 (by decide)
       refine wp_appE eltPut (.tmp 67) (.tmp 73) rfl vk k XS (hn 1 (by decide)) hC.2.1 _ 1 _ rfl g4 HON.out (by omega) (fun a' n' c' w' hA hn' => ?_)
       refine hK _ _ (hC.1.grow O4.out (Tch.grown (F := fun q => vk.ownBlock = some q) hA.grow (fun q hq _ => hq)) (fun q hq => hC.2.2 q hq)) ⟨hA.own, fun q hq => ?_⟩ (by intro j hj h1 h2 h3; exfalso; revert j; decide)
       rcases hA.loc with e1 | e1
       ·rw [e1] at hq; exact hC.2.2 q hq
       ·rw [e1] at hq
        have z1 := hC.1.le
        simp at hq; omega
      case e10 =>
       show IStep2 _ _ _ _ _ _ (fun W => DecS w w4 ib bs rb (rst) #[.int .i64 kd, .int .i64 tid, .int .i64 0, .bool false, .slice none 0 0, vk] W) (fun W => ∃ a9 c9, DecS w w4 ib bs rb rst #[.int .i64 kd, .int .i64 tid, .int .i64 0, .bool false, .slice none 0 0, .slice a9 (k + 1) c9] W /\ OwnN w4 45 2 (k + 1) (XS ++ [.string q1, .string q2]) (.slice a9 (k + 1) c9) W) _ _ _ _ _ 10
       refine istep_w2 (i := 10) ⟨none, _, _, _, _, none⟩ rfl (fun a w' hf hC hn => (iwanted_no rfl)) (fun a W hf hk hC hn K hK => ?_)
       have g5 : OwnN w4 45 2 (k + 1) (XS ++ [.string q1, .string q2]) (a.eval (.tmp 74)) W := hn 8 (by decide)
       obtain ⟨a9, c9, e9, _, _⟩ := own_shape g5.1
       refine w_stSPut (.tmp 75) (.tmp 74) rfl rfl (hn 9 (by decide)) rfl (by rw [e9]; rfl) ((blk_cell hC.box 5).trans rfl) (blk_free hC.box 5) (fun z => ?_)
       rw [e9] at g5 ⊢
       exact hK _ _ ⟨a9, c9, hC.set O4.out 5 _, own_box O4.out g5⟩ trivial (by intro j hj h1 h2 h3; exfalso; revert j; decide)
     ·intro af wf hf hC hR
      replace hC : (fun W => ∃ a9 c9, DecS w w4 ib bs rb rst #[.int .i64 kd, .int .i64 tid, .int .i64 0, .bool false, .slice none 0 0, .slice a9 (k + 1) c9] W /\ OwnN w4 45 2 (k + 1) (XS ++ [.string q1, .string q2]) (.slice a9 (k + 1) c9) W) wf := hC
      obtain ⟨vs, hl, rfl⟩ := hf
      have hl : vs.length = 10 := hl
      obtain ⟨u0, vs0, hv0, hl⟩ := vs_cons hl
      obtain ⟨u1, vs1, hv1, hl⟩ := vs_cons hl
      obtain ⟨u2, vs2, hv2, hl⟩ := vs_cons hl
      obtain ⟨u3, vs3, hv3, hl⟩ := vs_cons hl
      obtain ⟨u4, vs4, hv4, hl⟩ := vs_cons hl
      obtain ⟨u5, vs5, hv5, hl⟩ := vs_cons hl
      obtain ⟨u6, vs6, hv6, hl⟩ := vs_cons hl
      obtain ⟨u7, vs7, hv7, hl⟩ := vs_cons hl
      obtain ⟨u8, vs8, hv8, hl⟩ := vs_cons hl
      obtain ⟨u9, vs9, hv9, hl⟩ := vs_cons hl
      have hvn := vs_nil hl
      have hvs : vs = [u0, u1, u2, u3, u4, u5, u6, u7, u8, u9] := by rw [hv0, hv1, hv2, hv3, hv4, hv5, hv6, hv7, hv8, hv9, hvn]
      clear hvn hl hv0 hv1 hv2 hv3 hv4 hv5 hv6 hv7 hv8 hv9
      subst hvs
      have hfr2 := hfr.out
      subst hfr2
      simp only [putAll, Act.put, List.setIfInBounds_toArray, List.set_cons_succ, List.set_cons_zero]
      clear hR hlist hsz
      obtain ⟨a9, c9, DF, OF⟩ := hC
      have DFF := Lib.hid DF
      have OFF := Lib.hid OF
      clear DF OF
      go_wp2_with fail
      go_roundg md
      case measure => omega
      case rel => exact ⟨k + 1, md, by go_num, by omega, by omega, a9, c9, by rw [hrst]; exact DFF.out, by rw [HXS.out]; exact OFF.out⟩
 ·simp only [if_true, if_false, Bool.false_eq_true, List.append_nil, List.nil_append] at HTL
  obtain ⟨z1, z2, z3, z4⟩ := HZ.out
  obtain rfl := z1 rfl
  obtain rfl := z2 rfl
  obtain rfl := z3 rfl
  obtain rfl := z4 rfl
  have D := D4
  rw [HTL.out] at D
  clear HX HPO HUO HTL z1 z2 z3 z4 HZ D4
  have RW : Hid (∀ W2, Tch (fun k => k <= ib) w4 W2 -> IsRec W2 (.agg #[.int .i64 kd, .int .i64 tid, .int .i64 0, .bool false, .slice none 0 0, .slice none 0 0]) ⟨kd, tid, 0, false, [], []⟩) := fun W2 t => ⟨_, _, rfl, CellsAt.nil _ _, CellsAt.nil _ _⟩
  obtain ⟨b0, b1, b2, b3, b4, b5⟩ := kc6 D.out.box
  go_wp2_with fail
  refine D.out.inn.ended.mono ?_
  rintro e wy ⟨rfl, rfl⟩
  go_wp2_with fail
  refine (HKR.out _ w4 (RW.out _ (Tch.refl _ _))).mono ?_
  rintro e wf ⟨rfl, TF⟩
  have DF := Lib.hid (D.out.keep TF)
  obtain ⟨wz, hwz, HRZ, TZ⟩ : ∃ W, ((((((wf.setCell ⟨bs, 0, none⟩ (.int .i64 kd)).setCell ⟨bs, 1, none⟩ (.int .i64 tid)).setCell ⟨bs, 2, none⟩ (.int .i64 0)).setCell ⟨bs, 3, none⟩ (.bool false)).setCell ⟨bs, 4, none⟩ (.slice none 0 0)).setCell ⟨bs, 5, none⟩ (.slice none 0 0)) = W /\ Hid (W.heap[bs]? = some (.cells #[.int .i64 kd, .int .i64 tid, .int .i64 0, .bool false, .slice none 0 0, .slice none 0 0] 37 (0, 0))) /\ Hid (Tch (fun k => k = bs) wf W) := by
   obtain ⟨g1, g2⟩ := set6e (W := wf) (b := bs) (T := 37) (.int .i64 kd) (.int .i64 tid) (.int .i64 0) (.bool false) (.slice none 0 0) (.slice none 0 0) DF.out.res
   exact ⟨_, rfl, g1, g2⟩
  have TFF := Lib.hid TF
  clear TF b0 b1 b2 b3 b4 b5
  obtain ⟨b0, b1, b2, b3, b4, b5⟩ := kc6 DF.out.box
  obtain ⟨r0, r1, r2, r3, r4, r5⟩ := kc6 DF.out.res
  obtain ⟨fr0, fr1, fr2, fr3, fr4, fr5⟩ := kf6 DF.out.res
  go_wp2_with fail
  obtain ⟨q0, q1, q2, q3, q4, q5⟩ := kc6 HRZ.out
  refine bodyPost_ret (v := .tuple #[.agg #[.int .i64 kd, .int .i64 tid, .int .i64 0, .bool false, .slice none 0 0, .slice none 0 0], .int .i64 0]) (by simp [results, Tryz.results111, go_sem, q0, q1, q2, q3, q4, q5]) rfl ?_
  refine ⟨_, rfl, fun W2 t => RW.out W2 ((TFF.out.no.trans TZ.out (fun k _ e => by have := O4.out.o2; omega)).trans t (fun k _ e => by have h1 := O4.out.o1; have h2 := O4.out.o2; omega)), ?_⟩
  exact (D.out.inn.tch.trans0 TFF.out).fresh TZ.out (fun k e => by have := O4.out.o1; omega)
end
end Go.Proofs.YtfedhcnmdmhppaaGreat
