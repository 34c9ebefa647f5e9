/- Part 27 of what the proof of StoreTold rests on. No condition. -/
import Derived.Test.YtfedhcnmdmhppaaGreatPStoreTold12
import Derived.Test.YtfedhcnmdmhppaaGreatPStoreTold13
namespace Go.Proofs.YtfedhcnmdmhppaaGreat
set_option maxRecDepth 100000
set_option maxHeartbeats 60000000
set_option linter.unusedVariables false
set_option linter.unusedSimpArgs false
section
open Go.RowKit Go.Maps
theorem del_pend (w0 : World) (g : Nat) (lb : Array Value) (eg : ∀ args w, (callFunc g args).run Tryz.prog w = .ok (.enter g args) w) (p : (PendM × Value) -> Bool) (l : List (PendM × Value)) (o : ∀ x ∈ l, ∃ a n c, x.2 = .slice a n c)
  (hp : ∀ x ∈ l, ∀ W, Tch No w0 W -> Calls Tryz.prog g (#[.agg #[.int .i64 (x.1.tid), x.2]] ++ lb) W fun e w' => e = .returned (.bool (p x)) /\ Tch No W w')
  (v : Value) (w : World) (t0 : Tch No w0 w) (h : OwnN w0 63 2 l.length (l.flatMap (encPr (fun q : PendM => q.tid))) v w) (hn : l.length <= 100000000) :
  Calls Tryz.prog 202 #[v, .func (.func g) #[] lb] w fun e w' => ∃ v', e = .returned v' /\ OwnN w0 63 2 (keptM p l).length ((keptM p l).flatMap (encPr (fun q : PendM => q.tid))) v' w' /\ Tch No w0 w' := by
 have he : ∀ x, ((encPr (fun q : PendM => q.tid)) x).length = 2 := fun _ => rfl
 have hc := CellsAt.ofRow h.1
 have hcs : ∀ i (hi : i < l.length), (l.flatMap (encPr (fun q : PendM => q.tid)))[i * 2 + 0]? = some (.int .i64 (l[i].1.tid)) /\ (l.flatMap (encPr (fun q : PendM => q.tid)))[i * 2 + 1]? = some (l[i].2) := fun i hi =>
  ⟨flat_get (encPr (fun q : PendM => q.tid)) 2 he l i 0 hi (by decide), flat_get (encPr (fun q : PendM => q.tid)) 2 he l i 1 hi (by decide)⟩
 have hI := idx_pend g lb eg (fun i => if h : i < l.length then p l[i] else false) (fun i => if h : i < l.length then l[i].1.tid else 0) (fun i => if h : i < l.length then l[i].2 else .bool false) (fun i => by show Value.oneCell' (if h : i < l.length then _ else _) = true; split; obtain ⟨_, _, _, ho⟩ := o _ (List.getElem_mem (by assumption)); rw [ho]; rfl; rfl) _ l.length v w hc (fun i hi => by
   simp only [dif_pos hi]
   exact hcs i hi) (fun k hk W t => by
   simp only [dif_pos hk]
   exact hp _ (List.getElem_mem _) W (t0.trans0 t))
 have HI := Lib.hid hI
 have HP := Lib.hid hp
 have HS := Lib.hid hcs
 have T0 := Lib.hid t0
 have HO := Lib.hid h
 have OO := Lib.hid o
 obtain ⟨a, c, rfl, hc1, hc2⟩ := own_shape h.1
 have hml : c <= 9223372036854775807 := by unfold maxLen at hc2; omega
 clear hp hcs t0 h hI hc o
 go_enter Tryz.func202, Tryz.ntmps202
 go_wp2_with fail
 refine HI.out.mono ?_
 rintro e w1 ⟨⟨r, rfl, hr⟩, T1⟩
 have TT1 := Lib.hid T1
 rcases hr with ⟨rfl, hall⟩ | ⟨k0, hk0, rfl, hhit, hno⟩
 ·have HA := Lib.hid hall
  clear hall
  go_wp2_with fail
  go_ret
  have e1 : keptM p l = l := DInv.none_ (fun i hi => by have := HA.out i hi; simpa only [dif_pos hi] using this)
  rw [e1]
  exact ⟨_, rfl, stb_own _ _ _ TT1.out HO.out, T0.out.trans0 TT1.out⟩
 ·have hex : ∃ g0 cur0, a = some ⟨g0, 0, none⟩ /\ Hid (w0.heap.size <= g0 /\ w1.heap[g0]? = some (.cells cur0 63 (0, 0)) /\ cur0.size = c * 2 /\ ∀ t, t < l.length * 2 -> cur0[t]? = (l.flatMap (encPr (fun q : PendM => q.tid)))[t]?) := by
   have h1 := stb_own _ _ _ TT1.out HO.out
   cases a with
   | none =>
    rcases h1.1.2 with ⟨_, h0⟩ | ⟨_, _, _, h0, _⟩
    ·omega
    ·cases h0
   | some a =>
    obtain ⟨g0, cur, rfl, q1, q2, q3, q4, q5, q6⟩ := own_get h1.1
    exact ⟨g0, cur, rfl, h1.2 g0 rfl, q1, q4, q6⟩
  obtain ⟨g0, cur0, rfl, Q⟩ := hex
  have D0 : Hid (DInv (encPr (fun q : PendM => q.tid)) 2 p l c (k0 + 1) k0 cur0) := DInv.start he hk0 (by simpa only [dif_pos hk0] using hhit) (fun i hi h => by have := hno i h; simpa only [dif_pos hi] using this) Q.out.2.2.1 Q.out.2.2.2
  have hne1 : ((k0 : Int) == -1) = false := beq_eq_false_iff_ne.2 (by omega)
  clear hhit hno
  go_wp2_with fail
  go_loopg [5, 6, 7] l.length (fun kx s5 s6 _ wr => ∃ (i j : Nat) (cur : Array Value), s5 = .int .i64 i /\ s6 = .int .i64 j /\ i + 1 <= j /\ j <= l.length /\ l.length - j <= kx /\ Hid (DInv (encPr (fun q : PendM => q.tid)) 2 p l c j i cur) /\ Hid (wr.heap[g0]? = some (.cells cur 63 (0, 0))) /\ Hid (Tch No w0 wr))
  case atStart => exact ⟨k0, k0 + 1, cur0, rfl, by go_num, Nat.le_refl _, by omega, by omega, D0.out, Q.out.2.1, T0.out.trans0 TT1.out⟩
  case round =>
   obtain ⟨i, j, cur, rfl, rfl, hij, hjl, hgk, D, HG, TW⟩ := hrel
   have hsz : cur.size = c * 2 := D.out.sz
   by_cases hlt : j < l.length
   ·have hltz : (j : Int) < (l.length : Int) := by omega
    have hjm : j * 2 + 2 <= l.length * 2 := by omega
    have hcm : l.length * 2 <= c * 2 := Nat.mul_le_mul_right _ hc1
    have e0 : wr.cell? ⟨g0, j * 2, none⟩ = some (.int .i64 (l[j].1.tid)) := by rw [blk_cell HG.out, D.out.high (j * 2) (by omega) (by omega)]; exact flat_get (encPr (fun q : PendM => q.tid)) 2 he l j 0 hlt (by decide)
    have e1 : wr.cell? ⟨g0, j * 2 + 1, none⟩ = some (l[j].2) := by rw [blk_cell HG.out, D.out.high (j * 2 + 1) (by omega) (by omega)]; exact flat_get (encPr (fun q : PendM => q.tid)) 2 he l j 1 hlt (by decide)
    have HF := HP.out _ (List.getElem_mem hlt)
    obtain ⟨x, hx⟩ : ∃ x, l[j] = x := ⟨_, rfl⟩
    have HX := Lib.hid hx
    rw [hx] at e0 e1 HF
    obtain ⟨qa, qn, qc, hov⟩ := OO.out _ (List.getElem_mem hlt)
    rw [hx] at hov
    clear hx
    obtain ⟨x0, hx0⟩ : ∃ z : Int, x.1.tid = z := ⟨_, rfl⟩
    have hx1 : x.2 = .slice qa qn qc := hov
    rw [hx0, hx1] at HF
    rw [hx0] at e0
    rw [hx1] at e1
    have HVS : Hid ((encPr (fun q : PendM => q.tid)) x = [.int .i64 x0, .slice qa qn qc]) := by rw [Hid, <- hx0, <- hx1]; rfl
    clear hx0 hx1 hov
    have HG2 := Lib.hid HF
    clear HF
    by_cases hit : p x = true
    ·rw [hit] at HG2
     have D2 : Hid (DInv (encPr (fun q : PendM => q.tid)) 2 p l c (j + 1) i cur) := D.out.skip hlt (by rw [HX.out]; exact hit)
     clear hit
     go_wp2_with fail
     refine (HG2.out _ (TW.out.trans0 (Tch.alloc _ _))).mono ?_
     rintro e w3 ⟨rfl, T3⟩
     go_wp2_with fail
     go_roundg (l.length - (j + 1))
     case measure => omega
     case rel => exact ⟨i, j + 1, cur, rfl, by go_num, by omega, by omega, Nat.le_refl _, D2.out, blk_tch ((Tch.alloc _ _).trans0 T3) HG.out (fun h => h), TW.out.trans0 ((Tch.alloc _ _).trans0 T3)⟩
    ·have hd : p x = false := by simpa using hit
     rw [hd] at HG2
     have PX : Hid (p l[j] = false) := by rw [Hid, HX.out]; exact hd
     clear hit hd
     have him : i * 2 + 2 <= j * 2 := by omega
     go_wp2_with fail
     refine (HG2.out _ (TW.out.trans0 (Tch.alloc _ _))).mono ?_
     rintro e w3 ⟨rfl, T3⟩
     have TT3 : Hid (Tch No wr w3) := (Tch.alloc _ _).trans0 T3
     have H3 := Lib.hid (blk_tch TT3.out HG.out (fun h => h))
     have bx0 := T3.cell (box_cell wr _ _ 0 (by simp)) (fun h => h)
     have bx1 := T3.cell (box_cell wr _ _ 1 (by simp)) (fun h => h)
     simp only [List.getElem_toArray, List.getElem_cons_zero, List.getElem_cons_succ] at bx0 bx1
     obtain ⟨o0, ho0⟩ : ∃ o, w3.cell? ⟨g0, i * 2, none⟩ = some o := ⟨cur[i * 2]'(by omega), by rw [blk_cell H3.out]; exact Array.getElem?_eq_getElem _⟩
     have hf0 : w3.frozen? ⟨g0, i * 2, none⟩ = false := blk_free H3.out _
     obtain ⟨o1, ho1⟩ : ∃ o, w3.cell? ⟨g0, i * 2 + 1, none⟩ = some o := ⟨cur[i * 2 + 1]'(by omega), by rw [blk_cell H3.out]; exact Array.getElem?_eq_getElem _⟩
     have hf1 : w3.frozen? ⟨g0, i * 2 + 1, none⟩ = false := blk_free H3.out _
     clear T3
     go_wp2_with fail
     go_roundg (l.length - (j + 1))
     case measure => omega
     case rel =>
      obtain ⟨cur', q1, q2, q3⟩ := blk_sets [.int .i64 x0, .slice qa qn qc] (i * 2) w3 cur H3.out (by simp only [List.length_cons, List.length_nil]; omega)
      refine ⟨i + 1, j + 1, cur', by go_num, by go_num, by omega, by omega, Nat.le_refl _, D.out.keep he hlt PX.out q2 (fun t => ?_), q1, ((TW.out.trans0 TT3.out).fresh (F := fun k => k = g0) (Tch.setCells (F := fun k => k = g0) (b := g0) rfl [.int .i64 x0, .slice qa qn qc] (i * 2) w3) (fun k h => by rw [h]; exact Q.out.1))⟩
      rw [q3 t, HX.out, HVS.out]
      rfl
   ·obtain rfl : j = l.length := by omega
    have hii : i < l.length := by omega
    have hic : i < c := by omega
    have hltz : ¬ ((l.length : Int) < (l.length : Int)) := by omega
    obtain ⟨zs, hzs⟩ : ∃ zs, (Builtin.zeroCells (Value.agg #[.int .i64 0, .slice none 0 0]).cells (l.length - i)).toList = zs := ⟨_, rfl⟩
    have hzl : zs.length = (l.length - i) * 2 := by rw [<- hzs, zc_len]; rfl
    have hz1 : Ones zs := by
     rw [<- hzs]
     exact zc_one _ _ (fun q hq => by
      have hq' : q < 2 := hq
      have : q = 0 ∨ q = 1 := by omega
      rcases this with rfl | rfl <;> rfl) (by decide)
    have hfit : i * 2 + zs.length <= cur.size := by
     have : i * 2 + (l.length - i) * 2 <= c * 2 := by rw [<- Nat.add_mul]; exact Nat.mul_le_mul_right _ (by omega)
     omega
    have hcl : ∀ ty, (Builtin.clear_ #[25] ty #[.slice (some ⟨g0, i * 2, none⟩) (l.length - i) (c - i)]).run Tryz.prog wr = .ok (.tuple #[]) (wr.setCells g0 (i * 2) zs) := fun ty =>
     run_clear_many wr _ 63 ty (Value.agg #[.int .i64 0, .slice none 0 0]) eltPend.und (fun w => by kernel_rfl) g0 (i * 2) _ _ (by omega) zs hzs hz1 (fun q hq => by rw [blk_cell HG.out, Array.getElem?_eq_getElem (by omega)]; rfl) (fun q _ => blk_free HG.out _)
    have ZZ : Hid (i * 2 + zs.length <= cur.size) := hfit
    clear hzs hzl hz1 hfit hsz
    go_wp2
    go_ret
    obtain ⟨cur', q1, q2, q3⟩ := blk_sets zs (i * 2) wr cur HG.out ZZ.out
    exact ⟨_, rfl, ⟨D.out.done he hc1 hc2 q1 q2 (fun t ht => by rw [q3 t, if_neg (by omega)]), fun b hb => by
     have hb' : g0 = b := by simpa [Value.ownBlock] using hb
     have hq := Q.out.1
     omega⟩, TW.out.fresh (F := fun k => k = g0) (Tch.setCells (F := fun k => k = g0) (b := g0) rfl zs (i * 2) wr) (fun k h => by rw [h]; exact Q.out.1)⟩
theorem del_br (w0 : World) (g : Nat) (lb : Array Value) (eg : ∀ args w, (callFunc g args).run Tryz.prog w = .ok (.enter g args) w) (p : (BrM × Value) -> Bool) (l : List (BrM × Value)) (o : ∀ x ∈ l, ∃ a n c, x.2 = .slice a n c)
  (hp : ∀ x ∈ l, ∀ W, Tch No w0 W -> Calls Tryz.prog g (#[.agg #[.int .i64 (x.1.tid), x.2]] ++ lb) W fun e w' => e = .returned (.bool (p x)) /\ Tch No W w')
  (v : Value) (w : World) (t0 : Tch No w0 w) (h : OwnN w0 81 2 l.length (l.flatMap (encPr (fun q : BrM => q.tid))) v w) (hn : l.length <= 100000000) :
  Calls Tryz.prog 195 #[v, .func (.func g) #[] lb] w fun e w' => ∃ v', e = .returned v' /\ OwnN w0 81 2 (keptM p l).length ((keptM p l).flatMap (encPr (fun q : BrM => q.tid))) v' w' /\ Tch No w0 w' := by
 have he : ∀ x, ((encPr (fun q : BrM => q.tid)) x).length = 2 := fun _ => rfl
 have hc := CellsAt.ofRow h.1
 have hcs : ∀ i (hi : i < l.length), (l.flatMap (encPr (fun q : BrM => q.tid)))[i * 2 + 0]? = some (.int .i64 (l[i].1.tid)) /\ (l.flatMap (encPr (fun q : BrM => q.tid)))[i * 2 + 1]? = some (l[i].2) := fun i hi =>
  ⟨flat_get (encPr (fun q : BrM => q.tid)) 2 he l i 0 hi (by decide), flat_get (encPr (fun q : BrM => q.tid)) 2 he l i 1 hi (by decide)⟩
 have hI := idx_br g lb eg (fun i => if h : i < l.length then p l[i] else false) (fun i => if h : i < l.length then l[i].1.tid else 0) (fun i => if h : i < l.length then l[i].2 else .bool false) (fun i => by show Value.oneCell' (if h : i < l.length then _ else _) = true; split; obtain ⟨_, _, _, ho⟩ := o _ (List.getElem_mem (by assumption)); rw [ho]; rfl; rfl) _ l.length v w hc (fun i hi => by
   simp only [dif_pos hi]
   exact hcs i hi) (fun k hk W t => by
   simp only [dif_pos hk]
   exact hp _ (List.getElem_mem _) W (t0.trans0 t))
 have HI := Lib.hid hI
 have HP := Lib.hid hp
 have HS := Lib.hid hcs
 have T0 := Lib.hid t0
 have HO := Lib.hid h
 have OO := Lib.hid o
 obtain ⟨a, c, rfl, hc1, hc2⟩ := own_shape h.1
 have hml : c <= 9223372036854775807 := by unfold maxLen at hc2; omega
 clear hp hcs t0 h hI hc o
 go_enter Tryz.func195, Tryz.ntmps195
 go_wp2_with fail
 refine HI.out.mono ?_
 rintro e w1 ⟨⟨r, rfl, hr⟩, T1⟩
 have TT1 := Lib.hid T1
 rcases hr with ⟨rfl, hall⟩ | ⟨k0, hk0, rfl, hhit, hno⟩
 ·have HA := Lib.hid hall
  clear hall
  go_wp2_with fail
  go_ret
  have e1 : keptM p l = l := DInv.none_ (fun i hi => by have := HA.out i hi; simpa only [dif_pos hi] using this)
  rw [e1]
  exact ⟨_, rfl, stb_own _ _ _ TT1.out HO.out, T0.out.trans0 TT1.out⟩
 ·have hex : ∃ g0 cur0, a = some ⟨g0, 0, none⟩ /\ Hid (w0.heap.size <= g0 /\ w1.heap[g0]? = some (.cells cur0 81 (0, 0)) /\ cur0.size = c * 2 /\ ∀ t, t < l.length * 2 -> cur0[t]? = (l.flatMap (encPr (fun q : BrM => q.tid)))[t]?) := by
   have h1 := stb_own _ _ _ TT1.out HO.out
   cases a with
   | none =>
    rcases h1.1.2 with ⟨_, h0⟩ | ⟨_, _, _, h0, _⟩
    ·omega
    ·cases h0
   | some a =>
    obtain ⟨g0, cur, rfl, q1, q2, q3, q4, q5, q6⟩ := own_get h1.1
    exact ⟨g0, cur, rfl, h1.2 g0 rfl, q1, q4, q6⟩
  obtain ⟨g0, cur0, rfl, Q⟩ := hex
  have D0 : Hid (DInv (encPr (fun q : BrM => q.tid)) 2 p l c (k0 + 1) k0 cur0) := DInv.start he hk0 (by simpa only [dif_pos hk0] using hhit) (fun i hi h => by have := hno i h; simpa only [dif_pos hi] using this) Q.out.2.2.1 Q.out.2.2.2
  have hne1 : ((k0 : Int) == -1) = false := beq_eq_false_iff_ne.2 (by omega)
  clear hhit hno
  go_wp2_with fail
  go_loopg [5, 6, 7] l.length (fun kx s5 s6 _ wr => ∃ (i j : Nat) (cur : Array Value), s5 = .int .i64 i /\ s6 = .int .i64 j /\ i + 1 <= j /\ j <= l.length /\ l.length - j <= kx /\ Hid (DInv (encPr (fun q : BrM => q.tid)) 2 p l c j i cur) /\ Hid (wr.heap[g0]? = some (.cells cur 81 (0, 0))) /\ Hid (Tch No w0 wr))
  case atStart => exact ⟨k0, k0 + 1, cur0, rfl, by go_num, Nat.le_refl _, by omega, by omega, D0.out, Q.out.2.1, T0.out.trans0 TT1.out⟩
  case round =>
   obtain ⟨i, j, cur, rfl, rfl, hij, hjl, hgk, D, HG, TW⟩ := hrel
   have hsz : cur.size = c * 2 := D.out.sz
   by_cases hlt : j < l.length
   ·have hltz : (j : Int) < (l.length : Int) := by omega
    have hjm : j * 2 + 2 <= l.length * 2 := by omega
    have hcm : l.length * 2 <= c * 2 := Nat.mul_le_mul_right _ hc1
    have e0 : wr.cell? ⟨g0, j * 2, none⟩ = some (.int .i64 (l[j].1.tid)) := by rw [blk_cell HG.out, D.out.high (j * 2) (by omega) (by omega)]; exact flat_get (encPr (fun q : BrM => q.tid)) 2 he l j 0 hlt (by decide)
    have e1 : wr.cell? ⟨g0, j * 2 + 1, none⟩ = some (l[j].2) := by rw [blk_cell HG.out, D.out.high (j * 2 + 1) (by omega) (by omega)]; exact flat_get (encPr (fun q : BrM => q.tid)) 2 he l j 1 hlt (by decide)
    have HF := HP.out _ (List.getElem_mem hlt)
    obtain ⟨x, hx⟩ : ∃ x, l[j] = x := ⟨_, rfl⟩
    have HX := Lib.hid hx
    rw [hx] at e0 e1 HF
    obtain ⟨qa, qn, qc, hov⟩ := OO.out _ (List.getElem_mem hlt)
    rw [hx] at hov
    clear hx
    obtain ⟨x0, hx0⟩ : ∃ z : Int, x.1.tid = z := ⟨_, rfl⟩
    have hx1 : x.2 = .slice qa qn qc := hov
    rw [hx0, hx1] at HF
    rw [hx0] at e0
    rw [hx1] at e1
    have HVS : Hid ((encPr (fun q : BrM => q.tid)) x = [.int .i64 x0, .slice qa qn qc]) := by rw [Hid, <- hx0, <- hx1]; rfl
    clear hx0 hx1 hov
    have HG2 := Lib.hid HF
    clear HF
    by_cases hit : p x = true
    ·rw [hit] at HG2
     have D2 : Hid (DInv (encPr (fun q : BrM => q.tid)) 2 p l c (j + 1) i cur) := D.out.skip hlt (by rw [HX.out]; exact hit)
     clear hit
     go_wp2_with fail
     refine (HG2.out _ (TW.out.trans0 (Tch.alloc _ _))).mono ?_
     rintro e w3 ⟨rfl, T3⟩
     go_wp2_with fail
     go_roundg (l.length - (j + 1))
     case measure => omega
     case rel => exact ⟨i, j + 1, cur, rfl, by go_num, by omega, by omega, Nat.le_refl _, D2.out, blk_tch ((Tch.alloc _ _).trans0 T3) HG.out (fun h => h), TW.out.trans0 ((Tch.alloc _ _).trans0 T3)⟩
    ·have hd : p x = false := by simpa using hit
     rw [hd] at HG2
     have PX : Hid (p l[j] = false) := by rw [Hid, HX.out]; exact hd
     clear hit hd
     have him : i * 2 + 2 <= j * 2 := by omega
     go_wp2_with fail
     refine (HG2.out _ (TW.out.trans0 (Tch.alloc _ _))).mono ?_
     rintro e w3 ⟨rfl, T3⟩
     have TT3 : Hid (Tch No wr w3) := (Tch.alloc _ _).trans0 T3
     have H3 := Lib.hid (blk_tch TT3.out HG.out (fun h => h))
     have bx0 := T3.cell (box_cell wr _ _ 0 (by simp)) (fun h => h)
     have bx1 := T3.cell (box_cell wr _ _ 1 (by simp)) (fun h => h)
     simp only [List.getElem_toArray, List.getElem_cons_zero, List.getElem_cons_succ] at bx0 bx1
     obtain ⟨o0, ho0⟩ : ∃ o, w3.cell? ⟨g0, i * 2, none⟩ = some o := ⟨cur[i * 2]'(by omega), by rw [blk_cell H3.out]; exact Array.getElem?_eq_getElem _⟩
     have hf0 : w3.frozen? ⟨g0, i * 2, none⟩ = false := blk_free H3.out _
     obtain ⟨o1, ho1⟩ : ∃ o, w3.cell? ⟨g0, i * 2 + 1, none⟩ = some o := ⟨cur[i * 2 + 1]'(by omega), by rw [blk_cell H3.out]; exact Array.getElem?_eq_getElem _⟩
     have hf1 : w3.frozen? ⟨g0, i * 2 + 1, none⟩ = false := blk_free H3.out _
     clear T3
     go_wp2_with fail
     go_roundg (l.length - (j + 1))
     case measure => omega
     case rel =>
      obtain ⟨cur', q1, q2, q3⟩ := blk_sets [.int .i64 x0, .slice qa qn qc] (i * 2) w3 cur H3.out (by simp only [List.length_cons, List.length_nil]; omega)
      refine ⟨i + 1, j + 1, cur', by go_num, by go_num, by omega, by omega, Nat.le_refl _, D.out.keep he hlt PX.out q2 (fun t => ?_), q1, ((TW.out.trans0 TT3.out).fresh (F := fun k => k = g0) (Tch.setCells (F := fun k => k = g0) (b := g0) rfl [.int .i64 x0, .slice qa qn qc] (i * 2) w3) (fun k h => by rw [h]; exact Q.out.1))⟩
      rw [q3 t, HX.out, HVS.out]
      rfl
   ·obtain rfl : j = l.length := by omega
    have hii : i < l.length := by omega
    have hic : i < c := by omega
    have hltz : ¬ ((l.length : Int) < (l.length : Int)) := by omega
    obtain ⟨zs, hzs⟩ : ∃ zs, (Builtin.zeroCells (Value.agg #[.int .i64 0, .slice none 0 0]).cells (l.length - i)).toList = zs := ⟨_, rfl⟩
    have hzl : zs.length = (l.length - i) * 2 := by rw [<- hzs, zc_len]; rfl
    have hz1 : Ones zs := by
     rw [<- hzs]
     exact zc_one _ _ (fun q hq => by
      have hq' : q < 2 := hq
      have : q = 0 ∨ q = 1 := by omega
      rcases this with rfl | rfl <;> rfl) (by decide)
    have hfit : i * 2 + zs.length <= cur.size := by
     have : i * 2 + (l.length - i) * 2 <= c * 2 := by rw [<- Nat.add_mul]; exact Nat.mul_le_mul_right _ (by omega)
     omega
    have hcl : ∀ ty, (Builtin.clear_ #[23] ty #[.slice (some ⟨g0, i * 2, none⟩) (l.length - i) (c - i)]).run Tryz.prog wr = .ok (.tuple #[]) (wr.setCells g0 (i * 2) zs) := fun ty =>
     run_clear_many wr _ 81 ty (Value.agg #[.int .i64 0, .slice none 0 0]) eltBr.und (fun w => by kernel_rfl) g0 (i * 2) _ _ (by omega) zs hzs hz1 (fun q hq => by rw [blk_cell HG.out, Array.getElem?_eq_getElem (by omega)]; rfl) (fun q _ => blk_free HG.out _)
    have ZZ : Hid (i * 2 + zs.length <= cur.size) := hfit
    clear hzs hzl hz1 hfit hsz
    go_wp2
    go_ret
    obtain ⟨cur', q1, q2, q3⟩ := blk_sets zs (i * 2) wr cur HG.out ZZ.out
    exact ⟨_, rfl, ⟨D.out.done he hc1 hc2 q1 q2 (fun t ht => by rw [q3 t, if_neg (by omega)]), fun b hb => by
     have hb' : g0 = b := by simpa [Value.ownBlock] using hb
     have hq := Q.out.1
     omega⟩, TW.out.fresh (F := fun k => k = g0) (Tch.setCells (F := fun k => k = g0) (b := g0) rfl zs (i * 2) wr) (fun k h => by rw [h]; exact Q.out.1)⟩
end
section
open Go.RowKit Go.Maps
theorem map_kept {α β : Type} (p : α -> Bool) : ∀ l : List (α × β), (keptM (fun x => p x.1) l).map Prod.fst = keptM p (l.map Prod.fst)
 | [] => rfl
 | a :: r => by
  unfold keptM
  have ih := map_kept p r
  unfold keptM at ih
  cases h : p a.1 <;> simp [List.filter_cons, h, ih]
theorem beq_dec (a b : Int) : (a == b) = decide (a = b) := by by_cases h : a = b <;> simp [h]
theorem swithout_own (prs : List (PendM × Value)) (hn : prs.length <= 10000000) (t : Int) (v : Value) (w : World) (hc : IsL (encPr (fun q : PendM => q.tid)) 2 w v prs) (hsl : ∀ x ∈ prs, ∃ a n c, x.2 = .slice a n c) :
  Calls Tryz.prog 163 #[v, .int .i64 t] w fun e w' => ∃ v', e = .returned v' /\ OwnN w 63 2 (keptM (fun x : PendM × Value => decide (x.1.tid = t)) prs).length ((keptM (fun x : PendM × Value => decide (x.1.tid = t)) prs).flatMap (encPr (fun q : PendM => q.tid))) v' w' /\ Tch No w w' := by
 have hone : Ones (prs.flatMap (encPr (fun q : PendM => q.tid))) := ones_pr (fun p hp => by obtain ⟨_, _, _, e⟩ := hsl p hp; rw [e]; rfl)
 obtain ⟨n, hln⟩ : ∃ n, prs.length = n := ⟨_, rfl⟩
 have hc0 : CellsAt w v n 2 (prs.flatMap (encPr (fun q : PendM => q.tid))) := by rw [<- hln]; exact hc
 obtain ⟨a, c, rfl, _, _⟩ := CellsAt.shape hc0
 have HCl := Lib.hid (fun W (t : Tch No w W) => clone_pend (.slice a n c) n _ W (hc0.keep t) hone (by omega))
 have HDel : Hid (∀ w0 : World, Tch No w w0 -> w0.cell? ⟨w.heap.size, 0, none⟩ = some (.int .i64 t) -> ∀ v W, Tch No w0 W -> OwnN w0 63 2 n (prs.flatMap (encPr (fun q : PendM => q.tid))) v W ->
   Calls Tryz.prog 202 #[v, .func (.func 203) #[] #[.pointer (some ⟨w.heap.size, 0, none⟩)]] W fun e w' => ∃ v', e = .returned v' /\ OwnN w0 63 2 (keptM (fun x : PendM × Value => decide (x.1.tid = t)) prs).length ((keptM (fun x : PendM × Value => decide (x.1.tid = t)) prs).flatMap (encPr (fun q : PendM => q.tid))) v' w' /\ Tch No w0 w') := fun w0 t0 hcell v W tW hW =>
  del_pend w0 _ _ (enters_of Tryz.func203 rfl rfl) (fun x => decide (x.1.tid = t)) prs hsl (fun x hx W' t' => by
   obtain ⟨_, _, _, e⟩ := hsl x hx
   have := without1_any x.1.tid t x.2 (by rw [e]; rfl) w.heap.size W' (t'.cell hcell (fun h => h))
   rw [beq_dec] at this
   exact this) v W tW (by rw [hln]; exact hW) (by omega)
 clear hc hone hsl hln hc0
 go_enter Tryz.func163, Tryz.ntmps163
 go_wp2_with fail
 refine (HCl.out _ (Tch.alloc _ _)).mono ?_
 rintro e w1 ⟨a1, c1, rfl, O1, T1, _⟩
 have OO1 := Lib.hid O1
 have TT1 := Lib.hid T1
 clear O1 T1
 go_wp2_with fail
 refine (HDel.out _ (Tch.alloc _ _) (box_cell w #[.int .i64 t] _ 0 (by simp)) _ w1 TT1.out OO1.out).mono ?_
 rintro e w2 ⟨v', rfl, O2, T2⟩
 have OO2 := Lib.hid O2
 have TT2 : Hid (Tch No w w2) := (Tch.alloc _ _).trans0 T2
 clear O2 T2
 go_wp2
 go_ret
 exact ⟨v', rfl, ⟨OO2.out.1, fun b hb => Nat.le_trans (Tch.alloc _ _).size (OO2.out.2 b hb)⟩, TT2.out⟩
theorem insP_prs {α : Type} (f : α -> Int) (prs : List (α × Value)) (x : α) (y : Value) : (prs.take (posP f (prs.map Prod.fst) (f x)) ++ (x, y) :: prs.drop (posP f (prs.map Prod.fst) (f x))).map Prod.fst = insP f (prs.map Prod.fst) x := by
 rw [insP_eq, List.map_append, List.map_cons, List.map_take, List.map_drop]
theorem mem_ins2 {α : Type} {l : List α} {k : Nat} {x p : α} (h : p ∈ l.take k ++ x :: l.drop k) : p = x ∨ p ∈ l := by
 rcases List.mem_append.1 h with h | h
 ·exact .inr (List.mem_of_mem_take h)
 ·rcases List.mem_cons.1 h with h | h
  ·exact .inl h
  ·exact .inr (List.mem_of_mem_drop h)
theorem len_ins2 {α : Type} {l : List α} {k : Nat} {x : α} : (l.take k ++ x :: l.drop k).length = l.length + 1 := by
 rw [List.length_append, List.length_take, List.length_cons, List.length_drop]; omega
theorem pos_map_le {α : Type} (f : α -> Int) (prs : List (α × Value)) (t : Int) : posP f (prs.map Prod.fst) t <= prs.length := by
 have := posP_le f (prs.map Prod.fst) t
 rwa [List.length_map] at this
theorem swith_own (prs : List (PendM × Value)) (hs : strictB ((prs.map Prod.fst).map (·.tid)) = true) (hn : prs.length <= 10000000) (t : Int) (ps : List Int) (hps : ps.length <= 10000000) (v vp : Value) (w : World) (hc : IsL (encPr (fun q : PendM => q.tid)) 2 w v prs) (hi : ∀ p ∈ prs, IsInts w p.2 p.1.parts) (hp : IsInts w vp ps) :
  Calls Tryz.prog 159 #[v, .int .i64 t, vp] w fun e w' => ∃ v' vq, e = .returned v' /\ OwnN w 63 2 (prs.length + 1) ((prs.take (posP (·.tid) (prs.map Prod.fst) t) ++ ((⟨t, ps⟩ : PendM), vq) :: prs.drop (posP (·.tid) (prs.map Prod.fst) t)).flatMap (encPr (fun q : PendM => q.tid))) v' w' /\ OwnN w 3 1 ps.length (ps.map (fun x => .int .i64 x)) vq w' /\ Tch No w w' := by
 have hpend : IsPends w v (prs.map Prod.fst) := pends_pairs.2 ⟨prs, rfl, hc, hi⟩
 have HPe := Lib.hid (pends_any (prs.map Prod.fst) hs (by rw [List.length_map]; omega) t v w hpend)
 have hone : Ones (prs.flatMap (encPr (fun q : PendM => q.tid))) := ones_pr (fun p hp => by obtain ⟨_, _, e, _⟩ := CellsAt.shape (hi p hp); rw [e]; rfl)
 obtain ⟨a, c, rfl, _, _⟩ := CellsAt.shape hc
 obtain ⟨pa, pc, rfl, _, _⟩ := CellsAt.shape hp
 have HCl := Lib.hid (fun W (t : Tch No w W) => clone_pend (.slice a prs.length c) prs.length _ W (hc.keep t) hone (by omega))
 have HCi := Lib.hid (fun W (t : Tch No w W) => clone_int (.slice pa ps.length pc) ps W (hp.keep t) (by omega))
 obtain ⟨k, hk⟩ : ∃ k, posP (·.tid) (prs.map Prod.fst) t = k := ⟨_, rfl⟩
 have hkl : k <= prs.length := by rw [<- hk]; exact pos_map_le _ _ _
 rw [hk] at HPe
 rw [hk]
 have HON := Lib.hid hone
 have HN : Hid (prs.length <= 10000000) := hn
 have HKL := Lib.hid hkl
 clear hc hone hi hk hs hp hps hkl hpend
 go_enter Tryz.func159, Tryz.ntmps159
 go_wp2_with fail
 refine HPe.out.mono ?_
 rintro e w1 ⟨rfl, T1⟩
 have TT1 := Lib.hid T1
 clear T1
 go_wp2_with fail
 refine (HCl.out _ TT1.out).mono ?_
 rintro e w2 ⟨a1, c1, rfl, O2, T2, _⟩
 have OO2 := Lib.hid O2
 have TT2 := Lib.hid T2
 clear O2 T2
 go_wp2_with fail
 refine (HCi.out _ (TT1.out.trans0 TT2.out)).mono ?_
 rintro e w3 ⟨a2, c2, rfl, O3, T3, _⟩
 have OO3 := Lib.hid O3
 have TT3 := Lib.hid T3
 clear O3 T3
 go_wp2_with fail
 refine (ins_pend w1 prs.length k _ w3.heap.size #[.int .i64 t, .slice a2 ps.length c2] (w3.alloc (.cells #[.int .i64 t, .slice a2 ps.length c2] 63)) (.slice a1 prs.length c1) HKL.out ((TT2.out.trans0 TT3.out).trans0 (Tch.alloc _ _)) (stb_own _ _ _ (TT3.out.trans0 (Tch.alloc _ _)) OO2.out) HN.out HON.out (blk_new _ _) rfl (fun u hu => by
  simp only [List.mem_cons, List.not_mem_nil, or_false] at hu
  rcases hu with rfl | rfl <;> rfl) (fun _ e => Nat.lt_irrefl _ ((own_tch OO2.out.1 TT3.out (fun _ _ h => h)).lt _ e).2)).mono ?_
 rintro e w4 ⟨v', rfl, O4, T4, U4⟩
 have OO4 := Lib.hid O4
 have TT4 : Hid (Tch No w w4) := TT1.out.trans0 T4
 have TI : Hid (OwnN w 3 1 ps.length (ps.map (fun x => .int .i64 x)) (.slice a2 ps.length c2) w4) := by
  have h3 := own_tch (own_tch OO3.out.1 (Tch.alloc w3 (.cells #[.int .i64 t, .slice a2 ps.length c2] 63)) (fun _ _ h => h)) U4 (fun k hk e => by
   have h1 := OO3.out.2 k hk
   have h2 := (OO2.out.1.lt k e).2
   omega)
  exact ⟨h3, fun b hb => by have z1 := OO3.out.2 b hb; have z2 := TT1.out.size; have z3 := TT2.out.size; omega⟩
 clear O4 T4 U4
 go_wp2
 go_ret
 refine ⟨v', .slice a2 ps.length c2, rfl, ⟨?_, fun b hb => Nat.le_trans TT1.out.size (OO4.out.2 b hb)⟩, TI.out, TT4.out⟩
 have hcc := OO4.out.1
 rw [List.flatMap_append, List.flatMap_cons]
 rw [flat_take (m := 2) (fun _ => rfl), flat_drop (m := 2) (fun _ => rfl), List.append_assoc] at hcc
 exact hcc
end
end Go.Proofs.YtfedhcnmdmhppaaGreat
