/- Part 15 of what the proof of OrderRoom rests on. No condition. -/
import Derived.Test.YtfedhcnmdmhppaaGreatPOrderRoom14
namespace Go.Proofs.YtfedhcnmdmhppaaGreat
set_option maxRecDepth 100000
set_option maxHeartbeats 60000000
set_option linter.unusedVariables false
set_option linter.unusedSimpArgs false
section
open Go.RowKit Go.Maps
theorem del_pend (w0 : World) (g : Nat) (lb : Array Value) (eg : ∀ args w, (callFunc g args).run Tryz.prog w = .ok (.enter g args) w) (p : (PendM × Value) -> Bool) (l : List (PendM × Value)) (o : ∀ x ∈ l, ∃ a n c, x.2 = .slice a n c)
  (hp : ∀ x ∈ l, ∀ W, Tch No w0 W -> Calls Tryz.prog g (#[.agg #[.int .i64 (x.1.tid), x.2]] ++ lb) W fun e w' => e = .returned (.bool (p x)) /\ Tch No W w')
  (v : Value) (w : World) (t0 : Tch No w0 w) (h : OwnN w0 63 2 l.length (l.flatMap (encPr (fun q : PendM => q.tid))) v w) (hn : l.length <= 100000000) :
  Calls Tryz.prog 202 #[v, .func (.func g) #[] lb] w fun e w' => ∃ v', e = .returned v' /\ OwnN w0 63 2 (keptM p l).length ((keptM p l).flatMap (encPr (fun q : PendM => q.tid))) v' w' /\ Tch No w0 w' := by
 have he : ∀ x, ((encPr (fun q : PendM => q.tid)) x).length = 2 := fun _ => rfl
 have hc := CellsAt.ofRow h.1
 have hcs : ∀ i (hi : i < l.length), (l.flatMap (encPr (fun q : PendM => q.tid)))[i * 2 + 0]? = some (.int .i64 (l[i].1.tid)) /\ (l.flatMap (encPr (fun q : PendM => q.tid)))[i * 2 + 1]? = some (l[i].2) := fun i hi =>
  ⟨flat_get (encPr (fun q : PendM => q.tid)) 2 he l i 0 hi (by decide), flat_get (encPr (fun q : PendM => q.tid)) 2 he l i 1 hi (by decide)⟩
 have hI := idx_pend g lb eg (fun i => if h : i < l.length then p l[i] else false) (fun i => if h : i < l.length then l[i].1.tid else 0) (fun i => if h : i < l.length then l[i].2 else .bool false) (fun i => by show Value.oneCell' (if h : i < l.length then _ else _) = true; split; obtain ⟨_, _, _, ho⟩ := o _ (List.getElem_mem (by assumption)); rw [ho]; rfl; rfl) _ l.length v w hc (fun i hi => by
   simp only [dif_pos hi]
   exact hcs i hi) (fun k hk W t => by
   simp only [dif_pos hk]
   exact hp _ (List.getElem_mem _) W (t0.trans0 t))
 have HI := Lib.hid hI
 have HP := Lib.hid hp
 have HS := Lib.hid hcs
 have T0 := Lib.hid t0
 have HO := Lib.hid h
 have OO := Lib.hid o
 obtain ⟨a, c, rfl, hc1, hc2⟩ := own_shape h.1
 have hml : c <= 9223372036854775807 := by unfold maxLen at hc2; omega
 clear hp hcs t0 h hI hc o
 go_enter Tryz.func202, Tryz.ntmps202
 go_wp2_with fail
 refine HI.out.mono ?_
 rintro e w1 ⟨⟨r, rfl, hr⟩, T1⟩
 have TT1 := Lib.hid T1
 rcases hr with ⟨rfl, hall⟩ | ⟨k0, hk0, rfl, hhit, hno⟩
 ·have HA := Lib.hid hall
  clear hall
  go_wp2_with fail
  go_ret
  have e1 : keptM p l = l := DInv.none_ (fun i hi => by have := HA.out i hi; simpa only [dif_pos hi] using this)
  rw [e1]
  exact ⟨_, rfl, stb_own _ _ _ TT1.out HO.out, T0.out.trans0 TT1.out⟩
 ·have hex : ∃ g0 cur0, a = some ⟨g0, 0, none⟩ /\ Hid (w0.heap.size <= g0 /\ w1.heap[g0]? = some (.cells cur0 63 (0, 0)) /\ cur0.size = c * 2 /\ ∀ t, t < l.length * 2 -> cur0[t]? = (l.flatMap (encPr (fun q : PendM => q.tid)))[t]?) := by
   have h1 := stb_own _ _ _ TT1.out HO.out
   cases a with
   | none =>
    rcases h1.1.2 with ⟨_, h0⟩ | ⟨_, _, _, h0, _⟩
    ·omega
    ·cases h0
   | some a =>
    obtain ⟨g0, cur, rfl, q1, q2, q3, q4, q5, q6⟩ := own_get h1.1
    exact ⟨g0, cur, rfl, h1.2 g0 rfl, q1, q4, q6⟩
  obtain ⟨g0, cur0, rfl, Q⟩ := hex
  have D0 : Hid (DInv (encPr (fun q : PendM => q.tid)) 2 p l c (k0 + 1) k0 cur0) := DInv.start he hk0 (by simpa only [dif_pos hk0] using hhit) (fun i hi h => by have := hno i h; simpa only [dif_pos hi] using this) Q.out.2.2.1 Q.out.2.2.2
  have hne1 : ((k0 : Int) == -1) = false := beq_eq_false_iff_ne.2 (by omega)
  clear hhit hno
  go_wp2_with fail
  go_loopg [5, 6, 7] l.length (fun kx s5 s6 _ wr => ∃ (i j : Nat) (cur : Array Value), s5 = .int .i64 i /\ s6 = .int .i64 j /\ i + 1 <= j /\ j <= l.length /\ l.length - j <= kx /\ Hid (DInv (encPr (fun q : PendM => q.tid)) 2 p l c j i cur) /\ Hid (wr.heap[g0]? = some (.cells cur 63 (0, 0))) /\ Hid (Tch No w0 wr))
  case atStart => exact ⟨k0, k0 + 1, cur0, rfl, by go_num, Nat.le_refl _, by omega, by omega, D0.out, Q.out.2.1, T0.out.trans0 TT1.out⟩
  case round =>
   obtain ⟨i, j, cur, rfl, rfl, hij, hjl, hgk, D, HG, TW⟩ := hrel
   have hsz : cur.size = c * 2 := D.out.sz
   by_cases hlt : j < l.length
   ·have hltz : (j : Int) < (l.length : Int) := by omega
    have hjm : j * 2 + 2 <= l.length * 2 := by omega
    have hcm : l.length * 2 <= c * 2 := Nat.mul_le_mul_right _ hc1
    have e0 : wr.cell? ⟨g0, j * 2, none⟩ = some (.int .i64 (l[j].1.tid)) := by rw [blk_cell HG.out, D.out.high (j * 2) (by omega) (by omega)]; exact flat_get (encPr (fun q : PendM => q.tid)) 2 he l j 0 hlt (by decide)
    have e1 : wr.cell? ⟨g0, j * 2 + 1, none⟩ = some (l[j].2) := by rw [blk_cell HG.out, D.out.high (j * 2 + 1) (by omega) (by omega)]; exact flat_get (encPr (fun q : PendM => q.tid)) 2 he l j 1 hlt (by decide)
    have HF := HP.out _ (List.getElem_mem hlt)
    obtain ⟨x, hx⟩ : ∃ x, l[j] = x := ⟨_, rfl⟩
    have HX := Lib.hid hx
    rw [hx] at e0 e1 HF
    obtain ⟨qa, qn, qc, hov⟩ := OO.out _ (List.getElem_mem hlt)
    rw [hx] at hov
    clear hx
    obtain ⟨x0, hx0⟩ : ∃ z : Int, x.1.tid = z := ⟨_, rfl⟩
    have hx1 : x.2 = .slice qa qn qc := hov
    rw [hx0, hx1] at HF
    rw [hx0] at e0
    rw [hx1] at e1
    have HVS : Hid ((encPr (fun q : PendM => q.tid)) x = [.int .i64 x0, .slice qa qn qc]) := by rw [Hid, <- hx0, <- hx1]; rfl
    clear hx0 hx1 hov
    have HG2 := Lib.hid HF
    clear HF
    by_cases hit : p x = true
    ·rw [hit] at HG2
     have D2 : Hid (DInv (encPr (fun q : PendM => q.tid)) 2 p l c (j + 1) i cur) := D.out.skip hlt (by rw [HX.out]; exact hit)
     clear hit
     go_wp2_with fail
     refine (HG2.out _ (TW.out.trans0 (Tch.alloc _ _))).mono ?_
     rintro e w3 ⟨rfl, T3⟩
     go_wp2_with fail
     go_roundg (l.length - (j + 1))
     case measure => omega
     case rel => exact ⟨i, j + 1, cur, rfl, by go_num, by omega, by omega, Nat.le_refl _, D2.out, blk_tch ((Tch.alloc _ _).trans0 T3) HG.out (fun h => h), TW.out.trans0 ((Tch.alloc _ _).trans0 T3)⟩
    ·have hd : p x = false := by simpa using hit
     rw [hd] at HG2
     have PX : Hid (p l[j] = false) := by rw [Hid, HX.out]; exact hd
     clear hit hd
     have him : i * 2 + 2 <= j * 2 := by omega
     go_wp2_with fail
     refine (HG2.out _ (TW.out.trans0 (Tch.alloc _ _))).mono ?_
     rintro e w3 ⟨rfl, T3⟩
     have TT3 : Hid (Tch No wr w3) := (Tch.alloc _ _).trans0 T3
     have H3 := Lib.hid (blk_tch TT3.out HG.out (fun h => h))
     have bx0 := T3.cell (box_cell wr _ _ 0 (by simp)) (fun h => h)
     have bx1 := T3.cell (box_cell wr _ _ 1 (by simp)) (fun h => h)
     simp only [List.getElem_toArray, List.getElem_cons_zero, List.getElem_cons_succ] at bx0 bx1
     obtain ⟨o0, ho0⟩ : ∃ o, w3.cell? ⟨g0, i * 2, none⟩ = some o := ⟨cur[i * 2]'(by omega), by rw [blk_cell H3.out]; exact Array.getElem?_eq_getElem _⟩
     have hf0 : w3.frozen? ⟨g0, i * 2, none⟩ = false := blk_free H3.out _
     obtain ⟨o1, ho1⟩ : ∃ o, w3.cell? ⟨g0, i * 2 + 1, none⟩ = some o := ⟨cur[i * 2 + 1]'(by omega), by rw [blk_cell H3.out]; exact Array.getElem?_eq_getElem _⟩
     have hf1 : w3.frozen? ⟨g0, i * 2 + 1, none⟩ = false := blk_free H3.out _
     clear T3
     go_wp2_with fail
     go_roundg (l.length - (j + 1))
     case measure => omega
     case rel =>
      obtain ⟨cur', q1, q2, q3⟩ := blk_sets [.int .i64 x0, .slice qa qn qc] (i * 2) w3 cur H3.out (by simp only [List.length_cons, List.length_nil]; omega)
      refine ⟨i + 1, j + 1, cur', by go_num, by go_num, by omega, by omega, Nat.le_refl _, D.out.keep he hlt PX.out q2 (fun t => ?_), q1, ((TW.out.trans0 TT3.out).fresh (F := fun k => k = g0) (Tch.setCells (F := fun k => k = g0) (b := g0) rfl [.int .i64 x0, .slice qa qn qc] (i * 2) w3) (fun k h => by rw [h]; exact Q.out.1))⟩
      rw [q3 t, HX.out, HVS.out]
      rfl
   ·obtain rfl : j = l.length := by omega
    have hii : i < l.length := by omega
    have hic : i < c := by omega
    have hltz : ¬ ((l.length : Int) < (l.length : Int)) := by omega
    obtain ⟨zs, hzs⟩ : ∃ zs, (Builtin.zeroCells (Value.agg #[.int .i64 0, .slice none 0 0]).cells (l.length - i)).toList = zs := ⟨_, rfl⟩
    have hzl : zs.length = (l.length - i) * 2 := by rw [<- hzs, zc_len]; rfl
    have hz1 : Ones zs := by
     rw [<- hzs]
     exact zc_one _ _ (fun q hq => by
      have hq' : q < 2 := hq
      have : q = 0 ∨ q = 1 := by omega
      rcases this with rfl | rfl <;> rfl) (by decide)
    have hfit : i * 2 + zs.length <= cur.size := by
     have : i * 2 + (l.length - i) * 2 <= c * 2 := by rw [<- Nat.add_mul]; exact Nat.mul_le_mul_right _ (by omega)
     omega
    have hcl : ∀ ty, (Builtin.clear_ #[25] ty #[.slice (some ⟨g0, i * 2, none⟩) (l.length - i) (c - i)]).run Tryz.prog wr = .ok (.tuple #[]) (wr.setCells g0 (i * 2) zs) := fun ty =>
     run_clear_many wr _ 63 ty (Value.agg #[.int .i64 0, .slice none 0 0]) eltPend.und (fun w => by kernel_rfl) g0 (i * 2) _ _ (by omega) zs hzs hz1 (fun q hq => by rw [blk_cell HG.out, Array.getElem?_eq_getElem (by omega)]; rfl) (fun q _ => blk_free HG.out _)
    have ZZ : Hid (i * 2 + zs.length <= cur.size) := hfit
    clear hzs hzl hz1 hfit hsz
    go_wp2
    go_ret
    obtain ⟨cur', q1, q2, q3⟩ := blk_sets zs (i * 2) wr cur HG.out ZZ.out
    exact ⟨_, rfl, ⟨D.out.done he hc1 hc2 q1 q2 (fun t ht => by rw [q3 t, if_neg (by omega)]), fun b hb => by
     have hb' : g0 = b := by simpa [Value.ownBlock] using hb
     have hq := Q.out.1
     omega⟩, TW.out.fresh (F := fun k => k = g0) (Tch.setCells (F := fun k => k = g0) (b := g0) rfl zs (i * 2) wr) (fun k h => by rw [h]; exact Q.out.1)⟩
theorem del_br (w0 : World) (g : Nat) (lb : Array Value) (eg : ∀ args w, (callFunc g args).run Tryz.prog w = .ok (.enter g args) w) (p : (BrM × Value) -> Bool) (l : List (BrM × Value)) (o : ∀ x ∈ l, ∃ a n c, x.2 = .slice a n c)
  (hp : ∀ x ∈ l, ∀ W, Tch No w0 W -> Calls Tryz.prog g (#[.agg #[.int .i64 (x.1.tid), x.2]] ++ lb) W fun e w' => e = .returned (.bool (p x)) /\ Tch No W w')
  (v : Value) (w : World) (t0 : Tch No w0 w) (h : OwnN w0 81 2 l.length (l.flatMap (encPr (fun q : BrM => q.tid))) v w) (hn : l.length <= 100000000) :
  Calls Tryz.prog 195 #[v, .func (.func g) #[] lb] w fun e w' => ∃ v', e = .returned v' /\ OwnN w0 81 2 (keptM p l).length ((keptM p l).flatMap (encPr (fun q : BrM => q.tid))) v' w' /\ Tch No w0 w' := by
 have he : ∀ x, ((encPr (fun q : BrM => q.tid)) x).length = 2 := fun _ => rfl
 have hc := CellsAt.ofRow h.1
 have hcs : ∀ i (hi : i < l.length), (l.flatMap (encPr (fun q : BrM => q.tid)))[i * 2 + 0]? = some (.int .i64 (l[i].1.tid)) /\ (l.flatMap (encPr (fun q : BrM => q.tid)))[i * 2 + 1]? = some (l[i].2) := fun i hi =>
  ⟨flat_get (encPr (fun q : BrM => q.tid)) 2 he l i 0 hi (by decide), flat_get (encPr (fun q : BrM => q.tid)) 2 he l i 1 hi (by decide)⟩
 have hI := idx_br g lb eg (fun i => if h : i < l.length then p l[i] else false) (fun i => if h : i < l.length then l[i].1.tid else 0) (fun i => if h : i < l.length then l[i].2 else .bool false) (fun i => by show Value.oneCell' (if h : i < l.length then _ else _) = true; split; obtain ⟨_, _, _, ho⟩ := o _ (List.getElem_mem (by assumption)); rw [ho]; rfl; rfl) _ l.length v w hc (fun i hi => by
   simp only [dif_pos hi]
   exact hcs i hi) (fun k hk W t => by
   simp only [dif_pos hk]
   exact hp _ (List.getElem_mem _) W (t0.trans0 t))
 have HI := Lib.hid hI
 have HP := Lib.hid hp
 have HS := Lib.hid hcs
 have T0 := Lib.hid t0
 have HO := Lib.hid h
 have OO := Lib.hid o
 obtain ⟨a, c, rfl, hc1, hc2⟩ := own_shape h.1
 have hml : c <= 9223372036854775807 := by unfold maxLen at hc2; omega
 clear hp hcs t0 h hI hc o
 go_enter Tryz.func195, Tryz.ntmps195
 go_wp2_with fail
 refine HI.out.mono ?_
 rintro e w1 ⟨⟨r, rfl, hr⟩, T1⟩
 have TT1 := Lib.hid T1
 rcases hr with ⟨rfl, hall⟩ | ⟨k0, hk0, rfl, hhit, hno⟩
 ·have HA := Lib.hid hall
  clear hall
  go_wp2_with fail
  go_ret
  have e1 : keptM p l = l := DInv.none_ (fun i hi => by have := HA.out i hi; simpa only [dif_pos hi] using this)
  rw [e1]
  exact ⟨_, rfl, stb_own _ _ _ TT1.out HO.out, T0.out.trans0 TT1.out⟩
 ·have hex : ∃ g0 cur0, a = some ⟨g0, 0, none⟩ /\ Hid (w0.heap.size <= g0 /\ w1.heap[g0]? = some (.cells cur0 81 (0, 0)) /\ cur0.size = c * 2 /\ ∀ t, t < l.length * 2 -> cur0[t]? = (l.flatMap (encPr (fun q : BrM => q.tid)))[t]?) := by
   have h1 := stb_own _ _ _ TT1.out HO.out
   cases a with
   | none =>
    rcases h1.1.2 with ⟨_, h0⟩ | ⟨_, _, _, h0, _⟩
    ·omega
    ·cases h0
   | some a =>
    obtain ⟨g0, cur, rfl, q1, q2, q3, q4, q5, q6⟩ := own_get h1.1
    exact ⟨g0, cur, rfl, h1.2 g0 rfl, q1, q4, q6⟩
  obtain ⟨g0, cur0, rfl, Q⟩ := hex
  have D0 : Hid (DInv (encPr (fun q : BrM => q.tid)) 2 p l c (k0 + 1) k0 cur0) := DInv.start he hk0 (by simpa only [dif_pos hk0] using hhit) (fun i hi h => by have := hno i h; simpa only [dif_pos hi] using this) Q.out.2.2.1 Q.out.2.2.2
  have hne1 : ((k0 : Int) == -1) = false := beq_eq_false_iff_ne.2 (by omega)
  clear hhit hno
  go_wp2_with fail
  go_loopg [5, 6, 7] l.length (fun kx s5 s6 _ wr => ∃ (i j : Nat) (cur : Array Value), s5 = .int .i64 i /\ s6 = .int .i64 j /\ i + 1 <= j /\ j <= l.length /\ l.length - j <= kx /\ Hid (DInv (encPr (fun q : BrM => q.tid)) 2 p l c j i cur) /\ Hid (wr.heap[g0]? = some (.cells cur 81 (0, 0))) /\ Hid (Tch No w0 wr))
  case atStart => exact ⟨k0, k0 + 1, cur0, rfl, by go_num, Nat.le_refl _, by omega, by omega, D0.out, Q.out.2.1, T0.out.trans0 TT1.out⟩
  case round =>
   obtain ⟨i, j, cur, rfl, rfl, hij, hjl, hgk, D, HG, TW⟩ := hrel
   have hsz : cur.size = c * 2 := D.out.sz
   by_cases hlt : j < l.length
   ·have hltz : (j : Int) < (l.length : Int) := by omega
    have hjm : j * 2 + 2 <= l.length * 2 := by omega
    have hcm : l.length * 2 <= c * 2 := Nat.mul_le_mul_right _ hc1
    have e0 : wr.cell? ⟨g0, j * 2, none⟩ = some (.int .i64 (l[j].1.tid)) := by rw [blk_cell HG.out, D.out.high (j * 2) (by omega) (by omega)]; exact flat_get (encPr (fun q : BrM => q.tid)) 2 he l j 0 hlt (by decide)
    have e1 : wr.cell? ⟨g0, j * 2 + 1, none⟩ = some (l[j].2) := by rw [blk_cell HG.out, D.out.high (j * 2 + 1) (by omega) (by omega)]; exact flat_get (encPr (fun q : BrM => q.tid)) 2 he l j 1 hlt (by decide)
    have HF := HP.out _ (List.getElem_mem hlt)
    obtain ⟨x, hx⟩ : ∃ x, l[j] = x := ⟨_, rfl⟩
    have HX := Lib.hid hx
    rw [hx] at e0 e1 HF
    obtain ⟨qa, qn, qc, hov⟩ := OO.out _ (List.getElem_mem hlt)
    rw [hx] at hov
    clear hx
    obtain ⟨x0, hx0⟩ : ∃ z : Int, x.1.tid = z := ⟨_, rfl⟩
    have hx1 : x.2 = .slice qa qn qc := hov
    rw [hx0, hx1] at HF
    rw [hx0] at e0
    rw [hx1] at e1
    have HVS : Hid ((encPr (fun q : BrM => q.tid)) x = [.int .i64 x0, .slice qa qn qc]) := by rw [Hid, <- hx0, <- hx1]; rfl
    clear hx0 hx1 hov
    have HG2 := Lib.hid HF
    clear HF
    by_cases hit : p x = true
    ·rw [hit] at HG2
     have D2 : Hid (DInv (encPr (fun q : BrM => q.tid)) 2 p l c (j + 1) i cur) := D.out.skip hlt (by rw [HX.out]; exact hit)
     clear hit
     go_wp2_with fail
     refine (HG2.out _ (TW.out.trans0 (Tch.alloc _ _))).mono ?_
     rintro e w3 ⟨rfl, T3⟩
     go_wp2_with fail
     go_roundg (l.length - (j + 1))
     case measure => omega
     case rel => exact ⟨i, j + 1, cur, rfl, by go_num, by omega, by omega, Nat.le_refl _, D2.out, blk_tch ((Tch.alloc _ _).trans0 T3) HG.out (fun h => h), TW.out.trans0 ((Tch.alloc _ _).trans0 T3)⟩
    ·have hd : p x = false := by simpa using hit
     rw [hd] at HG2
     have PX : Hid (p l[j] = false) := by rw [Hid, HX.out]; exact hd
     clear hit hd
     have him : i * 2 + 2 <= j * 2 := by omega
     go_wp2_with fail
     refine (HG2.out _ (TW.out.trans0 (Tch.alloc _ _))).mono ?_
     rintro e w3 ⟨rfl, T3⟩
     have TT3 : Hid (Tch No wr w3) := (Tch.alloc _ _).trans0 T3
     have H3 := Lib.hid (blk_tch TT3.out HG.out (fun h => h))
     have bx0 := T3.cell (box_cell wr _ _ 0 (by simp)) (fun h => h)
     have bx1 := T3.cell (box_cell wr _ _ 1 (by simp)) (fun h => h)
     simp only [List.getElem_toArray, List.getElem_cons_zero, List.getElem_cons_succ] at bx0 bx1
     obtain ⟨o0, ho0⟩ : ∃ o, w3.cell? ⟨g0, i * 2, none⟩ = some o := ⟨cur[i * 2]'(by omega), by rw [blk_cell H3.out]; exact Array.getElem?_eq_getElem _⟩
     have hf0 : w3.frozen? ⟨g0, i * 2, none⟩ = false := blk_free H3.out _
     obtain ⟨o1, ho1⟩ : ∃ o, w3.cell? ⟨g0, i * 2 + 1, none⟩ = some o := ⟨cur[i * 2 + 1]'(by omega), by rw [blk_cell H3.out]; exact Array.getElem?_eq_getElem _⟩
     have hf1 : w3.frozen? ⟨g0, i * 2 + 1, none⟩ = false := blk_free H3.out _
     clear T3
     go_wp2_with fail
     go_roundg (l.length - (j + 1))
     case measure => omega
     case rel =>
      obtain ⟨cur', q1, q2, q3⟩ := blk_sets [.int .i64 x0, .slice qa qn qc] (i * 2) w3 cur H3.out (by simp only [List.length_cons, List.length_nil]; omega)
      refine ⟨i + 1, j + 1, cur', by go_num, by go_num, by omega, by omega, Nat.le_refl _, D.out.keep he hlt PX.out q2 (fun t => ?_), q1, ((TW.out.trans0 TT3.out).fresh (F := fun k => k = g0) (Tch.setCells (F := fun k => k = g0) (b := g0) rfl [.int .i64 x0, .slice qa qn qc] (i * 2) w3) (fun k h => by rw [h]; exact Q.out.1))⟩
      rw [q3 t, HX.out, HVS.out]
      rfl
   ·obtain rfl : j = l.length := by omega
    have hii : i < l.length := by omega
    have hic : i < c := by omega
    have hltz : ¬ ((l.length : Int) < (l.length : Int)) := by omega
    obtain ⟨zs, hzs⟩ : ∃ zs, (Builtin.zeroCells (Value.agg #[.int .i64 0, .slice none 0 0]).cells (l.length - i)).toList = zs := ⟨_, rfl⟩
    have hzl : zs.length = (l.length - i) * 2 := by rw [<- hzs, zc_len]; rfl
    have hz1 : Ones zs := by
     rw [<- hzs]
     exact zc_one _ _ (fun q hq => by
      have hq' : q < 2 := hq
      have : q = 0 ∨ q = 1 := by omega
      rcases this with rfl | rfl <;> rfl) (by decide)
    have hfit : i * 2 + zs.length <= cur.size := by
     have : i * 2 + (l.length - i) * 2 <= c * 2 := by rw [<- Nat.add_mul]; exact Nat.mul_le_mul_right _ (by omega)
     omega
    have hcl : ∀ ty, (Builtin.clear_ #[23] ty #[.slice (some ⟨g0, i * 2, none⟩) (l.length - i) (c - i)]).run Tryz.prog wr = .ok (.tuple #[]) (wr.setCells g0 (i * 2) zs) := fun ty =>
     run_clear_many wr _ 81 ty (Value.agg #[.int .i64 0, .slice none 0 0]) eltBr.und (fun w => by kernel_rfl) g0 (i * 2) _ _ (by omega) zs hzs hz1 (fun q hq => by rw [blk_cell HG.out, Array.getElem?_eq_getElem (by omega)]; rfl) (fun q _ => blk_free HG.out _)
    have ZZ : Hid (i * 2 + zs.length <= cur.size) := hfit
    clear hzs hzl hz1 hfit hsz
    go_wp2
    go_ret
    obtain ⟨cur', q1, q2, q3⟩ := blk_sets zs (i * 2) wr cur HG.out ZZ.out
    exact ⟨_, rfl, ⟨D.out.done he hc1 hc2 q1 q2 (fun t ht => by rw [q3 t, if_neg (by omega)]), fun b hb => by
     have hb' : g0 = b := by simpa [Value.ownBlock] using hb
     have hq := Q.out.1
     omega⟩, TW.out.fresh (F := fun k => k = g0) (Tch.setCells (F := fun k => k = g0) (b := g0) rfl zs (i * 2) wr) (fun k h => by rw [h]; exact Q.out.1)⟩
theorem del_msg (w0 : World) (g : Nat) (lb : Array Value) (eg : ∀ args w, (callFunc g args).run Tryz.prog w = .ok (.enter g args) w) (p : MsgM -> Bool) (l : List MsgM)
  (hp : ∀ x ∈ l, ∀ W, Tch No w0 W -> Calls Tryz.prog g (#[.agg #[.int .i64 (x.id), .string ⟨(x.q).toArray⟩, .string ⟨(x.b).toArray⟩, .int .i64 (x.seq), .int .i64 (x.cnt), .int .i64 (x.who)]] ++ lb) W fun e w' => e = .returned (.bool (p x)) /\ Tch No W w')
  (v : Value) (w : World) (t0 : Tch No w0 w) (h : OwnN w0 50 6 l.length (l.flatMap encMsg) v w) (hn : l.length <= 100000000) :
  Calls Tryz.prog 89 #[v, .func (.func g) #[] lb] w fun e w' => ∃ v', e = .returned v' /\ OwnN w0 50 6 (keptM p l).length ((keptM p l).flatMap encMsg) v' w' /\ Tch No w0 w' := by
 have he : ∀ x, (encMsg x).length = 6 := fun _ => rfl
 have hc := CellsAt.ofRow h.1
 have hcs : ∀ i (hi : i < l.length), (l.flatMap encMsg)[i * 6 + 0]? = some (.int .i64 (l[i].id)) /\ (l.flatMap encMsg)[i * 6 + 1]? = some (.string ⟨(l[i].q).toArray⟩) /\ (l.flatMap encMsg)[i * 6 + 2]? = some (.string ⟨(l[i].b).toArray⟩) /\ (l.flatMap encMsg)[i * 6 + 3]? = some (.int .i64 (l[i].seq)) /\ (l.flatMap encMsg)[i * 6 + 4]? = some (.int .i64 (l[i].cnt)) /\ (l.flatMap encMsg)[i * 6 + 5]? = some (.int .i64 (l[i].who)) := fun i hi =>
  ⟨flat_get encMsg 6 he l i 0 hi (by decide), flat_get encMsg 6 he l i 1 hi (by decide), flat_get encMsg 6 he l i 2 hi (by decide), flat_get encMsg 6 he l i 3 hi (by decide), flat_get encMsg 6 he l i 4 hi (by decide), flat_get encMsg 6 he l i 5 hi (by decide)⟩
 have hI := idx_msg g lb eg (fun i => if h : i < l.length then p l[i] else false) (fun i => if h : i < l.length then l[i].id else 0) (fun i => if h : i < l.length then ⟨(l[i].q).toArray⟩ else ⟨#[]⟩) (fun i => if h : i < l.length then ⟨(l[i].b).toArray⟩ else ⟨#[]⟩) (fun i => if h : i < l.length then l[i].seq else 0) (fun i => if h : i < l.length then l[i].cnt else 0) (fun i => if h : i < l.length then l[i].who else 0) _ l.length v w hc (fun i hi => by
   simp only [dif_pos hi]
   exact hcs i hi) (fun k hk W t => by
   simp only [dif_pos hk]
   exact hp _ (List.getElem_mem _) W (t0.trans0 t))
 have HI := Lib.hid hI
 have HP := Lib.hid hp
 have HS := Lib.hid hcs
 have T0 := Lib.hid t0
 have HO := Lib.hid h
 obtain ⟨a, c, rfl, hc1, hc2⟩ := own_shape h.1
 have hml : c <= 9223372036854775807 := by unfold maxLen at hc2; omega
 clear hp hcs t0 h hI hc
 go_enter Tryz.func89, Tryz.ntmps89
 go_wp2_with fail
 refine HI.out.mono ?_
 rintro e w1 ⟨⟨r, rfl, hr⟩, T1⟩
 have TT1 := Lib.hid T1
 rcases hr with ⟨rfl, hall⟩ | ⟨k0, hk0, rfl, hhit, hno⟩
 ·have HA := Lib.hid hall
  clear hall
  go_wp2_with fail
  go_ret
  have e1 : keptM p l = l := DInv.none_ (fun i hi => by have := HA.out i hi; simpa only [dif_pos hi] using this)
  rw [e1]
  exact ⟨_, rfl, stb_own _ _ _ TT1.out HO.out, T0.out.trans0 TT1.out⟩
 ·have hex : ∃ g0 cur0, a = some ⟨g0, 0, none⟩ /\ Hid (w0.heap.size <= g0 /\ w1.heap[g0]? = some (.cells cur0 50 (0, 0)) /\ cur0.size = c * 6 /\ ∀ t, t < l.length * 6 -> cur0[t]? = (l.flatMap encMsg)[t]?) := by
   have h1 := stb_own _ _ _ TT1.out HO.out
   cases a with
   | none =>
    rcases h1.1.2 with ⟨_, h0⟩ | ⟨_, _, _, h0, _⟩
    ·omega
    ·cases h0
   | some a =>
    obtain ⟨g0, cur, rfl, q1, q2, q3, q4, q5, q6⟩ := own_get h1.1
    exact ⟨g0, cur, rfl, h1.2 g0 rfl, q1, q4, q6⟩
  obtain ⟨g0, cur0, rfl, Q⟩ := hex
  have D0 : Hid (DInv encMsg 6 p l c (k0 + 1) k0 cur0) := DInv.start he hk0 (by simpa only [dif_pos hk0] using hhit) (fun i hi h => by have := hno i h; simpa only [dif_pos hi] using this) Q.out.2.2.1 Q.out.2.2.2
  have hne1 : ((k0 : Int) == -1) = false := beq_eq_false_iff_ne.2 (by omega)
  clear hhit hno
  go_wp2_with fail
  go_loopg [5, 6, 7] l.length (fun kx s5 s6 _ wr => ∃ (i j : Nat) (cur : Array Value), s5 = .int .i64 i /\ s6 = .int .i64 j /\ i + 1 <= j /\ j <= l.length /\ l.length - j <= kx /\ Hid (DInv encMsg 6 p l c j i cur) /\ Hid (wr.heap[g0]? = some (.cells cur 50 (0, 0))) /\ Hid (Tch No w0 wr))
  case atStart => exact ⟨k0, k0 + 1, cur0, rfl, by go_num, Nat.le_refl _, by omega, by omega, D0.out, Q.out.2.1, T0.out.trans0 TT1.out⟩
  case round =>
   obtain ⟨i, j, cur, rfl, rfl, hij, hjl, hgk, D, HG, TW⟩ := hrel
   have hsz : cur.size = c * 6 := D.out.sz
   by_cases hlt : j < l.length
   ·have hltz : (j : Int) < (l.length : Int) := by omega
    have hjm : j * 6 + 6 <= l.length * 6 := by omega
    have hcm : l.length * 6 <= c * 6 := Nat.mul_le_mul_right _ hc1
    have e0 : wr.cell? ⟨g0, j * 6, none⟩ = some (.int .i64 (l[j].id)) := by rw [blk_cell HG.out, D.out.high (j * 6) (by omega) (by omega)]; exact flat_get encMsg 6 he l j 0 hlt (by decide)
    have e1 : wr.cell? ⟨g0, j * 6 + 1, none⟩ = some (.string ⟨(l[j].q).toArray⟩) := by rw [blk_cell HG.out, D.out.high (j * 6 + 1) (by omega) (by omega)]; exact flat_get encMsg 6 he l j 1 hlt (by decide)
    have e2 : wr.cell? ⟨g0, j * 6 + 2, none⟩ = some (.string ⟨(l[j].b).toArray⟩) := by rw [blk_cell HG.out, D.out.high (j * 6 + 2) (by omega) (by omega)]; exact flat_get encMsg 6 he l j 2 hlt (by decide)
    have e3 : wr.cell? ⟨g0, j * 6 + 3, none⟩ = some (.int .i64 (l[j].seq)) := by rw [blk_cell HG.out, D.out.high (j * 6 + 3) (by omega) (by omega)]; exact flat_get encMsg 6 he l j 3 hlt (by decide)
    have e4 : wr.cell? ⟨g0, j * 6 + 4, none⟩ = some (.int .i64 (l[j].cnt)) := by rw [blk_cell HG.out, D.out.high (j * 6 + 4) (by omega) (by omega)]; exact flat_get encMsg 6 he l j 4 hlt (by decide)
    have e5 : wr.cell? ⟨g0, j * 6 + 5, none⟩ = some (.int .i64 (l[j].who)) := by rw [blk_cell HG.out, D.out.high (j * 6 + 5) (by omega) (by omega)]; exact flat_get encMsg 6 he l j 5 hlt (by decide)
    have HF := HP.out _ (List.getElem_mem hlt)
    obtain ⟨x, hx⟩ : ∃ x, l[j] = x := ⟨_, rfl⟩
    have HX := Lib.hid hx
    rw [hx] at e0 e1 e2 e3 e4 e5 HF
    clear hx
    obtain ⟨x0, hx0⟩ : ∃ z : Int, x.id = z := ⟨_, rfl⟩
    obtain ⟨x1, hx1⟩ : ∃ z : ByteArray, (⟨(x.q).toArray⟩ : ByteArray) = z := ⟨_, rfl⟩
    obtain ⟨x2, hx2⟩ : ∃ z : ByteArray, (⟨(x.b).toArray⟩ : ByteArray) = z := ⟨_, rfl⟩
    obtain ⟨x3, hx3⟩ : ∃ z : Int, x.seq = z := ⟨_, rfl⟩
    obtain ⟨x4, hx4⟩ : ∃ z : Int, x.cnt = z := ⟨_, rfl⟩
    obtain ⟨x5, hx5⟩ : ∃ z : Int, x.who = z := ⟨_, rfl⟩
    rw [hx0, hx1, hx2, hx3, hx4, hx5] at HF
    rw [hx0] at e0
    rw [hx1] at e1
    rw [hx2] at e2
    rw [hx3] at e3
    rw [hx4] at e4
    rw [hx5] at e5
    have HVS : Hid (encMsg x = [.int .i64 x0, .string x1, .string x2, .int .i64 x3, .int .i64 x4, .int .i64 x5]) := by rw [Hid, <- hx0, <- hx1, <- hx2, <- hx3, <- hx4, <- hx5]; rfl
    clear hx0 hx1 hx2 hx3 hx4 hx5
    have HG2 := Lib.hid HF
    clear HF
    by_cases hit : p x = true
    ·rw [hit] at HG2
     have D2 : Hid (DInv encMsg 6 p l c (j + 1) i cur) := D.out.skip hlt (by rw [HX.out]; exact hit)
     clear hit
     go_wp2_with fail
     refine (HG2.out _ (TW.out.trans0 (Tch.alloc _ _))).mono ?_
     rintro e w3 ⟨rfl, T3⟩
     go_wp2_with fail
     go_roundg (l.length - (j + 1))
     case measure => omega
     case rel => exact ⟨i, j + 1, cur, rfl, by go_num, by omega, by omega, Nat.le_refl _, D2.out, blk_tch ((Tch.alloc _ _).trans0 T3) HG.out (fun h => h), TW.out.trans0 ((Tch.alloc _ _).trans0 T3)⟩
    ·have hd : p x = false := by simpa using hit
     rw [hd] at HG2
     have PX : Hid (p l[j] = false) := by rw [Hid, HX.out]; exact hd
     clear hit hd
     have him : i * 6 + 6 <= j * 6 := by omega
     go_wp2_with fail
     refine (HG2.out _ (TW.out.trans0 (Tch.alloc _ _))).mono ?_
     rintro e w3 ⟨rfl, T3⟩
     have TT3 : Hid (Tch No wr w3) := (Tch.alloc _ _).trans0 T3
     have H3 := Lib.hid (blk_tch TT3.out HG.out (fun h => h))
     have bx0 := T3.cell (box_cell wr _ _ 0 (by simp)) (fun h => h)
     have bx1 := T3.cell (box_cell wr _ _ 1 (by simp)) (fun h => h)
     have bx2 := T3.cell (box_cell wr _ _ 2 (by simp)) (fun h => h)
     have bx3 := T3.cell (box_cell wr _ _ 3 (by simp)) (fun h => h)
     have bx4 := T3.cell (box_cell wr _ _ 4 (by simp)) (fun h => h)
     have bx5 := T3.cell (box_cell wr _ _ 5 (by simp)) (fun h => h)
     simp only [List.getElem_toArray, List.getElem_cons_zero, List.getElem_cons_succ] at bx0 bx1 bx2 bx3 bx4 bx5
     obtain ⟨o0, ho0⟩ : ∃ o, w3.cell? ⟨g0, i * 6, none⟩ = some o := ⟨cur[i * 6]'(by omega), by rw [blk_cell H3.out]; exact Array.getElem?_eq_getElem _⟩
     have hf0 : w3.frozen? ⟨g0, i * 6, none⟩ = false := blk_free H3.out _
     obtain ⟨o1, ho1⟩ : ∃ o, w3.cell? ⟨g0, i * 6 + 1, none⟩ = some o := ⟨cur[i * 6 + 1]'(by omega), by rw [blk_cell H3.out]; exact Array.getElem?_eq_getElem _⟩
     have hf1 : w3.frozen? ⟨g0, i * 6 + 1, none⟩ = false := blk_free H3.out _
     obtain ⟨o2, ho2⟩ : ∃ o, w3.cell? ⟨g0, i * 6 + 2, none⟩ = some o := ⟨cur[i * 6 + 2]'(by omega), by rw [blk_cell H3.out]; exact Array.getElem?_eq_getElem _⟩
     have hf2 : w3.frozen? ⟨g0, i * 6 + 2, none⟩ = false := blk_free H3.out _
     obtain ⟨o3, ho3⟩ : ∃ o, w3.cell? ⟨g0, i * 6 + 3, none⟩ = some o := ⟨cur[i * 6 + 3]'(by omega), by rw [blk_cell H3.out]; exact Array.getElem?_eq_getElem _⟩
     have hf3 : w3.frozen? ⟨g0, i * 6 + 3, none⟩ = false := blk_free H3.out _
     obtain ⟨o4, ho4⟩ : ∃ o, w3.cell? ⟨g0, i * 6 + 4, none⟩ = some o := ⟨cur[i * 6 + 4]'(by omega), by rw [blk_cell H3.out]; exact Array.getElem?_eq_getElem _⟩
     have hf4 : w3.frozen? ⟨g0, i * 6 + 4, none⟩ = false := blk_free H3.out _
     obtain ⟨o5, ho5⟩ : ∃ o, w3.cell? ⟨g0, i * 6 + 5, none⟩ = some o := ⟨cur[i * 6 + 5]'(by omega), by rw [blk_cell H3.out]; exact Array.getElem?_eq_getElem _⟩
     have hf5 : w3.frozen? ⟨g0, i * 6 + 5, none⟩ = false := blk_free H3.out _
     clear T3
     go_wp2_with fail
     go_roundg (l.length - (j + 1))
     case measure => omega
     case rel =>
      obtain ⟨cur', q1, q2, q3⟩ := blk_sets [.int .i64 x0, .string x1, .string x2, .int .i64 x3, .int .i64 x4, .int .i64 x5] (i * 6) w3 cur H3.out (by simp only [List.length_cons, List.length_nil]; omega)
      refine ⟨i + 1, j + 1, cur', by go_num, by go_num, by omega, by omega, Nat.le_refl _, D.out.keep he hlt PX.out q2 (fun t => ?_), q1, ((TW.out.trans0 TT3.out).fresh (F := fun k => k = g0) (Tch.setCells (F := fun k => k = g0) (b := g0) rfl [.int .i64 x0, .string x1, .string x2, .int .i64 x3, .int .i64 x4, .int .i64 x5] (i * 6) w3) (fun k h => by rw [h]; exact Q.out.1))⟩
      rw [q3 t, HX.out, HVS.out]
      rfl
   ·obtain rfl : j = l.length := by omega
    have hii : i < l.length := by omega
    have hic : i < c := by omega
    have hltz : ¬ ((l.length : Int) < (l.length : Int)) := by omega
    obtain ⟨zs, hzs⟩ : ∃ zs, (Builtin.zeroCells (Value.agg #[.int .i64 0, .string ⟨#[]⟩, .string ⟨#[]⟩, .int .i64 0, .int .i64 0, .int .i64 0]).cells (l.length - i)).toList = zs := ⟨_, rfl⟩
    have hzl : zs.length = (l.length - i) * 6 := by rw [<- hzs, zc_len]; rfl
    have hz1 : Ones zs := by
     rw [<- hzs]
     exact zc_one _ _ (fun q hq => by
      have hq' : q < 6 := hq
      have : q = 0 ∨ q = 1 ∨ q = 2 ∨ q = 3 ∨ q = 4 ∨ q = 5 := by omega
      rcases this with rfl | rfl | rfl | rfl | rfl | rfl <;> rfl) (by decide)
    have hfit : i * 6 + zs.length <= cur.size := by
     have : i * 6 + (l.length - i) * 6 <= c * 6 := by rw [<- Nat.add_mul]; exact Nat.mul_le_mul_right _ (by omega)
     omega
    have hcl : ∀ ty, (Builtin.clear_ #[22] ty #[.slice (some ⟨g0, i * 6, none⟩) (l.length - i) (c - i)]).run Tryz.prog wr = .ok (.tuple #[]) (wr.setCells g0 (i * 6) zs) := fun ty =>
     run_clear_many wr _ 50 ty (Value.agg #[.int .i64 0, .string ⟨#[]⟩, .string ⟨#[]⟩, .int .i64 0, .int .i64 0, .int .i64 0]) eltMsg.und (fun w => by kernel_rfl) g0 (i * 6) _ _ (by omega) zs hzs hz1 (fun q hq => by rw [blk_cell HG.out, Array.getElem?_eq_getElem (by omega)]; rfl) (fun q _ => blk_free HG.out _)
    have ZZ : Hid (i * 6 + zs.length <= cur.size) := hfit
    clear hzs hzl hz1 hfit hsz
    go_wp2
    go_ret
    obtain ⟨cur', q1, q2, q3⟩ := blk_sets zs (i * 6) wr cur HG.out ZZ.out
    exact ⟨_, rfl, ⟨D.out.done he hc1 hc2 q1 q2 (fun t ht => by rw [q3 t, if_neg (by omega)]), fun b hb => by
     have hb' : g0 = b := by simpa [Value.ownBlock] using hb
     have hq := Q.out.1
     omega⟩, TW.out.fresh (F := fun k => k = g0) (Tch.setCells (F := fun k => k = g0) (b := g0) rfl zs (i * 6) wr) (fun k h => by rw [h]; exact Q.out.1)⟩
end
end Go.Proofs.YtfedhcnmdmhppaaGreat
