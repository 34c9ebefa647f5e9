/- Part 34 of what the proof of OrderHolds rests on. No condition. -/
import Derived.Lib.SlicesCompact
import Derived.Test.YtelaljoebdpicaaGreatPOrderHolds13
import Derived.Test.YtelaljoebdpicaaGreatPOrderHolds33
namespace Go.Proofs.YtelaljoebdpicaaGreat
set_option maxRecDepth 100000
set_option maxHeartbeats 60000000
set_option linter.unusedVariables false
set_option linter.unusedSimpArgs false
set_option linter.unusedSectionVars false
section
open Go.RowKit Go.Maps
theorem cont_br (g : Nat) (lb : Array Value) (eg : ∀ args w, (callFunc g args).run Tryz.prog w = .ok (.enter g args) w) (t : Int) (l : List (BrM × Value)) (hl : l.length <= 100000) (v : Value) (w : World) (h : IsL (encPr fun q : BrM => q.tid) 2 w v l) (ho : ∀ x ∈ l, x.2.oneCell' = true)
  (hp : ∀ (i : Int) (y : Value), y.oneCell' = true -> ∀ W, Tch No w W -> Calls Tryz.prog g (#[.agg #[.int .i64 i, y]] ++ lb) W fun e w' => e = .returned (.bool (i == t)) /\ Tch No W w') :
  Calls Tryz.prog 96 #[v, .func (.func g) #[] lb] w fun e w' => e = .returned (.bool (hasP (fun q : BrM => q.tid) (l.map Prod.fst) t)) /\ Tch No w w' := by
 have hI := idx_br g lb eg (fun i => if h : i < l.length then l[i].1.tid == t else false) (fun i => if h : i < l.length then l[i].1.tid else 0) (fun i => if h : i < l.length then l[i].2 else .bool false) (fun i => by
   show Value.oneCell' (if h : i < l.length then _ else _) = true
   split
   ·exact ho _ (List.getElem_mem _)
   ·rfl) (l.flatMap (encPr fun q : BrM => q.tid)) l.length v
 have HI : Hid (∀ W, Tch No w W -> Calls Tryz.prog 165 #[v, .func (.func g) #[] lb] W fun e w' => (∃ r : Int, e = .returned (.int .i64 r) /\ FirstAt (fun i => if h : i < l.length then l[i].1.tid == t else false) l.length r) /\ Tch No W w') := fun W tt =>
  hI W (CellsAt.keep h tt) (fun i hi => by
   have g1 := flat_get (encPr fun q : BrM => q.tid) 2 (fun _ => rfl) l i 0 hi (by omega)
   have g2 := flat_get (encPr fun q : BrM => q.tid) 2 (fun _ => rfl) l i 1 hi (by omega)
   simp only [hi, dif_pos]
   exact ⟨g1, g2⟩) (fun k hk W2 t2 => by
   simp only [hk, dif_pos]
   exact hp _ _ (ho _ (List.getElem_mem _)) W2 (tt.trans0 t2))
 have HA : Hid (∀ r, FirstAt (fun i => if h : i < l.length then l[i].1.tid == t else false) l.length r -> (-1 <= r /\ r <= 100000) /\ decide (0 <= r) = hasP (fun q : BrM => q.tid) (l.map Prod.fst) t) := fun r hr => by
  rcases hr with ⟨rfl, h0⟩ | ⟨k, hk, rfl, h1, _⟩
  ·refine ⟨by omega, ?_⟩
   have : hasP (fun q : BrM => q.tid) (l.map Prod.fst) t = false := by
    cases hb : hasP (fun q : BrM => q.tid) (l.map Prod.fst) t with
    | false => rfl
    | true =>
     obtain ⟨x, hx, e⟩ := hasP_iff.1 hb
     obtain ⟨y, hy, rfl⟩ := List.mem_map.1 hx
     obtain ⟨i, hi, rfl⟩ := List.getElem_of_mem hy
     have := h0 i hi
     simp only [hi, dif_pos] at this
     simp at this
     exact absurd e this
   rw [this]; decide
  ·refine ⟨by omega, ?_⟩
   simp only [hk, dif_pos] at h1
   have : hasP (fun q : BrM => q.tid) (l.map Prod.fst) t = true := hasP_iff.2 ⟨l[k].1, List.mem_map.2 ⟨l[k], List.getElem_mem _, rfl⟩, by simpa using h1⟩
   rw [this]; simp
 obtain ⟨a, c, rfl, _, _⟩ := CellsAt.shape h
 clear h ho hp hI eg
 go_enter Tryz.func96, Tryz.ntmps96
 go_wp2_with fail
 refine (HI.out _ (Tch.refl _ _)).mono ?_
 rintro e w1 ⟨⟨r, rfl, hr⟩, T1⟩
 obtain ⟨⟨hr1, hr2⟩, hr3⟩ := HA.out r hr
 have HR3 := Lib.hid hr3
 clear hr hr3 HI HA
 go_wp2_with fail
 go_ret
 refine ⟨?_, T1⟩
 rw [<- HR3.out]
 rfl
theorem cont_pend (g : Nat) (lb : Array Value) (eg : ∀ args w, (callFunc g args).run Tryz.prog w = .ok (.enter g args) w) (t : Int) (l : List (PendM × Value)) (hl : l.length <= 100000) (v : Value) (w : World) (h : IsL (encPr fun q : PendM => q.tid) 2 w v l) (ho : ∀ x ∈ l, x.2.oneCell' = true)
  (hp : ∀ (i : Int) (y : Value), y.oneCell' = true -> ∀ W, Tch No w W -> Calls Tryz.prog g (#[.agg #[.int .i64 i, y]] ++ lb) W fun e w' => e = .returned (.bool (i == t)) /\ Tch No W w') :
  Calls Tryz.prog 98 #[v, .func (.func g) #[] lb] w fun e w' => e = .returned (.bool (hasP (fun q : PendM => q.tid) (l.map Prod.fst) t)) /\ Tch No w w' := by
 have hI := idx_pend g lb eg (fun i => if h : i < l.length then l[i].1.tid == t else false) (fun i => if h : i < l.length then l[i].1.tid else 0) (fun i => if h : i < l.length then l[i].2 else .bool false) (fun i => by
   show Value.oneCell' (if h : i < l.length then _ else _) = true
   split
   ·exact ho _ (List.getElem_mem _)
   ·rfl) (l.flatMap (encPr fun q : PendM => q.tid)) l.length v
 have HI : Hid (∀ W, Tch No w W -> Calls Tryz.prog 166 #[v, .func (.func g) #[] lb] W fun e w' => (∃ r : Int, e = .returned (.int .i64 r) /\ FirstAt (fun i => if h : i < l.length then l[i].1.tid == t else false) l.length r) /\ Tch No W w') := fun W tt =>
  hI W (CellsAt.keep h tt) (fun i hi => by
   have g1 := flat_get (encPr fun q : PendM => q.tid) 2 (fun _ => rfl) l i 0 hi (by omega)
   have g2 := flat_get (encPr fun q : PendM => q.tid) 2 (fun _ => rfl) l i 1 hi (by omega)
   simp only [hi, dif_pos]
   exact ⟨g1, g2⟩) (fun k hk W2 t2 => by
   simp only [hk, dif_pos]
   exact hp _ _ (ho _ (List.getElem_mem _)) W2 (tt.trans0 t2))
 have HA : Hid (∀ r, FirstAt (fun i => if h : i < l.length then l[i].1.tid == t else false) l.length r -> (-1 <= r /\ r <= 100000) /\ decide (0 <= r) = hasP (fun q : PendM => q.tid) (l.map Prod.fst) t) := fun r hr => by
  rcases hr with ⟨rfl, h0⟩ | ⟨k, hk, rfl, h1, _⟩
  ·refine ⟨by omega, ?_⟩
   have : hasP (fun q : PendM => q.tid) (l.map Prod.fst) t = false := by
    cases hb : hasP (fun q : PendM => q.tid) (l.map Prod.fst) t with
    | false => rfl
    | true =>
     obtain ⟨x, hx, e⟩ := hasP_iff.1 hb
     obtain ⟨y, hy, rfl⟩ := List.mem_map.1 hx
     obtain ⟨i, hi, rfl⟩ := List.getElem_of_mem hy
     have := h0 i hi
     simp only [hi, dif_pos] at this
     simp at this
     exact absurd e this
   rw [this]; decide
  ·refine ⟨by omega, ?_⟩
   simp only [hk, dif_pos] at h1
   have : hasP (fun q : PendM => q.tid) (l.map Prod.fst) t = true := hasP_iff.2 ⟨l[k].1, List.mem_map.2 ⟨l[k], List.getElem_mem _, rfl⟩, by simpa using h1⟩
   rw [this]; simp
 obtain ⟨a, c, rfl, _, _⟩ := CellsAt.shape h
 clear h ho hp hI eg
 go_enter Tryz.func98, Tryz.ntmps98
 go_wp2_with fail
 refine (HI.out _ (Tch.refl _ _)).mono ?_
 rintro e w1 ⟨⟨r, rfl, hr⟩, T1⟩
 obtain ⟨⟨hr1, hr2⟩, hr3⟩ := HA.out r hr
 have HR3 := Lib.hid hr3
 clear hr hr3 HI HA
 go_wp2_with fail
 go_ret
 refine ⟨?_, T1⟩
 rw [<- HR3.out]
 rfl
theorem loose1_any (i1 t : Int) (y : Value) (hy : y.oneCell' = true) (ib : Nat) (w : World) (hc : w.cell? ⟨ib, 5, none⟩ = some (.int .i64 t)) :
  Calls Tryz.prog 97 #[.agg #[.int .i64 i1, y], .pointer (some ⟨ib, 0, none⟩)] w fun e w' => e = .returned (.bool (i1 == t)) /\ Tch No w w' := by
 have hc2 := cal hc
 have hyc := one_cells hy
 go_enter Tryz.func97, Tryz.ntmps97
 go_wp2_with fail
 go_ret
 exact ⟨rfl, Tch.alloc _ _⟩
theorem loose2_any (i1 t : Int) (y : Value) (hy : y.oneCell' = true) (ib : Nat) (w : World) (hc : w.cell? ⟨ib, 5, none⟩ = some (.int .i64 t)) :
  Calls Tryz.prog 99 #[.agg #[.int .i64 i1, y], .pointer (some ⟨ib, 0, none⟩)] w fun e w' => e = .returned (.bool (i1 == t)) /\ Tch No w w' := by
 have hc2 := cal hc
 have hyc := one_cells hy
 go_enter Tryz.func99, Tryz.ntmps99
 go_wp2_with fail
 go_ret
 exact ⟨rfl, Tch.alloc _ _⟩
def looseB (s : StM) (m : MsgM) : Bool := !decide (m.who = 0) && !hasP (·.tid) s.waits m.who && !hasP (·.tid) s.opens m.who
def loose0 (s : StM) (l : List MsgM) : List Int := (l.filter (looseB s)).map (·.who)
def looseM (s : StM) : List Int := Go.Lib.compact (sortL (loose0 s s.ms))
theorem loose0_snoc (s : StM) (l : List MsgM) (m : MsgM) : loose0 s (l ++ [m]) = loose0 s l ++ (if looseB s m = true then [m.who] else []) := by
 unfold loose0
 rw [List.filter_append, List.map_append]
 congr 1
 by_cases h : looseB s m = true <;> simp [h]
theorem loose0_le (s : StM) (l : List MsgM) : (loose0 s l).length <= l.length := by
 unfold loose0; rw [List.length_map]; exact List.length_filter_le _ _
theorem oloose_any (s : StM) (hn : s.ms.length <= 100000) (hnw : s.waits.length <= 100000) (hno : s.opens.length <= 100000) (v : Value) (w : World) (h : IsSt w v s) :
  Calls Tryz.prog 33 #[v] w fun e w' => ∃ v', e = .returned v' /\ OwnN w 2 1 (looseM s).length ((looseM s).map encL) v' w' /\ Tch No w w' := by
 have HSO := Lib.hid (fun (l : List Int) (hl : l.length <= 1000000) v W (t : Tch No w W) (h : OwnN w 2 1 l.length (l.map encL) v W) => ssortL_any l hl v w W t h)
 have HCO := Lib.hid (fun (l : List Int) (hl : l.length <= 1000000) v W (t : Tch No w W) (h : OwnN w 2 1 l.length (l.map encL) v W) => scompactL_any l hl v w W t h)
 obtain ⟨vm, vw, ve, vo, vn, rfl, hm, hw, he, ho, hno9⟩ := h
 obtain ⟨prb, hmb, hcb, hib⟩ := brs_pairs.1 hw
 obtain ⟨pro, hmo, hco, hio⟩ := pends_pairs.1 ho
 have HWC : Hid (∀ (g : Nat) (lb : Array Value) (eg : ∀ args w, (callFunc g args).run Tryz.prog w = .ok (.enter g args) w) (t : Int) W, Tch No w W -> (∀ (i : Int) (y : Value), y.oneCell' = true -> ∀ W2, Tch No W W2 -> Calls Tryz.prog g (#[.agg #[.int .i64 i, y]] ++ lb) W2 fun e w' => e = .returned (.bool (i == t)) /\ Tch No W2 w') -> Calls Tryz.prog 96 #[vw, .func (.func g) #[] lb] W fun e w' => e = .returned (.bool (hasP (·.tid) s.waits t)) /\ Tch No W w') := fun g lb eg t W tt hp => by
  have := cont_br g lb eg t prb (by rw [<- List.length_map (f := Prod.fst), hmb]; omega) vw W (CellsAt.keep hcb tt) (fun x hx => CellsAt.one (hib x hx)) hp
  rwa [hmb] at this
 have HOC : Hid (∀ (g : Nat) (lb : Array Value) (eg : ∀ args w, (callFunc g args).run Tryz.prog w = .ok (.enter g args) w) (t : Int) W, Tch No w W -> (∀ (i : Int) (y : Value), y.oneCell' = true -> ∀ W2, Tch No W W2 -> Calls Tryz.prog g (#[.agg #[.int .i64 i, y]] ++ lb) W2 fun e w' => e = .returned (.bool (i == t)) /\ Tch No W2 w') -> Calls Tryz.prog 98 #[vo, .func (.func g) #[] lb] W fun e w' => e = .returned (.bool (hasP (·.tid) s.opens t)) /\ Tch No W w') := fun g lb eg t W tt hp => by
  have := cont_pend g lb eg t pro (by rw [<- List.length_map (f := Prod.fst), hmo]; omega) vo W (CellsAt.keep hco tt) (fun x hx => CellsAt.one (hio x hx)) hp
  rwa [hmo] at this
 clear hmb hcb hib hmo hco hio prb pro
 obtain ⟨ma, mc, rfl, _, _⟩ := CellsAt.shape hm
 obtain ⟨wa, wk, rfl, _, _⟩ := hw.shape
 obtain ⟨ea, ec, rfl, _, _⟩ := CellsAt.shape he
 obtain ⟨oa, oc, rfl, _, _⟩ := ho.shape
 obtain ⟨na, nc, rfl, _, _⟩ := hno9.shape
 have HM := Lib.hid hm
 obtain ⟨LO, hLO⟩ : ∃ f, loose0 s = f := ⟨_, rfl⟩
 have HLS : Hid (∀ l m, LO (l ++ [m]) = LO l ++ (if looseB s m = true then [m.who] else [])) := by rw [<- hLO]; exact loose0_snoc s
 have HLL : Hid (∀ l, (LO l).length <= l.length) := by rw [<- hLO]; exact loose0_le s
 have HL0 : Hid (LO [] = []) := by rw [<- hLO]; rfl
 unfold looseM
 rw [hLO]
 clear hLO hm hw he ho hno9
 obtain ⟨brk, nid, nseq, tx, ms, waits, ends, opens, noes⟩ := s
 simp only [looseB] at hn hnw hno HM HWC HOC HLS ⊢
 obtain ⟨nm, hnm⟩ : ∃ n, ms.length = n := ⟨_, rfl⟩
 obtain ⟨nw, hnw2⟩ : ∃ n, waits.length = n := ⟨_, rfl⟩
 obtain ⟨no, hno2⟩ : ∃ n, opens.length = n := ⟨_, rfl⟩
 have HNM := Lib.hid hnm
 rw [hnm] at hn HM ⊢
 rw [hnw2] at HWC ⊢
 rw [hno2] at HOC ⊢
 clear hnm hnw2 hno2 hnw hno
 obtain ⟨bs, hbs⟩ : ∃ x, w.heap.size = x := ⟨_, rfl⟩
 obtain ⟨w1, hw1⟩ : ∃ x, w.alloc (.cells #[.int .i64 brk, .int .i64 nid, .int .i64 nseq, .int .i64 tx, .slice ma nm mc, .slice wa nw wk, .slice ea ends.length ec, .slice oa no oc, .slice na noes.length nc] 27) = x := ⟨_, rfl⟩
 have HB1 : Hid (w1.heap[bs]? = some (.cells #[.int .i64 brk, .int .i64 nid, .int .i64 nseq, .int .i64 tx, .slice ma nm mc, .slice wa nw wk, .slice ea ends.length ec, .slice oa no oc, .slice na noes.length nc] 27 (0, 0))) := by rw [Hid, <- hw1, <- hbs]; exact blk_new w _
 have TW1 : Hid (Tch No w w1) := by rw [Hid, <- hw1]; exact Tch.alloc _ _
 have b4 : w1.cell? ⟨bs, 4, none⟩ = some (.slice ma nm mc) := (blk_cell HB1.out 4).trans rfl
 go_enter Tryz.func33, Tryz.ntmps33
 go_wp2_with fail
 clear hbs hw1 b4
 go_loopg [3, 6, 7, 11] nm (fun kx s3 s6 s7 s11 wr => ∃ k : Nat, s11 = .int .i64 k /\ k <= nm /\ nm - k <= kx /\ Hid (OwnN w1 2 1 (LO (ms.take k)).length ((LO (ms.take k)).map encL) s3 wr) /\ Hid (Tch No w1 wr))
 case atStart => exact ⟨0, rfl, Nat.zero_le _, by omega, by rw [List.take_zero, HL0.out]; exact ⟨own_nil _ _ _, fun b hb => by simp [Value.ownBlock] at hb⟩, Tch.refl _ _⟩
 case round =>
  obtain ⟨k, rfl, hk, hgk, HOW, TT⟩ := hrel
  have TWr : Hid (Tch No w wr) := TW1.out.trans0 TT.out
  by_cases hlt : k < nm
  ·have HLE : Hid ((LO (ms.take k)).length <= 100000) := by
    have := HLL.out (ms.take k)
    rw [List.length_take] at this
    rw [Hid]; omega
   have hkl : k < ms.length := by rw [HNM.out]; exact hlt
   have hb : ∃ b o, ma = some ⟨b, o, none⟩ /\ wr.cell? ⟨b, o + k * 6, none⟩ = some (.int .i64 ms[k].id) /\ wr.cell? ⟨b, o + k * 6 + 1, none⟩ = some (strV ms[k].q) /\ wr.cell? ⟨b, o + k * 6 + 2, none⟩ = some (strV ms[k].b) /\ wr.cell? ⟨b, o + k * 6 + 3, none⟩ = some (.int .i64 ms[k].seq) /\ wr.cell? ⟨b, o + k * 6 + 4, none⟩ = some (.int .i64 ms[k].cnt) /\ wr.cell? ⟨b, o + k * 6 + 5, none⟩ = some (.int .i64 ms[k].who) := by
    have hm := HM.out
    rw [<- HNM.out] at hm
    obtain ⟨b, o, cap2, h1, h2⟩ := CellsAt.elem (enc := encMsg) (m := 6) (fun _ => rfl) hm hkl
    injection h1 with h1 _ _
    exact ⟨b, o, h1, TWr.out.cell (h2 0 _ (by decide) rfl) (fun h => h), TWr.out.cell (h2 1 _ (by decide) rfl) (fun h => h), TWr.out.cell (h2 2 _ (by decide) rfl) (fun h => h), TWr.out.cell (h2 3 _ (by decide) rfl) (fun h => h), TWr.out.cell (h2 4 _ (by decide) rfl) (fun h => h), TWr.out.cell (h2 5 _ (by decide) rfl) (fun h => h)⟩
   obtain ⟨b, o, rfl, e0, e1, e2, e3, e4, e5⟩ := hb
   have HSN : Hid (ms.take (k + 1) = ms.take k ++ [ms[k]]) := take_snoc hkl
   obtain ⟨m, hmk⟩ : ∃ m, ms[k] = m := ⟨_, rfl⟩
   rw [hmk] at HSN e0 e1 e2 e3 e4 e5
   clear hmk
   obtain ⟨x0, x1, x2, x3, x4, x5⟩ := m
   simp only [strV] at e1 e2
   simp only at HSN e0 e3 e4 e5
   obtain ⟨q1, hq1⟩ : ∃ q : ByteArray, (⟨x1.toArray⟩ : ByteArray) = q := ⟨_, rfl⟩
   obtain ⟨q2, hq2⟩ : ∃ q : ByteArray, (⟨x2.toArray⟩ : ByteArray) = q := ⟨_, rfl⟩
   rw [hq1] at e1
   rw [hq2] at e2
   clear hq1 hq2
   have HHS : Hid (LO (ms.take (k + 1)) = LO (ms.take k) ++ (if (!decide (x5 = 0) && !hasP (·.tid) waits x5 && !hasP (·.tid) opens x5) = true then [x5] else [])) := by rw [Hid, HSN.out, HLS.out]; rfl
   obtain ⟨L, hL⟩ : ∃ l, LO (ms.take k) = l := ⟨_, rfl⟩
   rw [hL] at HOW HHS HLE
   clear hL HSN
   have HAP : Hid (∀ W, Tch No wr W -> OwnN w1 2 1 L.length (L.map encL) u3 W) := fun W t => stb_own _ _ _ t HOW.out
   obtain ⟨wq, hwq⟩ : ∃ x, wr.alloc (.cells #[.int .i64 x0, .string q1, .string q2, .int .i64 x3, .int .i64 x4, .int .i64 x5] 50) = x := ⟨_, rfl⟩
   have HBQ : Hid (wq.heap[wr.heap.size]? = some (.cells #[.int .i64 x0, .string q1, .string q2, .int .i64 x3, .int .i64 x4, .int .i64 x5] 50 (0, 0))) := by rw [Hid, <- hwq]; exact blk_new wr _
   have TQ : Hid (Tch No wr wq) := by rw [Hid, <- hwq]; exact Tch.alloc _ _
   have b5 : wq.cell? ⟨bs, 5, none⟩ = some (.slice wa nw wk) := (TT.out.trans0 TQ.out).cell ((blk_cell HB1.out 5).trans rfl) (fun h => h)
   obtain ⟨bw, hbw⟩ : ∃ b, hasP (fun q : BrM => q.tid) waits x5 = b := ⟨_, rfl⟩
   obtain ⟨bo, hbo⟩ : ∃ b, hasP (fun q : PendM => q.tid) opens x5 = b := ⟨_, rfl⟩
   have HW1 := Lib.hid (HWC.out 97 #[.pointer (some ⟨wr.heap.size, 0, none⟩)] (enters_of Tryz.func97 rfl rfl) x5 wq (TWr.out.trans0 TQ.out) (fun i y hy W t => loose1_any i x5 y hy wr.heap.size W (t.cell ((blk_cell HBQ.out 5).trans rfl) (fun h => h))))
   have HO1 := Lib.hid (fun (W : World) (tt : Tch No wq W) => HOC.out 99 #[.pointer (some ⟨wr.heap.size, 0, none⟩)] (enters_of Tryz.func99 rfl rfl) x5 W ((TWr.out.trans0 TQ.out).trans0 tt) (fun i y hy W2 t => loose2_any i x5 y hy wr.heap.size W2 ((tt.trans0 t).cell ((blk_cell HBQ.out 5).trans rfl) (fun h => h))))
   rw [hbw] at HW1 HHS
   rw [hbo] at HO1 HHS
   clear hbw hbo
   go_wp2_with fail
   refine HW1.out.mono ?_
   rintro e w3 ⟨rfl, T3⟩
   have T3' := Lib.hid T3
   have b7 : w3.cell? ⟨bs, 7, none⟩ = some (.slice oa no oc) := ((TT.out.trans0 TQ.out).trans0 T3).cell ((blk_cell HB1.out 7).trans rfl) (fun h => h)
   clear T3 b5 hwq
   go_wp2_with fail
   refine (HO1.out w3 T3'.out).mono ?_
   rintro e w4 ⟨rfl, T4⟩
   have T4' := Lib.hid (TQ.out.trans0 (T3'.out.trans0 T4))
   have c5 : w4.cell? ⟨wr.heap.size, 5, none⟩ = some (.int .i64 x5) := (T3'.out.trans0 T4).cell ((blk_cell HBQ.out 5).trans rfl) (fun h => h)
   clear T4 b7 e0 e1 e2 e3 e4 e5
   by_cases c : x5 = 0
   ·subst c
    have HX : Hid (LO (ms.take (k + 1)) = L) := by rw [Hid, HHS.out]; simp
    clear HHS
    go_wp2_with fail
    go_roundg (nm - (k + 1))
    case measure => omega
    case rel => exact ⟨k + 1, by go_num, by omega, by omega, by rw [HX.out]; exact HAP.out _ T4'.out, TT.out.trans0 T4'.out⟩
   ·have hb : (x5 == 0) = false := beq_eq_false_iff_ne.2 c
    have HC := Lib.hid c
    clear c
    cases bw with
    | true =>
     have HX : Hid (LO (ms.take (k + 1)) = L) := by rw [Hid, HHS.out]; simp
     clear HHS
     go_wp2_with fail
     go_roundg (nm - (k + 1))
     case measure => omega
     case rel => exact ⟨k + 1, by go_num, by omega, by omega, by rw [HX.out]; exact HAP.out _ T4'.out, TT.out.trans0 T4'.out⟩
    | false =>
     cases bo with
     | true =>
      have HX : Hid (LO (ms.take (k + 1)) = L) := by rw [Hid, HHS.out]; simp
      clear HHS
      go_wp2_with fail
      go_roundg (nm - (k + 1))
      case measure => omega
      case rel => exact ⟨k + 1, by go_num, by omega, by omega, by rw [HX.out]; exact HAP.out _ T4'.out, TT.out.trans0 T4'.out⟩
     | false =>
      have HX : Hid (LO (ms.take (k + 1)) = L ++ [x5]) := by rw [Hid, HHS.out, if_pos (by simp [HC.out])]
      clear HHS
      go_wp2_with (at_builtin; refine wpList_appE eltI64 _ rfl _ _ rfl _ _ _ rfl (HAP.out _ (T4'.out.trans0 (Tch.alloc _ _))).1 _ 1 [.int .i64 x5] rfl (cells_lit2 (by simp) _ _ 1 _ rfl rfl) (ones_i64 _) (by have := HLE.out; omega) ?_; rintro a' n' cap' w' HA hn')
      go_roundg (nm - (k + 1))
      case measure => omega
      case rel =>
       have hO := HA.on (TT.out.trans0 (T4'.out.trans0 (Tch.alloc _ _))) HOW.out.2
       have h := HA.own
       have hnn : n' = L.length + 1 := hn'
       subst hnn
       refine ⟨k + 1, by go_num, by omega, by omega, ?_, hO.1⟩
       rw [HX.out, List.length_append, List.map_append]
       exact ⟨h, hO.2⟩
  ·obtain rfl : k = nm := by omega
   have HLE : Hid ((LO ms).length <= 1000000) := by
    have := HLL.out ms
    have := HNM.out
    rw [Hid]; omega
   have HQS : Hid (ms.take k = ms) := by rw [Hid, <- HNM.out, List.take_length]
   rw [HQS.out] at HOW
   obtain ⟨L, hL⟩ : ∃ l, LO ms = l := ⟨_, rfl⟩
   rw [hL] at HOW HLE
   have HLQ := Lib.hid hL
   have OO2 : Hid (OwnN w 2 1 L.length (L.map encL) u3 wr) := ⟨HOW.out.1, fun b hb => Nat.le_trans TW1.out.size (HOW.out.2 b hb)⟩
   clear hL HOW
   go_wp2_with fail
   refine (HSO.out L HLE.out u3 wr TWr.out OO2.out).mono ?_
   rintro e w3 ⟨rfl, O3, T3⟩
   have TT3 := Lib.hid T3
   rw [<- sortL_len L] at O3
   have OO3 := Lib.hid O3
   have HL3 : Hid ((sortL L).length <= 1000000) := by rw [Hid, sortL_len]; exact HLE.out
   clear O3 T3
   go_wp2_with fail
   refine (HCO.out (sortL L) HL3.out u3 w3 TT3.out OO3.out).mono ?_
   rintro e w4 ⟨v4, rfl, O4, T4⟩
   have TT4 := Lib.hid T4
   have OO4 := Lib.hid O4
   clear O4 T4
   go_wp2_with fail
   go_ret
   rw [HLQ.out]
   exact ⟨v4, rfl, OO4.out, TT4.out⟩
end
section
section
variable {α : Type} [Inhabited α] [DecidableEq α]
theorem cmpU_mem (d : Array α) : ∀ m, ∀ x ∈ Go.Lib.compactUpTo d m, ∃ j, j < m /\ x = d[j]! := by
 intro m
 induction m with
 | zero => intro x hx; simp [Go.Lib.compactUpTo] at hx
 | succ m ih =>
  intro x hx
  rw [Go.Lib.compactUpTo_succ, List.mem_append] at hx
  rcases hx with hx | hx
  ·obtain ⟨j, h1, h2⟩ := ih x hx
   exact ⟨j, by omega, h2⟩
  ·split at hx
   ·simp at hx; exact ⟨m, by omega, hx⟩
   ·cases hx
theorem cmpU_all (d : Array α) : ∀ m j, j < m -> d[j]! ∈ Go.Lib.compactUpTo d m := by
 intro m
 induction m with
 | zero => intro j hj; omega
 | succ m ih =>
  intro j hj
  rw [Go.Lib.compactUpTo_succ, List.mem_append]
  by_cases h : j < m
  ·exact .inl (ih j h)
  ·have : j = m := by omega
   subst this
   by_cases hk : Go.Lib.keeps d j = true
   ·right; simp [hk]
   ·left
    have h2 : j ≠ 0 /\ d[j]! = d[j - 1]! := by
     unfold Go.Lib.keeps at hk
     simp only [decide_eq_true_eq, not_or, Decidable.not_not] at hk
     exact hk
    rw [h2.2]
    exact ih (j - 1) (by omega)
theorem cmpU_lt (le : α -> α -> Prop) (tr : ∀ a b c, le a b -> le b c -> le a c) (an : ∀ a b, le a b -> le b a -> a = b) (d : Array α) (hs : ∀ i j, i < j -> j < d.size -> le d[i]! d[j]!) : ∀ m, m <= d.size -> (Go.Lib.compactUpTo d m).Pairwise (fun a b => le a b /\ a ≠ b) := by
 intro m
 induction m with
 | zero => intro _; simp [Go.Lib.compactUpTo]
 | succ m ih =>
  intro hm
  rw [Go.Lib.compactUpTo_succ]
  by_cases hk : Go.Lib.keeps d m = true
  ·rw [if_pos hk, List.pairwise_append]
   refine ⟨ih (by omega), by simp, fun a ha b hb => ?_⟩
   obtain ⟨j, hj, rfl⟩ := cmpU_mem d m a ha
   simp only [List.mem_cons, List.not_mem_nil, or_false] at hb
   subst hb
   have h1 := hs j m hj (by omega)
   refine ⟨h1, fun e => ?_⟩
   have hk2 : m = 0 ∨ d[m]! ≠ d[m - 1]! := by unfold Go.Lib.keeps at hk; simpa using hk
   rcases hk2 with h0 | h0
   ·omega
   ·by_cases hjm : j = m - 1
    ·rw [hjm] at e; exact h0 e.symm
    ·have h2 := hs j (m - 1) (by omega) (by omega)
     have h3 := hs (m - 1) m (by omega) (by omega)
     rw [e] at h2
     exact h0 (an _ _ h2 h3)
  ·rw [if_neg hk, List.append_nil]
   exact ih (by omega)
theorem comp_mem {l : List α} {x : α} : x ∈ Go.Lib.compact l ↔ x ∈ l := by
 unfold Go.Lib.compact
 constructor
 ·intro h
  obtain ⟨j, hj, rfl⟩ := cmpU_mem _ _ _ h
  have : l.toArray[j]! = l[j] := by simp [hj]
  rw [this]; exact List.getElem_mem _
 ·intro h
  obtain ⟨j, hj, rfl⟩ := List.getElem_of_mem h
  have := cmpU_all l.toArray l.length j hj
  simpa [hj] using this
theorem comp_lt (le : α -> α -> Prop) (tr : ∀ a b c, le a b -> le b c -> le a c) (an : ∀ a b, le a b -> le b a -> a = b) {l : List α} (h : l.Pairwise le) : (Go.Lib.compact l).Pairwise (fun a b => le a b /\ a ≠ b) := by
 unfold Go.Lib.compact
 refine cmpU_lt le tr an l.toArray (fun i j hij hj => ?_) _ (by simp)
 have hj' : j < l.length := by simpa using hj
 have := (List.pairwise_iff_getElem.1 h) i j (by omega) hj' hij
 simpa [hj', show i < l.length by omega] using this
theorem comp_le (l : List α) : (Go.Lib.compact l).length <= l.length := by
 unfold Go.Lib.compact Go.Lib.compactUpTo
 rw [List.length_map]
 exact Nat.le_trans (List.length_filter_le _ _) (by simp)
theorem sum_counts {β : Type} [DecidableEq β] {γ : Type} (f : γ -> β) : ∀ (l : List γ) (q : List β), q.Nodup -> (∀ x ∈ l, f x ∈ q) -> (q.map fun b => l.countP fun x => decide (f x = b)).sum = l.length
 | [], q, _, _ => by
  have : ∀ p : List β, (p.map fun _ => 0).sum = 0 := by
   intro p
   induction p with
   | nil => rfl
   | cons a t ih => rw [List.map_cons, List.sum_cons, ih]
  simpa using this q
 | x :: r, q, hn, hq => by
  have ih := sum_counts f r q hn (fun y hy => hq y (List.mem_cons_of_mem _ hy))
  have key : ∀ p : List β, p.Nodup -> (p.map fun b => (x :: r).countP fun y => decide (f y = b)).sum = (p.map fun b => r.countP fun y => decide (f y = b)).sum + (if f x ∈ p then 1 else 0) := by
   intro p
   induction p with
   | nil => intro _; simp
   | cons b t iht =>
    intro hp
    obtain ⟨h1, h2⟩ := List.nodup_cons.1 hp
    rw [List.map_cons, List.sum_cons, List.map_cons, List.sum_cons, iht h2, List.countP_cons]
    by_cases e : f x = b
    ·subst e
     simp [h1]; omega
    ·have : (f x ∈ b :: t) ↔ f x ∈ t := by simp [e]
     simp only [this]
     simp [e]; omega
  rw [key q hn, ih, if_pos (hq x List.mem_cons_self)]
  simp
theorem sum_counts_le {β : Type} [DecidableEq β] {γ : Type} (f : γ -> β) (l : List γ) (q : List β) (hn : q.Nodup) : (q.map fun b => l.countP fun x => decide (f x = b)).sum <= l.length := by
 have h1 := sum_counts f (l.filter fun x => decide (f x ∈ q)) q hn (fun x hx => by simpa using (List.mem_filter.1 hx).2)
 have h2 : ∀ p : List β, (∀ b ∈ p, b ∈ q) -> (p.map fun b => l.countP fun x => decide (f x = b)) = (p.map fun b => (l.filter fun x => decide (f x ∈ q)).countP fun x => decide (f x = b)) := by
  intro p hp
  refine List.map_congr_left (fun b hb => ?_)
  rw [List.countP_filter]
  refine List.countP_congr (fun x hx => ?_)
  by_cases e : f x = b
  ·simp [e, hp b hb]
  ·simp [e]
 rw [h2 q (fun b hb => hb), h1]
 exact List.length_filter_le _ _
theorem nodup_of_lt {le : α -> α -> Prop} {l : List α} (h : l.Pairwise (fun a b => le a b /\ a ≠ b)) : l.Nodup := h.imp (fun h => h.2)
end
end
end Go.Proofs.YtelaljoebdpicaaGreat
