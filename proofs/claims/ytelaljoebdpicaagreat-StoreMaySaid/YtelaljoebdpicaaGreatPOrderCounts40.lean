/- Part 40 of what the proof of OrderCounts rests on. No condition. -/
import Derived.Test.YtelaljoebdpicaaGreatPOrderCounts14
import Derived.Test.YtelaljoebdpicaaGreatPOrderCounts19
import Derived.Test.YtelaljoebdpicaaGreatPOrderCounts20
namespace Go.Proofs.YtelaljoebdpicaaGreat
set_option maxRecDepth 100000
set_option maxHeartbeats 60000000
set_option linter.unusedVariables false
set_option linter.unusedSimpArgs false
set_option linter.unusedSectionVars false
section
open Go.RowKit Go.Maps
theorem growput_any (n : Nat) (hn : n <= 1000000) (w : World) :
  Calls Tryz.prog 200 #[.slice none 0 0, .int .i64 n] w fun e w' => ∃ v, e = .returned v /\ OwnN w 45 2 0 [] v w' /\ Tch No w w' := by
 by_cases h0 : n = 0
 ·subst h0
  go_enter Tryz.func200, Tryz.ntmps200
  go_wp2_with fail
  go_ret
  exact ⟨_, rfl, ⟨own_nil _ _ _, fun b hb => by simp [Value.ownBlock] at hb⟩, Tch.refl _ _⟩
 ·obtain ⟨i0, hi0, hz0, hzs, hzb⟩ := info_parts (show (Tryz.prog.info? 45).map (fun i => (i.zero, i.size, i.bytes)) = some (some (Value.agg #[.string ⟨#[]⟩, .string ⟨#[]⟩]), 2, 32) by kernel_rfl)
  have hrz := fun ty => Lib.run_append_nil_zeros (P := Tryz.prog) w 35 3 ty 45 i0 (Value.agg #[.string ⟨#[]⟩, .string ⟨#[]⟩]) .i64 .i64 eltPut.und Tryz.underlying3 hi0 hz0 n (by omega) (by omega) (by omega) (by rw [hzb]; omega)
  have hg := grownCap_ge w n 0 45
  have hgm := grownCap_le_maxLen w n 0 45 (by unfold maxLen; omega)
  obtain ⟨G, hG⟩ : ∃ G, grownCap w n 0 45 = G := ⟨_, rfl⟩
  rw [hG] at hg hgm
  simp only [hG] at hrz
  obtain ⟨ROW, hROW⟩ : ∃ R, Builtin.zeroCells (Value.agg #[.string ⟨#[]⟩, .string ⟨#[]⟩]).cells n ++ Builtin.zeroCells (Value.agg #[.string ⟨#[]⟩, .string ⟨#[]⟩]).cells (G - n) = R := ⟨_, rfl⟩
  have hRl : ROW.size = G * 2 := by
   rw [<- hROW]
   simp only [Array.size_append, Builtin.zeroCells, Array.size_map, Array.size_range, Value.cells, List.size_toArray, List.length_cons, List.length_nil]
   omega
  simp only [hROW] at hrz
  have hG63 : G <= 9223372036854775807 := by unfold maxLen at hgm; omega
  have hn0 : (0 : Int) < (n : Int) := by omega
  clear hROW hG hi0 hz0 hzs hzb
  go_enter Tryz.func200, Tryz.ntmps200
  go_wp2_with (at_builtin; refine Lib.wpList_append_run _ rfl _ _ _ _ rfl _ _ rfl rfl _ _ (hrz _) ?_)
  go_ret
  refine ⟨_, rfl, ⟨own_mk (xs := []) (n := 0) (by simp) (blk_new w.drew _) (Nat.zero_le _) hgm hRl (fun t ht => by omega), fun b hb => ?_⟩, (Tch.drew w).trans0 (Tch.alloc _ _)⟩
  have hb' : w.heap.size = b := by simpa [Value.ownBlock] using hb
  omega
theorem concat2_any (l1 l2 : List PutM) (v1 v2 : Value) (sb : Nat) (w : World) (h1 : IsPuts w v1 l1) (h2 : IsPuts w v2 l2) (hb : w.heap[sb]? = some (.cells #[v1, v2] 35 (0, 0))) (hn1 : l1.length <= 400000) (hn2 : l2.length <= 400000) :
  Calls Tryz.prog 162 #[.slice (some ⟨sb, 0, none⟩) 2 2] w fun e w' => ∃ v, e = .returned v /\ OwnN w 45 2 (l1.length + l2.length) ((l1 ++ l2).flatMap encPut) v w' /\ Tch No w w' := by
 obtain ⟨a1, c1, rfl, _, _⟩ := CellsAt.shape h1
 obtain ⟨a2, c2, rfl, _, _⟩ := CellsAt.shape h2
 have H1 := Lib.hid h1
 have H2 := Lib.hid h2
 have HB := Lib.hid hb
 obtain ⟨n1, hl1⟩ : ∃ n, l1.length = n := ⟨_, rfl⟩
 obtain ⟨n2, hl2⟩ : ∃ n, l2.length = n := ⟨_, rfl⟩
 have HN1 := Lib.hid hl1
 have HN2 := Lib.hid hl2
 rw [hl1] at hn1 H1 HB ⊢
 rw [hl2] at hn2 H2 HB ⊢
 obtain ⟨C0, C1⟩ := kc2 HB.out
 have HG := Lib.hid (fun W => growput_any (n1 + n2) (by omega) W)
 have K1 : Hid (∀ W, Tch No w W -> CellsAt W (.slice a1 n1 c1) n1 2 (l1.flatMap encPut)) := fun W t => by
  have h := H1.out.keep t
  unfold IsPuts at h
  rw [HN1.out] at h; exact h
 have K2 : Hid (∀ W, Tch No w W -> CellsAt W (.slice a2 n2 c2) n2 2 (l2.flatMap encPut)) := fun W t => by
  have h := H2.out.keep t
  unfold IsPuts at h
  rw [HN2.out] at h; exact h
 clear h1 h2 hb hl1 hl2
 go_enter Tryz.func162, Tryz.ntmps162
 go_wp2_with fail
 go_loopg [3, 11] 2 (fun kx s3 s11 wr => wr = w /\ ((kx ≥ 2 /\ s11 = .int .i64 0 /\ s3 = .int .i64 0) ∨ (kx ≥ 1 /\ s11 = .int .i64 1 /\ s3 = .int .i64 n1) ∨ (s11 = .int .i64 2 /\ s3 = .int .i64 ((n1 + n2 : Nat) : Int))))
 case atStart => exact ⟨rfl, .inl ⟨Nat.le_refl _, rfl, rfl⟩⟩
 case round =>
  obtain ⟨rfl, hrel⟩ := hrel
  rcases hrel with ⟨hk, rfl, rfl⟩ | ⟨hk, rfl, rfl⟩ | ⟨rfl, rfl⟩
  ·go_wp2_with fail
   go_roundg 1
   case measure => omega
   case rel => exact ⟨rfl, .inr (.inl ⟨Nat.le_refl _, rfl, by go_num⟩)⟩
  ·go_wp2_with fail
   go_roundg 0
   case measure => omega
   case rel => exact ⟨rfl, .inr (.inr ⟨rfl, by go_num⟩)⟩
  ·go_wp2_with fail
   refine (HG.out _).mono ?_
   rintro e w1 ⟨v3, rfl, O1, T1⟩
   have OO1 := Lib.hid O1
   have TT1 := Lib.hid T1
   have D0 := T1.cell C0 (fun h => h)
   have D1 := T1.cell C1 (fun h => h)
   clear O1 T1
   go_wp2_with fail
   go_loopg [6, 27] 2 (fun kx s6 s27 wk => ∃ l : List PutM, ((kx ≥ 2 /\ s27 = .int .i64 0 /\ l = []) ∨ (kx ≥ 1 /\ s27 = .int .i64 1 /\ l = l1) ∨ (s27 = .int .i64 2 /\ l = l1 ++ l2)) /\ Hid (OwnN wr 45 2 l.length (l.flatMap encPut) s6 wk) /\ Hid (Tch No wr wk))
   case atStart => exact ⟨[], .inl ⟨Nat.le_refl _, rfl, rfl⟩, OO1.out, TT1.out⟩
   case round =>
    obtain ⟨l, hk, OW, TW⟩ := hrel
    have E0 := TW.out.cell C0 (fun h => h)
    have E1 := TW.out.cell C1 (fun h => h)
    rcases hk with ⟨hk, rfl, rfl⟩ | ⟨hk, rfl, rfl⟩ | ⟨rfl, rfl⟩
    ·go_wp2_with (at_builtin; go_must (refine wpList_appE eltPut _ rfl _ _ rfl _ _ _ rfl OW.out.1 _ n1 _ rfl (K1.out _ TW.out) (ones_flat ones_put _) (by have g1 := HN1.out; have g2 := HN2.out; first | omega | (simp only [List.length_nil]; omega)) ?_); rintro a' n' cap' w' HA hn')
     go_roundg 1
     case measure => omega
     case rel =>
      have hO := HA.on TW.out OW.out.2
      refine ⟨l1, .inr (.inl ⟨Nat.le_refl _, rfl, rfl⟩), ⟨?_, hO.2⟩, hO.1⟩
      have h := HA.own
      have hnn : n' = _ := hn'
      subst hnn
      rw [HN1.out]; simpa using h
    ·go_wp2_with (at_builtin; go_must (refine wpList_appE eltPut _ rfl _ _ rfl _ _ _ rfl OW.out.1 _ n2 _ rfl (K2.out _ TW.out) (ones_flat ones_put _) (by have g1 := HN1.out; have g2 := HN2.out; first | omega | (simp only [List.length_nil]; omega)) ?_); rintro a' n' cap' w' HA hn')
     go_roundg 0
     case measure => omega
     case rel =>
      have hO := HA.on TW.out OW.out.2
      refine ⟨l ++ l2, .inr (.inr ⟨rfl, rfl⟩), ⟨?_, hO.2⟩, hO.1⟩
      have h := HA.own
      have hnn : n' = _ := hn'
      subst hnn
      rw [List.length_append, HN2.out, List.flatMap_append]; exact h
    ·go_wp2_with fail
     go_ret
     refine ⟨_, rfl, ⟨?_, OW.out.2⟩, TW.out⟩
     have h := OW.out.1
     rw [List.length_append, HN1.out, HN2.out] at h
     exact h
end
section
open Go.RowKit Go.Maps
def moreM (more : List PutM) (l : List BrM) : List PutM := more ++ l.flatMap (·.puts)
def namesM (s : StM) (more : List PutM) : List Txt := s.ms.map (·.q) ++ (moreM more s.waits).map (·.q)
theorem moreM_take (more : List PutM) (l : List BrM) {k : Nat} (h : k < l.length) : moreM more (l.take (k + 1)) = moreM more (l.take k) ++ l[k].puts := by
 unfold moreM
 rw [take_snoc h, List.flatMap_append, List.append_assoc]; simp
theorem moreM_le (more : List PutM) (l : List BrM) (k : Nat) : (moreM more (l.take k)).length <= (moreM more l).length := by
 have : moreM more l = moreM more (l.take k) ++ (l.drop k).flatMap (·.puts) := by
  unfold moreM
  rw [List.append_assoc, <- List.flatMap_append, List.take_append_drop]
 rw [this, List.length_append]; omega
theorem puts_le (more : List PutM) (l : List BrM) {k : Nat} (h : k < l.length) : l[k].puts.length <= (moreM more l).length := by
 have h1 := moreM_take more l h
 have h2 := moreM_le more l (k + 1)
 rw [h1, List.length_append] at h2; omega
theorem onames_any (s : StM) (more : List PutM) (hn : s.ms.length <= 100000) (hnw : s.waits.length <= 100000) (hmo : (moreM more s.waits).length <= 100000) (v vp : Value) (w : World) (h : IsSt w v s) (hp : IsPuts w vp more) :
  Calls Tryz.prog 93 #[v, vp] w fun e w' => ∃ v', e = .returned v' /\ OwnN w 9 1 (namesM s more).length ((namesM s more).map strV) v' w' /\ Tch No w w' := by
 obtain ⟨vm, vw, ve, vo, vn, rfl, hm, hw, he, ho, hno⟩ := h
 obtain ⟨ma, mc, rfl, _, _⟩ := CellsAt.shape hm
 obtain ⟨prb, hmb, hcb, hib⟩ := brs_pairs.1 hw
 obtain ⟨wa, wk, rfl, _, _⟩ := hw.shape
 obtain ⟨ea, ec, rfl, _, _⟩ := CellsAt.shape he
 obtain ⟨oa, oc, rfl, _, _⟩ := ho.shape
 obtain ⟨na, nc, rfl, _, _⟩ := hno.shape
 obtain ⟨pa, pc, rfl, _, _⟩ := CellsAt.shape hp
 have HM := Lib.hid hm
 have HP := Lib.hid hp
 obtain ⟨brk, nid, nseq, tx, ms, waits, ends, opens, noes⟩ := s
 simp only at hn hnw hmo HM hmb hcb ⊢
 have hlb : prb.length = waits.length := by rw [<- hmb, List.length_map]
 have HMB := Lib.hid hmb
 have HCB := Lib.hid hcb
 have HIB := Lib.hid hib
 have HLB := Lib.hid hlb
 have HMO := Lib.hid hmo
 clear hm hw he ho hno hp hmb hcb hib hlb hmo
 unfold namesM
 simp only
 obtain ⟨nm, hnm⟩ : ∃ n, ms.length = n := ⟨_, rfl⟩
 obtain ⟨nw, hnw'⟩ : ∃ n, waits.length = n := ⟨_, rfl⟩
 obtain ⟨np, hnp⟩ : ∃ n, more.length = n := ⟨_, rfl⟩
 have HNM := Lib.hid hnm
 have HNW := Lib.hid hnw'
 have HNP := Lib.hid hnp
 rw [hnm] at hn HM ⊢
 rw [hnw'] at HLB hnw ⊢
 rw [hnp] at HP ⊢
 clear hnm hnw' hnp
 obtain ⟨bs, hbs⟩ : ∃ x, w.heap.size = x := ⟨_, rfl⟩
 obtain ⟨w1, hw1⟩ : ∃ x, w.alloc (.cells #[.int .i64 brk, .int .i64 nid, .int .i64 nseq, .int .i64 tx, .slice ma nm mc, .slice wa nw wk, .slice ea ends.length ec, .slice oa opens.length oc, .slice na noes.length nc] 27) = x := ⟨_, rfl⟩
 have HB1 : Hid (w1.heap[bs]? = some (.cells #[.int .i64 brk, .int .i64 nid, .int .i64 nseq, .int .i64 tx, .slice ma nm mc, .slice wa nw wk, .slice ea ends.length ec, .slice oa opens.length oc, .slice na noes.length nc] 27 (0, 0))) := by rw [Hid, <- hw1, <- hbs]; exact blk_new w _
 have TW1 : Hid (Tch No w w1) := by rw [Hid, <- hw1]; exact Tch.alloc _ _
 have b4 : w1.cell? ⟨bs, 4, none⟩ = some (.slice ma nm mc) := (blk_cell HB1.out 4).trans rfl
 go_enter Tryz.func93, Tryz.ntmps93
 go_wp2_with fail
 clear hbs hw1 b4
 go_loopg [5, 15] nm (fun kx s5 s15 wr => ∃ k : Nat, s15 = .int .i64 k /\ k <= nm /\ nm - k <= kx /\ Hid (OwnN w1 9 1 k (((ms.take k).map (·.q)).map strV) s5 wr) /\ Hid (Tch No w1 wr))
 case atStart => exact ⟨0, rfl, Nat.zero_le _, by omega, ⟨own_nil _ _ _, fun b hb => by simp [Value.ownBlock] at hb⟩, Tch.refl _ _⟩
 case round =>
  obtain ⟨k, rfl, hk, hgk, HOW, TT⟩ := hrel
  have TWr : Hid (Tch No w wr) := TW1.out.trans0 TT.out
  by_cases hlt : k < nm
  ·have hkl : k < ms.length := by rw [HNM.out]; exact hlt
   have hb : ∃ b o, ma = some ⟨b, o, none⟩ /\ wr.cell? ⟨b, o + k * 6, none⟩ = some (.int .i64 ms[k].id) /\ wr.cell? ⟨b, o + k * 6 + 1, none⟩ = some (strV ms[k].q) /\ wr.cell? ⟨b, o + k * 6 + 2, none⟩ = some (strV ms[k].b) /\ wr.cell? ⟨b, o + k * 6 + 3, none⟩ = some (.int .i64 ms[k].seq) /\ wr.cell? ⟨b, o + k * 6 + 4, none⟩ = some (.int .i64 ms[k].cnt) /\ wr.cell? ⟨b, o + k * 6 + 5, none⟩ = some (.int .i64 ms[k].who) := by
    have hm := HM.out
    rw [<- HNM.out] at hm
    obtain ⟨b, o, cap2, h1, h2⟩ := CellsAt.elem (enc := encMsg) (m := 6) (fun _ => rfl) hm hkl
    injection h1 with h1 _ _
    exact ⟨b, o, h1, TWr.out.cell (h2 0 _ (by decide) rfl) (fun h => h), TWr.out.cell (h2 1 _ (by decide) rfl) (fun h => h), TWr.out.cell (h2 2 _ (by decide) rfl) (fun h => h), TWr.out.cell (h2 3 _ (by decide) rfl) (fun h => h), TWr.out.cell (h2 4 _ (by decide) rfl) (fun h => h), TWr.out.cell (h2 5 _ (by decide) rfl) (fun h => h)⟩
   obtain ⟨b, o, rfl, e0, e1, e2, e3, e4, e5⟩ := hb
   have HSN : Hid (((ms.take (k + 1)).map (·.q)).map strV = ((ms.take k).map (·.q)).map strV ++ [strV ms[k].q]) := by rw [Hid, take_snoc hkl, List.map_append, List.map_append]; rfl
   obtain ⟨m, hmk⟩ : ∃ m, ms[k] = m := ⟨_, rfl⟩
   rw [hmk] at HSN e0 e1 e2 e3 e4 e5
   clear hmk
   obtain ⟨x0, x1, x2, x3, x4, x5⟩ := m
   simp only [strV] at e1 e2
   simp only at HSN e0 e3 e4 e5
   obtain ⟨q1, hq1⟩ : ∃ q : ByteArray, (⟨x1.toArray⟩ : ByteArray) = q := ⟨_, rfl⟩
   obtain ⟨q2, hq2⟩ : ∃ q : ByteArray, (⟨x2.toArray⟩ : ByteArray) = q := ⟨_, rfl⟩
   have HQ : Hid (strV x1 = .string q1) := by rw [Hid, strV, hq1]
   rw [HQ.out] at HSN
   rw [hq1] at e1
   rw [hq2] at e2
   clear hq1 hq2
   have HAP : Hid (∀ W, Tch No wr W -> OwnN w1 9 1 k (((ms.take k).map (·.q)).map strV) u5 W) := fun W t => stb_own _ _ _ t HOW.out
   go_wp2_with (at_builtin; refine wpList_appE eltStr _ rfl _ _ rfl _ _ _ rfl (HAP.out _ ((Tch.alloc _ _).trans0 (Tch.alloc _ _))).1 _ 1 [.string q1] rfl (cells_lit2 (by simp) _ _ 1 _ rfl rfl) (fun u hu => by simp only [List.mem_cons, List.not_mem_nil, or_false] at hu; rw [hu]; rfl) (by omega) ?_; rintro a' n' cap' w' HA hn')
   go_roundg (nm - (k + 1))
   case measure => omega
   case rel =>
    have hO := HA.on (TT.out.trans0 ((Tch.alloc _ _).trans0 (Tch.alloc _ _))) HOW.out.2
    have h := HA.own
    have hnn : n' = k + 1 := hn'
    subst hnn
    exact ⟨k + 1, by go_num, by omega, by omega, ⟨by rw [HSN.out]; exact h, hO.2⟩, hO.1⟩
  ·obtain rfl : k = nm := by omega
   clear hlt
   have HQS : Hid (((ms.take k).map (·.q)).map strV = (ms.map (·.q)).map strV) := by rw [Hid, <- HNM.out, List.take_length]
   rw [HQS.out] at HOW
   have b5 : wr.cell? ⟨bs, 5, none⟩ = some (.slice wa nw wk) := TT.out.cell ((blk_cell HB1.out 5).trans rfl) (fun h => h)
   obtain ⟨wA, hwA⟩ : ∃ x, x = wr := ⟨wr, rfl⟩
   subst hwA
   have HPW : Hid (∀ W2, Tch (fun q => w1.heap.size <= q /\ q < wA.heap.size) wA W2 -> CellsAt W2 (.slice pa np pc) (moreM more (waits.take 0)).length 2 ((moreM more (waits.take 0)).flatMap encPut)) := fun W2 t => by
    have h := HP.out.keep (TWr.out.fresh t (fun q hq => Nat.le_trans TW1.out.size hq.1))
    unfold IsPuts at h
    simpa [moreM, HNP.out] using h
   have HWA : Hid (w1.heap.size <= wA.heap.size /\ ∀ q, Value.ownBlock u5 = some q -> q < wA.heap.size) := ⟨TT.out.size, fun q hq => (HOW.out.1.lt q hq).2⟩
   go_wp2_with fail
   go_loopg [1, 28] nw (fun kx s1 s28 wr => ∃ j : Nat, s28 = .int .i64 j /\ j <= nw /\ nw - j <= kx /\ Hid (∀ W2, Tch (fun q => w1.heap.size <= q /\ q < wA.heap.size) wr W2 -> CellsAt W2 s1 (moreM more (waits.take j)).length 2 ((moreM more (waits.take j)).flatMap encPut)) /\ Hid (wA.heap.size <= wr.heap.size) /\ Hid (Tch No w1 wr) /\ Hid (OwnN w1 9 1 k ((ms.map (·.q)).map strV) u5 wr))
   case atStart => exact ⟨0, rfl, Nat.zero_le _, by omega, HPW.out, Nat.le_refl _, TT.out, HOW.out⟩
   case round =>
    clear HOW TT TWr b5 HPW
    obtain ⟨j, rfl, hj, hgj, HC, HGE, TT, HOW⟩ := hrel
    have TWr : Hid (Tch No w wr) := TW1.out.trans0 TT.out
    by_cases hlt : j < nw
    ·have hjl : j < waits.length := by rw [HNW.out]; exact hlt
     have hjb : j < prb.length := by rw [HLB.out]; exact hlt
     have hpr : prb[j].1 = waits[j] := by
      have e : (prb.map Prod.fst)[j]'(by rw [List.length_map]; omega) = waits[j] := by simp only [HMB.out]
      rw [<- e, List.getElem_map]
     have hpu : IsPuts w prb[j].2 waits[j].puts := by rw [<- hpr]; exact HIB.out _ (List.getElem_mem _)
     have hex : ∃ b o, wa = some ⟨b, o, none⟩ /\ w.cell? ⟨b, o + j * 2, none⟩ = some (.int .i64 prb[j].1.tid) /\ w.cell? ⟨b, o + j * 2 + 1, none⟩ = some prb[j].2 := by
      have hcb := HCB.out
      unfold IsL at hcb
      have hw' := HNW.out
      rcases hcb.2 with ⟨h1, h0⟩ | ⟨b, o, cap2, h1, _, _, _, h5⟩
      ·omega
      ·injection h1 with h1 _ _
       refine ⟨b, o, h1, ?_, ?_⟩
       ·have := h5 (j * 2 + 0) _ (flat_get (encPr (fun q : BrM => q.tid)) 2 (fun _ => rfl) prb j 0 hjb (by decide))
        simpa using this
       ·have := h5 (j * 2 + 1) _ (flat_get (encPr (fun q : BrM => q.tid)) 2 (fun _ => rfl) prb j 1 hjb (by decide))
        rwa [<- Nat.add_assoc] at this
     obtain ⟨b, o, rfl, e0, e1⟩ := hex
     have hbl := puts_le more waits hjl
     have HMT : Hid (moreM more (waits.take (j + 1)) = moreM more (waits.take j) ++ waits[j].puts) := moreM_take more waits hjl
     obtain ⟨pl, hpl⟩ : ∃ x, waits[j].puts = x := ⟨_, rfl⟩
     rw [hpl] at hpu hbl HMT
     obtain ⟨pv, hpv⟩ : ∃ x, prb[j].2 = x := ⟨_, rfl⟩
     rw [hpv] at hpu e1
     obtain ⟨ya, yc, rfl, _, _⟩ := CellsAt.shape hpu
     obtain ⟨bt, hbt⟩ : ∃ x, prb[j].1.tid = x := ⟨_, rfl⟩
     rw [hbt] at e0
     have f0 := TWr.out.cell e0 (fun h => h)
     have f1 := TWr.out.cell e1 (fun h => h)
     have HPU := Lib.hid hpu
     have HBL : Hid (pl.length <= 100000) := Nat.le_trans hbl HMO.out
     have HML : Hid ((moreM more (waits.take j)).length <= 100000) := Nat.le_trans (moreM_le more waits j) HMO.out
     clear hpr hpu hbl hpl hpv hbt e0 e1
     obtain ⟨mj, hmj⟩ : ∃ x, moreM more (waits.take j) = x := ⟨_, rfl⟩
     rw [hmj] at HC HMT HML
     clear hmj
     obtain ⟨ua, uc, rfl, _, _⟩ := CellsAt.shape (HC.out _ (Tch.refl _ _))
     have HCO := Lib.hid (fun W (t : Tch No wr W) sb (hb : W.heap[sb]? = some (.cells #[.slice ua mj.length uc, .slice ya pl.length yc] 35 (0, 0))) => concat2_any mj pl (.slice ua mj.length uc) (.slice ya pl.length yc) sb W (HC.out W t.no) (HPU.out.keep (TWr.out.trans0 t)) hb (by have := HML.out; omega) (by have := HBL.out; omega))
     go_wp2_with fail
     refine (HCO.out _ ((Tch.alloc _ _).trans0 (Tch.alloc _ _)) (wr.heap.size + 1) ?_).mono ?_
     ·have := blk_new (wr.alloc (.cells #[.int .i64 bt, .slice ya pl.length yc] 74)) (.cells #[.slice ua mj.length uc, .slice ya pl.length yc] 35)
      simpa using this
     rintro e w5 ⟨v5, rfl, O5, T5⟩
     have OO5 := Lib.hid O5
     have TT5 := Lib.hid ((Tch.alloc wr (.cells #[.int .i64 bt, .slice ya pl.length yc] 74)).trans0 ((Tch.alloc _ (.cells #[.slice ua mj.length uc, .slice ya pl.length yc] 35)).trans0 T5))
     clear O5 T5
     go_wp2_with fail
     go_roundg (nw - (j + 1))
     case measure => omega
     case rel => exact ⟨j + 1, by go_num, by omega, by omega, fun W2 t2 => by rw [HMT.out, List.length_append]; exact CellsAt.ofRow (own_tch OO5.out.1 t2 (fun q hq e => by have g1 := OO5.out.2 q hq; have g2 := HGE.out; have g3 := (Tch.alloc wr (.cells #[.int .i64 bt, .slice ya pl.length yc] 74)).size; have g4 := (Tch.alloc (wr.alloc (.cells #[.int .i64 bt, .slice ya pl.length yc] 74)) (.cells #[.slice ua mj.length uc, .slice ya pl.length yc] 35)).size; omega)), Nat.le_trans HGE.out TT5.out.size, TT.out.trans0 TT5.out, stb_own _ _ _ TT5.out HOW.out⟩
    ·obtain rfl : j = nw := by omega
     have HALL : Hid (moreM more (waits.take j) = moreM more waits) := by rw [Hid, <- HNW.out, List.take_length]
     rw [HALL.out] at HC
     obtain ⟨mm, hmm⟩ : ∃ x, moreM more waits = x := ⟨_, rfl⟩
     have HMM := Lib.hid hmm
     rw [hmm] at HC HMO
     obtain ⟨nn, hnn⟩ : ∃ x, mm.length = x := ⟨_, rfl⟩
     have HNN := Lib.hid hnn
     rw [hnn] at HC
     have hnn2 : nn <= 100000 := by rw [<- hnn]; exact HMO.out
     clear hmm hnn
     obtain ⟨ua, uc, rfl, _, _⟩ := CellsAt.shape (HC.out _ (Tch.refl _ _))
     obtain ⟨w2, hw2⟩ : ∃ x, x = wr := ⟨wr, rfl⟩
     subst hw2
     go_wp2_with fail
     go_loopg [5, 40] nn (fun kx s5 s40 wq => ∃ i : Nat, s40 = .int .i64 i /\ i <= nn /\ nn - i <= kx /\ Hid (OwnN w1 9 1 (k + i) ((ms.map (·.q)).map strV ++ ((mm.take i).map (·.q)).map strV) s5 wq) /\ Hid (∀ q, Value.ownBlock s5 = some q -> q < wA.heap.size ∨ w2.heap.size <= q) /\ Hid (Tch (fun q => w1.heap.size <= q /\ q < wA.heap.size) w2 wq) /\ Hid (Tch No w1 wq))
     case atStart => exact ⟨0, rfl, Nat.zero_le _, by omega, by simpa [Hid] using HOW.out, fun q hq => .inl (HWA.out.2 q hq), Tch.refl _ _, TT.out⟩
     case round =>
      obtain ⟨i, rfl, hi, hgi, HOW, HLC, TQ, TQ1⟩ := hrel
      have TWr : Hid (Tch No w wr) := TW1.out.trans0 TQ1.out
      by_cases hlt2 : i < nn
      ·have hil : i < mm.length := by rw [HNN.out]; exact hlt2
       have hex : ∃ b o, ua = some ⟨b, o, none⟩ /\ wr.cell? ⟨b, o + i * 2, none⟩ = some (strV mm[i].q) /\ wr.cell? ⟨b, o + i * 2 + 1, none⟩ = some (strV mm[i].b) := by
        have hC2 := HC.out wr TQ.out
        rcases hC2.2 with ⟨_, h0⟩ | ⟨b, o, cap2, h1, _, _, _, h5⟩
        ·omega
        ·injection h1 with h1 _ _
         refine ⟨b, o, h1, ?_, ?_⟩
         ·have := h5 (i * 2 + 0) _ (flat_get encPut 2 (fun _ => rfl) mm i 0 hil (by decide))
          simpa using this
         ·have := h5 (i * 2 + 1) _ (flat_get encPut 2 (fun _ => rfl) mm i 1 hil (by decide))
          rw [<- Nat.add_assoc] at this
          exact this
       obtain ⟨b, o, rfl, e0, e1⟩ := hex
       have HSN : Hid (((mm.take (i + 1)).map (·.q)).map strV = ((mm.take i).map (·.q)).map strV ++ [strV mm[i].q]) := by rw [Hid, take_snoc hil, List.map_append, List.map_append]; rfl
       obtain ⟨p, hpi⟩ : ∃ p, mm[i] = p := ⟨_, rfl⟩
       rw [hpi] at HSN e0 e1
       clear hpi
       obtain ⟨x1, x2⟩ := p
       simp only [strV] at e0 e1
       simp only at HSN
       obtain ⟨q1, hq1⟩ : ∃ q : ByteArray, (⟨x1.toArray⟩ : ByteArray) = q := ⟨_, rfl⟩
       obtain ⟨q2, hq2⟩ : ∃ q : ByteArray, (⟨x2.toArray⟩ : ByteArray) = q := ⟨_, rfl⟩
       have HQ : Hid (strV x1 = .string q1) := by rw [Hid, strV, hq1]
       rw [HQ.out] at HSN
       rw [hq1] at e0
       rw [hq2] at e1
       clear hq1 hq2
       have HAP : Hid (∀ W, Tch No wr W -> OwnN w1 9 1 (k + i) ((ms.map (·.q)).map strV ++ ((mm.take i).map (·.q)).map strV) u5 W) := fun W t => stb_own _ _ _ t HOW.out
       go_wp2_with (at_builtin; refine wpList_appE eltStr _ rfl _ _ rfl _ _ _ rfl (HAP.out _ ((Tch.alloc _ _).trans0 (Tch.alloc _ _))).1 _ 1 [.string q1] rfl (cells_lit2 (by simp) _ _ 1 _ rfl rfl) (fun u hu => by simp only [List.mem_cons, List.not_mem_nil, or_false] at hu; rw [hu]; rfl) (by omega) ?_; rintro a' n' cap' w' HA hn')
       go_roundg (nn - (i + 1))
       case measure => omega
       case rel =>
        have hO := HA.on (TQ1.out.trans0 ((Tch.alloc _ _).trans0 (Tch.alloc _ _))) HOW.out.2
        have h := HA.own
        have hnn' : n' = k + i + 1 := hn'
        subst hnn'
        have hG : Tch (fun q => w1.heap.size <= q /\ q < wA.heap.size) w2 w' := (TQ.out.trans0 ((Tch.alloc _ _).trans0 (Tch.alloc _ _))).trans (Tch.grown (F := fun q => Value.ownBlock u5 = some q) HA.grow (fun q hq _ => hq)) (fun q hq e => by
         have g1 := HOW.out.2 q e
         rcases HLC.out q e with g2 | g2
         ·exact ⟨g1, g2⟩
         ·omega)
        have hL : ∀ q, Value.ownBlock (.slice a' (k + i + 1) cap') = some q -> q < wA.heap.size ∨ w2.heap.size <= q := fun q hq => by
         rcases HA.loc with e1 | e1
         ·rw [e1] at hq; exact HLC.out q hq
         ·rw [e1] at hq
          have g1 := TQ.out.size
          simp at hq
          right; omega
        exact ⟨i + 1, by go_num, by omega, by omega, ⟨by rw [HSN.out, <- List.append_assoc]; exact h, hO.2⟩, hL, hG, hO.1⟩
      ·obtain rfl : i = nn := by omega
       clear hlt2
       go_wp2_with fail
       go_ret
       refine ⟨_, rfl, ⟨?_, fun q hq => Nat.le_trans TW1.out.size (HOW.out.2 q hq)⟩, TWr.out⟩
       have h := HOW.out.1
       rw [<- HNN.out, List.take_length] at h
       rw [HMM.out, List.map_append, List.length_append, List.length_map, List.length_map, HNM.out]
       exact h
end
end Go.Proofs.YtelaljoebdpicaaGreat
