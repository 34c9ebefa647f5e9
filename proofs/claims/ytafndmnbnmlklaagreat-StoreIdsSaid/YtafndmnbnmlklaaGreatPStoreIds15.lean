/- Part 15 of what the proof of StoreIds rests on. No condition. -/
import Derived.Lib.Strings
import Derived.Test.YtafndmnbnmlklaaGreatPStoreIds02
import Derived.Test.YtafndmnbnmlklaaGreatPStoreIds07
import Derived.Test.YtafndmnbnmlklaaGreatPStoreIds09
import Derived.Test.YtafndmnbnmlklaaGreatPStoreIds10
import Derived.Test.YtafndmnbnmlklaaGreatPStoreIds11
import Derived.Test.YtafndmnbnmlklaaGreatPStoreIds13
import Derived.Test.YtafndmnbnmlklaaGreatPStoreIds14
namespace Go.Proofs.YtafndmnbnmlklaaGreat
set_option maxRecDepth 100000
set_option maxHeartbeats 60000000
set_option linter.unusedVariables false
set_option linter.unusedSimpArgs false
set_option linter.unusedSectionVars false
section
open Go.RowKit Go.Maps
theorem set6e {W : World} {b : Nat} {T : TypeId} {c0 c1 c2 c3 c4 c5 : Value} (v0 v1 v2 v3 v4 v5 : Value) (h : W.heap[b]? = some (.cells #[c0, c1, c2, c3, c4, c5] T (0, 0))) :
  ((((((W.setCell ⟨b, 0, none⟩ v0).setCell ⟨b, 1, none⟩ v1).setCell ⟨b, 2, none⟩ v2).setCell ⟨b, 3, none⟩ v3).setCell ⟨b, 4, none⟩ v4).setCell ⟨b, 5, none⟩ v5).heap[b]? = some (.cells #[v0, v1, v2, v3, v4, v5] T (0, 0)) /\ Tch (fun k => k = b) W ((((((W.setCell ⟨b, 0, none⟩ v0).setCell ⟨b, 1, none⟩ v1).setCell ⟨b, 2, none⟩ v2).setCell ⟨b, 3, none⟩ v3).setCell ⟨b, 4, none⟩ v4).setCell ⟨b, 5, none⟩ v5) :=
 ⟨by simpa using blk_set (blk_set (blk_set (blk_set (blk_set (blk_set h 0 v0) 1 v1) 2 v2) 3 v3) 4 v4) 5 v5, Tch.setCells (F := fun k => k = b) (b := b) rfl [v0, v1, v2, v3, v4, v5] 0 W⟩
theorem kx6 {W : World} {b : Nat} {T : TypeId} {c0 c1 c2 c3 c4 c5 : Value} (v0 v1 v2 v3 v4 v5 : Value) (h : W.heap[b]? = some (.cells #[c0, c1, c2, c3, c4, c5] T (0, 0))) : ∃ X, (((((W.setCell ⟨b, 0, none⟩ v0).setCell ⟨b, 1, none⟩ v1).setCell ⟨b, 2, none⟩ v2).setCell ⟨b, 3, none⟩ v3).setCell ⟨b, 4, none⟩ v4).setCell ⟨b, 5, none⟩ v5 = X /\ Hid (X.heap[b]? = some (.cells #[v0, v1, v2, v3, v4, v5] T (0, 0))) /\ Hid (Tch (fun k => k = b) W X) := ⟨_, rfl, set6e v0 v1 v2 v3 v4 v5 h⟩
end
section
open Go.RowKit Go.Maps
theorem bytes_ext9 {a b : ByteArray} (h : a.data.toList = b.data.toList) : a = b := by
 cases a; cases b; simp at h; subst h; rfl
theorem cut_any (s : Txt) (hs : TxtL s) (k : Nat) (hk : k <= 1000) (w : World) : Calls Tryz.prog 55 #[strV s, .int .i64 k] w fun e w' => e = .returned (strV (s.take k)) /\ Tch No w w' := by
 have hl : (ByteArray.mk s.toArray).size = s.length := by simp [ByteArray.size]
 unfold TxtL at hs
 unfold strV
 have HS : Hid (∀ j, j <= s.length -> (ByteArray.mk s.toArray).extract 0 j = ByteArray.mk (s.take j).toArray) := fun j hj => bytes_ext9 (by rw [Lib.extract_data]; simp)
 by_cases hc : s.length <= k
 ·have HM : Hid (s.take k = s) := List.take_of_length_le hc
  have hs2 := HS.out s.length (Nat.le_refl _)
  rw [HM.out]
  rw [List.take_length] at hs2
  generalize ByteArray.mk s.toArray = q at hl hs2 ⊢
  have e1 : min s.length k = s.length := by omega
  go_enter Tryz.func55, Tryz.ntmps55
  go_wp2_with fail
  go_ret
  have e2 : (min (s.length : Int) (k : Int)).toNat = s.length := by omega
  exact ⟨by simp [e2, hs2], by first | exact Tch.refl _ _ | exact Tch.drew _⟩
 ·have hs2 := HS.out k (by omega)
  generalize ByteArray.mk s.toArray = q at hl hs2 ⊢
  go_enter Tryz.func55, Tryz.ntmps55
  go_wp2_with fail
  go_ret
  have e2 : (min (s.length : Int) (k : Int)).toNat = k := by omega
  exact ⟨by simp [e2, hs2], by first | exact Tch.refl _ _ | exact Tch.drew _⟩
def cutPut (p : PutM) : PutM := ⟨p.q.take 10, p.b.take 62⟩
def cutRec (r : RecM) : RecM := ⟨r.kind, r.tid, r.id, r.yes, r.parts.take 9, (r.puts.take 12).map cutPut⟩
theorem cutRec_ok {w : World} {v : Value} {r : RecM} (h : ArgRec w v r) : OkRec (cutRec r) := by
 refine ⟨h.nums.1, h.nums.2.1, h.nums.2.2, fun x hx => h.parts x (List.mem_of_mem_take hx), fun p hp => ?_⟩
 obtain ⟨q, hq, rfl⟩ := List.mem_map.1 hp
 constructor
 ·unfold OkT cutPut lim; simp only [List.length_take]; omega
 ·unfold OkT cutPut lim; simp only [List.length_take]; omega
structure RecB (w w1 : World) (b : Nat) (cur : Array Value) (W : World) : Prop where
 t : Tch No w W
 box : W.heap[b]? = some (.cells cur 34 (0, 0))
 res : W.heap[b + 1]? = some (.cells #[.int .i64 0, .int .i64 0, .int .i64 0, .bool false, .slice none 0 0, .slice none 0 0] 34 (0, 0))
 le : w1.heap.size <= W.heap.size
 bs : w.heap.size = b /\ w1.heap.size = b + 2
theorem RecB.grow {F : Nat -> Prop} {w w1 W W' : World} {b : Nat} {cur : Array Value} (h : RecB w w1 b cur W) (t : Tch F W W') (hF : ∀ k, F k -> w1.heap.size <= k) : RecB w w1 b cur W' :=
 ⟨h.t.fresh t (fun k e => by have h1 := hF k e; have h2 := h.bs; omega), blk_tch t h.box (fun e => by have h1 := hF _ e; have h2 := h.bs; omega), blk_tch t h.res (fun e => by have h1 := hF _ e; have h2 := h.bs; omega), Nat.le_trans h.le t.size, h.bs⟩
theorem RecB.keep {w w1 W W' : World} {b : Nat} {cur : Array Value} (h : RecB w w1 b cur W) (t : Tch No W W') : RecB w w1 b cur W' := h.grow t (fun _ e => e.elim)
theorem RecB.set {w w1 W : World} {b : Nat} {cur : Array Value} (h : RecB w w1 b cur W) (j : Nat) (u : Value) : RecB w w1 b (cur.setIfInBounds j u) (W.setCell ⟨b, j, none⟩ u) := by
 have t := Tch.setCell (F := fun q => q = b) W ⟨b, j, none⟩ u (fun _ => rfl)
 exact ⟨h.t.fresh t (fun k e => by have h2 := h.bs; omega), blk_set h.box j u, blk_tch t h.res (fun e => by omega), Nat.le_trans h.le t.size, h.bs⟩
def xsPut (l : List PutM) : List Value := (l.map cutPut).flatMap encPut
theorem ones_put2 (q1 q2 : ByteArray) : Ones [Value.string q1, Value.string q2] := fun u hu => by
 simp only [List.mem_cons, List.not_mem_nil, or_false] at hu
 rcases hu with rfl | rfl <;> rfl
theorem lrec_any (r : RecM) (v : Value) (w : World) (h : ArgRec w v r) :
  Calls Tryz.prog 19 #[v] w fun e w' => ∃ vp vu, e = .returned (.agg #[.int .i64 r.kind, .int .i64 r.tid, .int .i64 r.id, .bool r.yes, vp, vu]) /\ Tch No w w' /\ OwnN w 3 1 (cutRec r).parts.length ((cutRec r).parts.map fun x => .int .i64 x) vp w' /\ OwnN w 45 2 (cutRec r).puts.length ((cutRec r).puts.flatMap encPut) vu w' := by
 obtain ⟨vp, vu, rfl, hp, hu⟩ := h.ex
 obtain ⟨ap, cp, rfl, hpc, hpm⟩ := hp.shape
 obtain ⟨au, cu, rfl, huc, hum⟩ := hu.shape
 have HPU := Lib.hid h.puts
 have HP := Lib.hid hp
 have HU := Lib.hid hu
 clear h hp hu
 obtain ⟨kd, tid, id, yes, parts, puts⟩ := r
 simp only [cutRec] at HP HU HPU hpc huc ⊢
 obtain ⟨np, hnp⟩ : ∃ n, parts.length = n := ⟨_, rfl⟩
 obtain ⟨nu, hnu⟩ : ∃ n, puts.length = n := ⟨_, rfl⟩
 rw [hnp] at HP hpc ⊢
 rw [hnu] at HU huc ⊢
 have HNP := Lib.hid hnp
 have HNU := Lib.hid hnu
 have hnp2 : np <= 9223372036854775807 := by unfold maxLen at hpm; omega
 have hnu2 : nu <= 9223372036854775807 := by unfold maxLen at hum; omega
 clear hnp hnu hpc hpm huc hum
 go_enter Tryz.func19, Tryz.ntmps19
 go_upto_region 1 with fail
 obtain ⟨b1, hb1⟩ : ∃ x, w.heap.size = x := ⟨_, rfl⟩
 obtain ⟨w1, hw1, RB0⟩ : ∃ W, (w.alloc (.cells #[.int .i64 kd, .int .i64 tid, .int .i64 id, .bool yes, .slice ap np cp, .slice au nu cu] 34)).alloc (.cells #[.int .i64 0, .int .i64 0, .int .i64 0, .bool false, .slice none 0 0, .slice none 0 0] 34) = W /\ Hid (RecB w W b1 #[.int .i64 kd, .int .i64 tid, .int .i64 id, .bool yes, .slice ap np cp, .slice au nu cu] W) := by
  refine ⟨_, rfl, (Tch.alloc _ _).trans0 (Tch.alloc _ _), blk_tch (Tch.alloc _ _) (by rw [<- hb1]; exact blk_new w _) (fun h => h), ?_, Nat.le_refl _, hb1, by rw [<- hb1]; simp⟩
  have := blk_new (w.alloc (.cells #[.int .i64 kd, .int .i64 tid, .int .i64 id, .bool yes, .slice ap np cp, .slice au nu cu] 34)) (.cells #[.int .i64 0, .int .i64 0, .int .i64 0, .bool false, .slice none 0 0, .slice none 0 0] 34)
  rw [size_alloc, hb1] at this
  exact this
 rw [hw1, hb1]
 have HB1 := Lib.hid hb1
 clear hw1 hb1
 go_wp2_with fail
 go_loopg [3, 4] 12 (fun g s3 s4 wr => ∃ k : Nat, k <= 12 /\ k <= nu /\ 12 - k <= g /\ s4 = .int .i64 k /\ Hid (RecB w w1 b1 #[.int .i64 kd, .int .i64 tid, .int .i64 id, .bool yes, .slice ap np cp, .slice au nu cu] wr) /\ Hid (OwnN w1 45 2 k (xsPut (puts.take k)) s3 wr))
 case atStart => exact ⟨0, by omega, by omega, by omega, rfl, RB0, own_nil _ _ _, fun b hb => by simp [Value.ownBlock] at hb⟩
 case round =>
  clear RB0
  obtain ⟨k, hk1, hk2, hg, rfl, RB, OW⟩ := hrel
  have b5 : wr.cell? ⟨b1, 5, none⟩ = some (.slice au nu cu) := (blk_cell RB.out.box 5).trans rfl
  by_cases g1 : k < nu
  ·by_cases g2 : k < 12
   ·have hkl : k < puts.length := by rw [HNU.out]; exact g1
    have hb : ∃ b o, au = some ⟨b, o, none⟩ /\ w.cell? ⟨b, o + k * 2, none⟩ = some (strV puts[k].q) /\ w.cell? ⟨b, o + k * 2 + 1, none⟩ = some (strV puts[k].b) := by
     have hm := HU.out
     unfold LPuts at hm
     obtain ⟨b, o, cap2, h1, h2⟩ := CellsAt.elem (enc := encPut) (m := 2) (fun _ => rfl) (CellsL.at hm (by omega)) hkl
     injection h1 with h1 _ _
     exact ⟨b, o, h1, h2 0 _ (by decide) rfl, h2 1 _ (by decide) rfl⟩
    obtain ⟨b, o, rfl, e0, e1⟩ := hb
    have hpl := HPU.out _ (List.getElem_mem hkl)
    have HSN : Hid (xsPut (puts.take (k + 1)) = xsPut (puts.take k) ++ [strV (puts[k].q.take 10), strV (puts[k].b.take 62)]) := by
     rw [Hid, take_snoc hkl]; unfold xsPut; rw [List.map_append, List.flatMap_append]; rfl
    obtain ⟨p, hpj⟩ : ∃ p, puts[k] = p := ⟨_, rfl⟩
    rw [hpj] at HSN e0 e1 hpl
    clear hpj
    obtain ⟨x0, x1⟩ := p
    simp only at e0 e1 HSN hpl
    have HC1 : Hid (∀ W, Calls Tryz.prog 55 #[strV x0, .int .i64 (10 : Nat)] W fun e w' => e = .returned (strV (x0.take 10)) /\ Tch No W w') := fun W => cut_any x0 hpl.1 10 (by omega) W
    have HC2 : Hid (∀ W, Calls Tryz.prog 55 #[strV x1, .int .i64 (62 : Nat)] W fun e w' => e = .returned (strV (x1.take 62)) /\ Tch No W w') := fun W => cut_any x1 hpl.2 62 (by omega) W
    simp only [strV] at e0 e1 HSN HC1 HC2
    obtain ⟨q1, hq1⟩ : ∃ q : ByteArray, (⟨x0.toArray⟩ : ByteArray) = q := ⟨_, rfl⟩
    obtain ⟨q2, hq2⟩ : ∃ q : ByteArray, (⟨x1.toArray⟩ : ByteArray) = q := ⟨_, rfl⟩
    obtain ⟨c1, hc1⟩ : ∃ q : ByteArray, (⟨(x0.take 10).toArray⟩ : ByteArray) = q := ⟨_, rfl⟩
    obtain ⟨c2, hc2⟩ : ∃ q : ByteArray, (⟨(x1.take 62).toArray⟩ : ByteArray) = q := ⟨_, rfl⟩
    rw [hq1] at e0 HC1
    rw [hq2] at e1 HC2
    rw [hc1] at HSN HC1
    rw [hc2] at HSN HC2
    clear hq1 hq2 hc1 hc2 hpl
    have E0 := Lib.hid e0
    have E1 := Lib.hid e1
    clear e0 e1
    obtain ⟨XS, hXS⟩ : ∃ x, xsPut (puts.take k) = x := ⟨_, rfl⟩
    rw [hXS] at OW HSN
    clear hXS
    have HAP : Hid (∀ W, Tch No wr W -> OwnN w1 45 2 k XS u3 W) := fun W t => stb_own _ _ _ t OW.out
    have mixed : Tryz.prog.follows .mixedOrders = true := by kernel_rfl
    go_upto_region 5 with fail
    refine frame_var 46 rfl (fun fr hfr hsz => ?_)
    have h1 : fr.eval (.tmp 1) = .pointer (some ⟨b1, 0, none⟩) := by rw [hfr.out]; rfl
    have h3 : fr.eval (.tmp 3) = u3 := by rw [hfr.out]; rfl
    have h4 : fr.eval (.tmp 4) = .int .i64 ((k : Nat) : Int) := by rw [hfr.out]; rfl
    clear b5
    have hlist : ∀ f ∈ ([(fun x W => x = u3 /\ OwnN w1 45 2 k XS x W), (fun x _ => x = .pointer (some ⟨b1, 5, none⟩)), (fun x _ => x = .slice (some ⟨b, o, none⟩) nu cu), (fun x _ => x = .int .i64 ((k : Nat) : Int)), (fun x _ => x = .pointer (some ⟨b, o + k * 2, none⟩)), (fun x _ => x = .pointer (some ⟨b, o + k * 2, none⟩)), (fun x _ => x = .string q1), (fun x _ => x = .string c1), (fun x _ => x = .pointer (some ⟨b1, 5, none⟩)), (fun x _ => x = .slice (some ⟨b, o, none⟩) nu cu), (fun x _ => x = .int .i64 ((k : Nat) : Int)), (fun x _ => x = .pointer (some ⟨b, o + k * 2, none⟩)), (fun x _ => x = .pointer (some ⟨b, o + k * 2 + 1, none⟩)), (fun x _ => x = .string q2), (fun x _ => x = .string c2), (fun x _ => x = .agg #[.string c1, .string c2]), (SrcC 1 2 [.string c1, .string c2]), (OwnN w1 45 2 (k + 1) (XS ++ [.string c1, .string c2])), (OwnN w1 45 2 (k + 1) (XS ++ [.string c1, .string c2]))] : List (Value -> World -> Prop)), Stb f :=
     all_mem1 ((fun x w w' t h => ⟨h.1, stb_own _ _ _ t h.2⟩)) (all_mem1 ((pur_eq _).stb) (all_mem1 ((pur_eq _).stb) (all_mem1 ((pur_eq _).stb) (all_mem1 ((pur_eq _).stb) (all_mem1 ((pur_eq _).stb) (all_mem1 ((pur_eq _).stb) (all_mem1 ((pur_eq _).stb) (all_mem1 ((pur_eq _).stb) (all_mem1 ((pur_eq _).stb) (all_mem1 ((pur_eq _).stb) (all_mem1 ((pur_eq _).stb) (all_mem1 ((pur_eq _).stb) (all_mem1 ((pur_eq _).stb) (all_mem1 ((pur_eq _).stb) (all_mem1 ((pur_eq _).stb) (all_mem1 (stb_src) (all_mem1 (stb_own) (all_mem1 (stb_own) (all_mem0)))))))))))))))))))
    refine wp_region_inv2 17 (C0 := fun W => RecB w w1 b1 #[.int .i64 kd, .int .i64 tid, .int .i64 id, .bool yes, .slice ap np cp, .slice (some ⟨b, o, none⟩) nu cu] W /\ Tch No wr W) (C1 := fun W => RecB w w1 b1 #[.int .i64 kd, .int .i64 tid, .int .i64 id, .bool yes, .slice ap np cp, .slice (some ⟨b, o, none⟩) nu cu] W) (RL [(fun x W => x = u3 /\ OwnN w1 45 2 k XS x W), (fun x _ => x = .pointer (some ⟨b1, 5, none⟩)), (fun x _ => x = .slice (some ⟨b, o, none⟩) nu cu), (fun x _ => x = .int .i64 ((k : Nat) : Int)), (fun x _ => x = .pointer (some ⟨b, o + k * 2, none⟩)), (fun x _ => x = .pointer (some ⟨b, o + k * 2, none⟩)), (fun x _ => x = .string q1), (fun x _ => x = .string c1), (fun x _ => x = .pointer (some ⟨b1, 5, none⟩)), (fun x _ => x = .slice (some ⟨b, o, none⟩) nu cu), (fun x _ => x = .int .i64 ((k : Nat) : Int)), (fun x _ => x = .pointer (some ⟨b, o + k * 2, none⟩)), (fun x _ => x = .pointer (some ⟨b, o + k * 2 + 1, none⟩)), (fun x _ => x = .string q2), (fun x _ => x = .string c2), (fun x _ => x = .agg #[.string c1, .string c2]), (SrcC 1 2 [.string c1, .string c2]), (OwnN w1 45 2 (k + 1) (XS ++ [.string c1, .string c2])), (OwnN w1 45 2 (k + 1) (XS ++ [.string c1, .string c2]))]) [0, 16, 17, 18] [16, 17, 18, 19, 20, 21, 22, 23, 24, 25, 26, 27, 28, 29, 30, 31, 32, 33, 3] [(some 16, [3], []), (some 17, [1], []), (some 18, [17], [1]), (some 19, [4], []), (some 20, [18, 19], [2, 3]), (some 21, [20], [4]), (some 22, [21], [5]), (some 23, [22], [6]), (some 24, [1], []), (some 25, [24], [8]), (some 26, [4], []), (some 27, [25, 26], [9, 10]), (some 28, [27], [11]), (some 29, [28], [12]), (some 30, [29], [13, 7]), (some 31, [23, 30], [7, 14]), (some 32, [31], [15]), (some 33, [16, 32], [0, 16, 14]), (some 3, [33], [17, 17, 0, 1, 2, 3, 4, 5, 6, 7, 8, 9, 10, 11, 12, 13, 14, 15, 16, 17])] (fun i => ([[], [], [1], [], [1, 2, 3], [1, 2, 3, 4], [1, 2, 3, 4, 5], [1, 2, 3, 4, 5, 6], [], [8], [], [8, 9, 10], [8, 9, 10, 11], [8, 9, 10, 11, 12], [1, 2, 3, 4, 5, 6, 7, 8, 9, 10, 11, 12, 13], [1, 2, 3, 4, 5, 6, 7, 8, 9, 10, 11, 12, 13, 14], [1, 2, 3, 4, 5, 6, 7, 8, 9, 10, 11, 12, 13, 14, 15], [0, 1, 2, 3, 4, 5, 6, 7, 8, 9, 10, 11, 12, 13, 14, 15, 16], [0, 1, 2, 3, 4, 5, 6, 7, 8, 9, 10, 11, 12, 13, 14, 15, 16, 17]][i]?).getD []) (fun i => ([[], [], [1], [], [2, 3], [4], [5], [6], [], [8], [], [9, 10], [11], [12], [13], [7, 14], [15], [0, 16], [17]][i]?).getD []) (fun i => ([[], [], [], [], [], [], [], [], [], [], [], [], [], [], [], [], [], [0, 16], []][i]?).getD []) (fun i => ([[17, 18], [16, 17, 18], [16, 17, 18], [16, 17, 18], [16, 17, 18], [16, 17, 18], [16, 17, 18], [16, 17, 18], [16, 17, 18], [16, 17, 18], [16, 17, 18], [16, 17, 18], [16, 17, 18], [16, 17, 18], [16, 17, 18], [16, 17, 18], [17, 18], [18], []][i]?).getD []) (by kernel_rfl) (by kernel_rfl) (by kernel_rfl) (by rw [hsz]; kernel_rfl) ?_ [0, 1, 2, 3, 4, 5, 6, 7, 8, 9, 10, 11, 12, 13, 14, 15, 16] [18] [3] (by kernel_rfl) (rl_pur ?_) ?_ ?_ ?_ ?_
    ·exact ⟨RB.out.keep (Tch.drew _), Tch.drew _⟩
    ·show ∀ j, j < 19 -> _ ∨ _
     refine all_lt1 (all_lt1 (all_lt1 (all_lt1 (all_lt1 (all_lt1 (all_lt1 (all_lt1 (all_lt1 (all_lt1 (all_lt1 (all_lt1 (all_lt1 (all_lt1 (all_lt1 (all_lt1 (all_lt1 (all_lt1 (all_lt1 (all_lt0) (Or.inl (by decide))) (Or.inr (pur_eq _))) (Or.inr (pur_eq _))) (Or.inr (pur_eq _))) (Or.inr (pur_eq _))) (Or.inr (pur_eq _))) (Or.inr (pur_eq _))) (Or.inr (pur_eq _))) (Or.inr (pur_eq _))) (Or.inr (pur_eq _))) (Or.inr (pur_eq _))) (Or.inr (pur_eq _))) (Or.inr (pur_eq _))) (Or.inr (pur_eq _))) (Or.inr (pur_eq _))) (Or.inr (pur_eq _))) (Or.inl (by decide))) (Or.inl (by decide))) (Or.inl (by decide))
    ·intro i hi him
     have him2 : i = 0 ∨ i = 1 ∨ i = 2 ∨ i = 3 ∨ i = 4 ∨ i = 5 ∨ i = 6 ∨ i = 7 ∨ i = 8 ∨ i = 9 ∨ i = 10 ∨ i = 11 ∨ i = 12 ∨ i = 13 ∨ i = 14 ∨ i = 15 ∨ i = 16 := by simpa using him
     rcases him2 with rfl | rfl | rfl | rfl | rfl | rfl | rfl | rfl | rfl | rfl | rfl | rfl | rfl | rfl | rfl | rfl | rfl
     ·refine istep_w2 ⟨some 16, _, _, _, _, none⟩ rfl (fun a w' hf hC hn => (iwanted_no rfl)) (fun a W hf hk hC hn K hK => ?_)
      refine wp_runs (y_move (ρ := a.eval) (.tmp 3) rfl ((hk 3 (by decide)).trans h3) W) ?_
      exact hK _ _ hC ⟨rfl, HAP.out _ hC.2⟩ (fun j _ _ _ _ x h => h)
     ·exact istep2_of (iq (d := 17) (.pointer (some ⟨b1, 5, none⟩)) rfl (fun _ _ => rfl) (fun a W hf hC hn => y_faRecord5 (ρ := a.eval) (.tmp 1) (b := b1) (off := 0) rfl (hf.ev (by kernel_rfl) h1) W))
     ·exact istep2_of (iq (d := 18) (.slice (some ⟨b, o, none⟩) nu cu) rfl (fun _ _ => rfl) (fun a W hf hC hn => y_ldSPut (ρ := a.eval) (.tmp 17) (ad := ⟨b1, 5, none⟩) rfl (hn 1 (by decide)) W (((blk_cell (hC.1).box 5).trans rfl))))
     ·exact istep2_of (iq (d := 19) (.int .i64 ((k : Nat) : Int)) rfl (fun _ _ => rfl) (fun a W hf hC hn => y_move (ρ := a.eval) (.tmp 4) rfl (hf.ev (by kernel_rfl) h4) W))
     ·exact istep2_of (iq (d := 20) (.pointer (some ⟨b, o + k * 2, none⟩)) rfl (fun _ _ => rfl) (fun a W hf hC hn => y_ixPut (ρ := a.eval) (.tmp 18) (.tmp 19) (b := b) (off := o) (n := nu) (c := cu) (k := k) rfl (hn 2 (by decide)) (hn 3 (by decide)) (by omega) W))
     ·exact istep2_of (iq (d := 21) (.pointer (some ⟨b, o + k * 2, none⟩)) rfl (fun _ _ => rfl) (fun a W hf hC hn => y_faPut0 (ρ := a.eval) (.tmp 20) (b := b) (off := o + k * 2) rfl (hn 4 (by decide)) W))
     ·exact istep2_of (iq (d := 22) (.string q1) rfl (fun _ _ => rfl) (fun a W hf hC hn => y_ldstring (ρ := a.eval) (.tmp 21) (ad := ⟨b, o + k * 2, none⟩) rfl (hn 5 (by decide)) W (hC.1.t.cell E0.out (fun h => h))))
     ·exact istep2_of (istep_c (d := 23) (.string c1) ⟨some 23, _, _, _, _, none⟩ rfl rfl (fun a W hf hC hn => iwanted_no rfl) (hF := Tryz.func55) (by kernel_rfl) (by kernel_rfl) [(.tmp 22), (.const (.int .i64 (10)))] #[9, 3] rfl [.string q1, .int .i64 (10)] (fun a W hf hC hn => map2 (hn 6 (by decide)) rfl) ((fun W hC => HC1.out W)) (fun _ _ h t => ⟨h.1.keep t, h.2.trans0 t⟩) (rl_stb hlist) (fun _ _ => rfl))
     ·exact istep2_of (iq (d := 24) (.pointer (some ⟨b1, 5, none⟩)) rfl (fun _ _ => rfl) (fun a W hf hC hn => y_faRecord5 (ρ := a.eval) (.tmp 1) (b := b1) (off := 0) rfl (hf.ev (by kernel_rfl) h1) W))
     ·exact istep2_of (iq (d := 25) (.slice (some ⟨b, o, none⟩) nu cu) rfl (fun _ _ => rfl) (fun a W hf hC hn => y_ldSPut (ρ := a.eval) (.tmp 24) (ad := ⟨b1, 5, none⟩) rfl (hn 8 (by decide)) W (((blk_cell (hC.1).box 5).trans rfl))))
     ·exact istep2_of (iq (d := 26) (.int .i64 ((k : Nat) : Int)) rfl (fun _ _ => rfl) (fun a W hf hC hn => y_move (ρ := a.eval) (.tmp 4) rfl (hf.ev (by kernel_rfl) h4) W))
     ·exact istep2_of (iq (d := 27) (.pointer (some ⟨b, o + k * 2, none⟩)) rfl (fun _ _ => rfl) (fun a W hf hC hn => y_ixPut (ρ := a.eval) (.tmp 25) (.tmp 26) (b := b) (off := o) (n := nu) (c := cu) (k := k) rfl (hn 9 (by decide)) (hn 10 (by decide)) (by omega) W))
     ·exact istep2_of (iq (d := 28) (.pointer (some ⟨b, o + k * 2 + 1, none⟩)) rfl (fun _ _ => rfl) (fun a W hf hC hn => y_faPut1 (ρ := a.eval) (.tmp 27) (b := b) (off := o + k * 2) rfl (hn 11 (by decide)) W))
     ·exact istep2_of (iq (d := 29) (.string q2) rfl (fun _ _ => rfl) (fun a W hf hC hn => y_ldstring (ρ := a.eval) (.tmp 28) (ad := ⟨b, o + k * 2 + 1, none⟩) rfl (hn 12 (by decide)) W (hC.1.t.cell E1.out (fun h => h))))
     ·exact istep2_of (istep_c (d := 30) (.string c2) ⟨some 30, _, _, _, _, none⟩ rfl rfl (fun a W hf hC hn => iwanted_no rfl) (hF := Tryz.func55) (by kernel_rfl) (by kernel_rfl) [(.tmp 29), (.const (.int .i64 (62)))] #[9, 3] rfl [.string q2, .int .i64 (62)] (fun a W hf hC hn => map2 (hn 13 (by decide)) rfl) ((fun W hC => HC2.out W)) (fun _ _ h t => ⟨h.1.keep t, h.2.trans0 t⟩) (rl_stb hlist) (fun _ _ => rfl))
     ·exact istep2_of (iq (d := 31) (.agg #[.string c1, .string c2]) rfl (fun _ _ => rfl) (fun a W hf hC hn => y_bdPut (ρ := a.eval) (.tmp 23) (.tmp 30) rfl (hn 7 (by decide)) (hn 14 (by decide)) rfl rfl W))
     ·refine istep_w2 ⟨some 32, _, _, _, _, none⟩ rfl (fun a w' hf hC hn => (iwanted_no rfl)) (fun a W hf hk hC hn K hK => ?_)
      refine wp_runs (y_bsPut (ρ := a.eval) (.tmp 31) (v0 := .string c1) (v1 := .string c2) rfl (hn 15 (by decide)) rfl rfl W) ?_
      refine hK _ _ ⟨hC.1.keep (Tch.alloc _ _), hC.2.trans0 (Tch.alloc _ _)⟩ (cells_lit W _ _ 2 _ rfl rfl _) (fun j _ _ _ _ x h => rl_stb hlist j x _ _ (Tch.alloc _ _) h)
    ·intro i hi him
     have him2 : i = 18 := by simpa using him
     rcases him2 with rfl
     ·refine istep_w ⟨some 3, _, _, _, _, none⟩ rfl (fun a w' hf hC hn => (iwanted_no rfl)) (fun a W hf hC hn K hK => ?_)
      refine wp_runs (y_assign (ρ := a.eval) (.tmp 33) rfl rfl W) ?_
      exact hK _ _ hC (hn 17 (by decide)) (fun j _ _ _ _ x h => h)
    ·refine istep_w2 ⟨some 33, _, _, _, _, none⟩ rfl (fun a w' hf hC hn => (iwanted_no rfl)) (fun a W hf hk hC hn K hK => ?_)
     have g0 : a.eval (.tmp 16) = u3 /\ OwnN w1 45 2 k XS (a.eval (.tmp 16)) W := hn 0 (by decide)
     have g13 : SrcC 1 2 [.string c1, .string c2] (a.eval (.tmp 32)) W := hn 16 (by decide)
     refine wp_appE eltPut (.tmp 16) (.tmp 32) rfl _ k _ rfl g0.2.1 _ 1 _ rfl g13 (ones_put2 _ _) (by omega) (fun a' n' c' w' hA hn' => ?_)
     refine hK _ _ (hC.1.grow (Tch.grown (F := fun q => (a.eval (.tmp 16)).ownBlock = some q) hA.grow (fun q hq _ => hq)) (fun q hq => g0.2.2 q hq)) ⟨hA.own, fun q hq => ?_⟩ (by intro j hj h1 h2 h3; exfalso; revert j; decide)
     rcases hA.loc with e1 | e1
     ·rw [e1] at hq; exact g0.2.2 q hq
     ·rw [e1] at hq
      have z1 := hC.1.le
      simp at hq; omega
    ·intro af wf hf hC hR
     obtain ⟨vs, hl, rfl⟩ := hf
     have hl : vs.length = 19 := hl
     obtain ⟨u0, vs0, hv0, hl⟩ := vs_cons hl
     obtain ⟨u1, vs1, hv1, hl⟩ := vs_cons hl
     obtain ⟨u2, vs2, hv2, hl⟩ := vs_cons hl
     obtain ⟨u3, vs3, hv3, hl⟩ := vs_cons hl
     obtain ⟨u4, vs4, hv4, hl⟩ := vs_cons hl
     obtain ⟨u5, vs5, hv5, hl⟩ := vs_cons hl
     obtain ⟨u6, vs6, hv6, hl⟩ := vs_cons hl
     obtain ⟨u7, vs7, hv7, hl⟩ := vs_cons hl
     obtain ⟨u8, vs8, hv8, hl⟩ := vs_cons hl
     obtain ⟨u9, vs9, hv9, hl⟩ := vs_cons hl
     obtain ⟨u10, vs10, hv10, hl⟩ := vs_cons hl
     obtain ⟨u11, vs11, hv11, hl⟩ := vs_cons hl
     obtain ⟨u12, vs12, hv12, hl⟩ := vs_cons hl
     obtain ⟨u13, vs13, hv13, hl⟩ := vs_cons hl
     obtain ⟨u14, vs14, hv14, hl⟩ := vs_cons hl
     obtain ⟨u15, vs15, hv15, hl⟩ := vs_cons hl
     obtain ⟨u16, vs16, hv16, hl⟩ := vs_cons hl
     obtain ⟨u17, vs17, hv17, hl⟩ := vs_cons hl
     obtain ⟨u18, vs18, hv18, hl⟩ := vs_cons hl
     have hvn := vs_nil hl
     have hvs : vs = [u0, u1, u2, u3, u4, u5, u6, u7, u8, u9, u10, u11, u12, u13, u14, u15, u16, u17, u18] := by rw [hv0, hv1, hv2, hv3, hv4, hv5, hv6, hv7, hv8, hv9, hv10, hv11, hv12, hv13, hv14, hv15, hv16, hv17, hv18, hvn]
     clear hvn hl hv0 hv1 hv2 hv3 hv4 hv5 hv6 hv7 hv8 hv9 hv10 hv11 hv12 hv13 hv14 hv15 hv16 hv17 hv18
     subst hvs
     have r18 : (OwnN w1 45 2 (k + 1) (XS ++ [.string c1, .string c2])) u18 wf := by
      have e : (putAll fr [16, 17, 18, 19, 20, 21, 22, 23, 24, 25, 26, 27, 28, 29, 30, 31, 32, 33, 3] [u0, u1, u2, u3, u4, u5, u6, u7, u8, u9, u10, u11, u12, u13, u14, u15, u16, u17, u18]).eval (.tmp 3) = u18 := putAll_get 18 (by decide) rfl rfl rfl (by rw [hsz]; decide)
      have h : (OwnN w1 45 2 (k + 1) (XS ++ [.string c1, .string c2])) ((putAll fr [16, 17, 18, 19, 20, 21, 22, 23, 24, 25, 26, 27, 28, 29, 30, 31, 32, 33, 3] [u0, u1, u2, u3, u4, u5, u6, u7, u8, u9, u10, u11, u12, u13, u14, u15, u16, u17, u18]).eval (.tmp 3)) wf := hR 18 (by decide) (by decide)
      rw [e] at h
      exact h
     have hfr2 := hfr.out
     subst hfr2
     simp only [putAll, Act.put, List.setIfInBounds_toArray, List.set_cons_succ, List.set_cons_zero]
     have GO := Lib.hid r18
     have RF := Lib.hid hC
     clear hR hlist hsz r18 hC
     go_wp2_with fail
     go_roundg (12 - (k + 1))
     case measure => omega
     case rel => exact ⟨k + 1, by omega, by omega, by omega, by go_num, RF, by rw [HSN.out]; exact GO⟩
   ·have HXT : Hid (puts.take k = puts.take 12) := by rw [show k = 12 by omega]; rfl
    obtain ⟨a3, c3, rfl, _, _⟩ := own_shape OW.out.1
    have f5 := blk_free RB.out.box 5
    go_upto_region 7 with fail
    obtain ⟨w2, hw2, RB2, T2⟩ : ∃ X, wr.setCell ⟨b1, 5, none⟩ (.slice a3 k c3) = X /\ Hid (RecB w w1 b1 #[.int .i64 kd, .int .i64 tid, .int .i64 id, .bool yes, .slice ap np cp, .slice a3 k c3] X) /\ Hid (Tch (fun q => q = b1) wr X) := ⟨_, rfl, RB.out.set 5 _, Tch.setCell _ _ _ (fun _ => rfl)⟩
    rw [hw2]
    have hb2 := RB2.out.bs
    have OW2 : Hid (OwnN w1 45 2 k (xsPut (puts.take k)) (.slice a3 k c3) w2) := ⟨own_tch OW.out.1 T2.out (fun q hq e => by have := OW.out.2 q hq; omega), OW.out.2⟩
    clear hw2 T2 OW RB b5 f5
    obtain ⟨kp, hkp⟩ : ∃ z, min np 9 = z := ⟨_, rfl⟩
    have gp : min (np : Int) 9 = (kp : Int) := by omega
    have gp0 : (0 : Int) <= (kp : Int) := by omega
    have gp2 : kp <= np /\ kp <= 9 := by omega
    have HPC : Hid (np <= cp) := by
     obtain ⟨_, _, e, h1, _⟩ := HP.out.shape
     injection e with _ e1 e2
     rw [Hid, <- HNP.out, e2]; exact h1
    have gp1 : (kp : Int) <= (cp : Int) := by have := HPC.out; omega
    have HPT : Hid (CellsL w2 (.slice ap kp cp) kp 1 ((parts.take kp).map fun x => .int .i64 x)) := by
     have h9 := CellsL.keep HP.out RB2.out.t
     rw [HNP.out] at h9
     have h8 := h9.take gp2.1
     rw [Nat.mul_one, <- List.map_take] at h8
     exact h8
    have HKP := Lib.hid hkp
    clear hkp
    have q4 : w2.cell? ⟨b1, 4, none⟩ = some (.slice ap np cp) := (blk_cell RB2.out.box 4).trans rfl
    go_upto_region 8 with (at_builtin; refine wpList_appL eltInt _ rfl (.const (.slice none 0 0)) (.tmp 42) rfl (.slice none 0 0) 0 [] rfl (own_nil _ _ _) _ kp _ rfl HPT.out (ones_ints _) (by omega) (by omega) ?_; intro a4 n4 c4 w3 hA hz; have f1 := blk_free (blk_tch hA.fresh.1 RB2.out.box (fun h => h)) 4; have f2 := hA.fresh.1.cell q4 (fun h => h); have A4 := Lib.hid hA; have Z4 := Lib.hid hz; clear hA hz)
    obtain ⟨w4, hw4, RB4, T4⟩ : ∃ X, w3.setCell ⟨b1, 4, none⟩ (.slice a4 n4 c4) = X /\ Hid (RecB w w1 b1 #[.int .i64 kd, .int .i64 tid, .int .i64 id, .bool yes, .slice a4 n4 c4, .slice a3 k c3] X) /\ Hid (Tch (fun q => q = b1) w3 X) := ⟨_, rfl, (RB2.out.keep A4.out.fresh.1).set 4 _, Tch.setCell _ _ _ (fun _ => rfl)⟩
    rw [hw4]
    have OA4 : Hid (OwnN w1 3 1 kp ((parts.take kp).map fun x => .int .i64 x) (.slice a4 n4 c4) w4) := by
     have h1 := A4.out.own
     rw [Nat.zero_add, List.nil_append] at h1
     have h2 : ∀ q, (Value.slice a4 n4 c4).ownBlock = some q -> w1.heap.size <= q := fun q hq => Nat.le_trans RB2.out.le (A4.out.fresh.2 q hq)
     exact ⟨own_tch h1 T4.out (fun q hq e => by have := h2 q hq; omega), h2⟩
    have OW4 : Hid (OwnN w1 45 2 k (xsPut (puts.take k)) (.slice a3 k c3) w4) := ⟨own_tch (own_tch OW2.out.1 A4.out.fresh.1 (fun _ _ e => e)) T4.out (fun q hq e => by have := OW2.out.2 q hq; omega), OW2.out.2⟩
    clear hw4 T4 f1 f2 q4 A4 OW2 RB2 HPT
    have kb := fun j => blk_cell RB4.out.box j
    have kr := fun j => blk_cell RB4.out.res j
    have fr9 := fun j => blk_free RB4.out.res j
    have q0 : w4.cell? ⟨b1, 0, none⟩ = some (.int .i64 kd) := by rw [kb]; rfl
    have q1 : w4.cell? ⟨b1, 1, none⟩ = some (.int .i64 tid) := by rw [kb]; rfl
    have q2 : w4.cell? ⟨b1, 2, none⟩ = some (.int .i64 id) := by rw [kb]; rfl
    have q3 : w4.cell? ⟨b1, 3, none⟩ = some (.bool yes) := by rw [kb]; rfl
    have q4 : w4.cell? ⟨b1, 4, none⟩ = some (.slice a4 n4 c4) := by rw [kb]; rfl
    have q5 : w4.cell? ⟨b1, 5, none⟩ = some (.slice a3 k c3) := by rw [kb]; rfl
    have z0 : w4.cell? ⟨b1 + 1, 0, none⟩ = some (.int .i64 0) := by rw [kr]; rfl
    have z1 : w4.cell? ⟨b1 + 1, 1, none⟩ = some (.int .i64 0) := by rw [kr]; rfl
    have z2 : w4.cell? ⟨b1 + 1, 2, none⟩ = some (.int .i64 0) := by rw [kr]; rfl
    have z3 : w4.cell? ⟨b1 + 1, 3, none⟩ = some (.bool false) := by rw [kr]; rfl
    have z4 : w4.cell? ⟨b1 + 1, 4, none⟩ = some (.slice none 0 0) := by rw [kr]; rfl
    have z5 : w4.cell? ⟨b1 + 1, 5, none⟩ = some (.slice none 0 0) := by rw [kr]; rfl
    clear kb kr
    go_wp2_with fail
    obtain ⟨wF, hwF, B6, T6⟩ : ∃ W, ((((((w4.setCell ⟨b1 + 1, 0, none⟩ (.int .i64 kd)).setCell ⟨b1 + 1, 1, none⟩ (.int .i64 tid)).setCell ⟨b1 + 1, 2, none⟩ (.int .i64 id)).setCell ⟨b1 + 1, 3, none⟩ (.bool yes)).setCell ⟨b1 + 1, 4, none⟩ (.slice a4 n4 c4)).setCell ⟨b1 + 1, 5, none⟩ (.slice a3 k c3)) = W /\ Hid (W.heap[b1 + 1]? = some (.cells #[.int .i64 kd, .int .i64 tid, .int .i64 id, .bool yes, .slice a4 n4 c4, .slice a3 k c3] 34 (0, 0))) /\ Hid (Tch (fun q => q = b1 + 1) w4 W) := by
     obtain ⟨g1, g2⟩ := set6e (.int .i64 kd) (.int .i64 tid) (.int .i64 id) (.bool yes) (.slice a4 n4 c4) (.slice a3 k c3) RB4.out.res
     exact ⟨_, rfl, g1, g2⟩
    rw [hwF]
    clear hwF fr9 q0 z0 q1 z1 q2 z2 q3 z3 q4 z4 q5 z5
    have kk := fun j => blk_cell B6.out j
    have q0 : wF.cell? ⟨b1 + 1, 0, none⟩ = some (.int .i64 kd) := by rw [kk]; rfl
    have q1 : wF.cell? ⟨b1 + 1, 1, none⟩ = some (.int .i64 tid) := by rw [kk]; rfl
    have q2 : wF.cell? ⟨b1 + 1, 2, none⟩ = some (.int .i64 id) := by rw [kk]; rfl
    have q3 : wF.cell? ⟨b1 + 1, 3, none⟩ = some (.bool yes) := by rw [kk]; rfl
    have q4 : wF.cell? ⟨b1 + 1, 4, none⟩ = some (.slice a4 n4 c4) := by rw [kk]; rfl
    have q5 : wF.cell? ⟨b1 + 1, 5, none⟩ = some (.slice a3 k c3) := by rw [kk]; rfl
    clear kk
    refine bodyPost_ret (v := .agg #[.int .i64 kd, .int .i64 tid, .int .i64 id, .bool yes, .slice a4 n4 c4, .slice a3 k c3]) (by simp [results, Tryz.results19, go_sem, q0, q1, q2, q3, q4, q5]) rfl ?_
    have hwz : w.heap.size <= w1.heap.size := by have := HB1.out; omega
    refine ⟨_, _, rfl, RB4.out.t.fresh T6.out (fun q e => by have := HB1.out; omega), ?_, ?_⟩
    ·have e1 : parts.take 9 = parts.take kp := by
      rw [<- HKP.out, <- HNP.out]
      rcases Nat.le_total parts.length 9 with h | h
      ·rw [Nat.min_eq_left h, List.take_length, List.take_of_length_le h]
      ·rw [Nat.min_eq_right h]
     have e2 : (parts.take kp).length = kp := by rw [List.length_take]; have := HNP.out; omega
     rw [e1, e2]
     exact ⟨own_tch OA4.out.1 T6.out (fun q hq e => by have := OA4.out.2 q hq; omega), fun q hq => Nat.le_trans hwz (OA4.out.2 q hq)⟩
    ·have e2 : ((puts.take 12).map cutPut).length = k := by rw [<- HXT.out, List.length_map, List.length_take]; have := HNU.out; omega
     rw [e2]
     have h1 := OW4.out
     rw [HXT.out] at h1
     exact ⟨own_tch h1.1 T6.out (fun q hq e => by have := h1.2 q hq; omega), fun q hq => Nat.le_trans hwz (h1.2 q hq)⟩
  ·have HXT : Hid (puts.take k = puts.take 12) := by rw [show k = nu by omega, <- HNU.out, Hid, List.take_length, List.take_of_length_le (by have := HNU.out; omega)]
   obtain ⟨a3, c3, rfl, _, _⟩ := own_shape OW.out.1
   have f5 := blk_free RB.out.box 5
   go_upto_region 7 with fail
   obtain ⟨w2, hw2, RB2, T2⟩ : ∃ X, wr.setCell ⟨b1, 5, none⟩ (.slice a3 k c3) = X /\ Hid (RecB w w1 b1 #[.int .i64 kd, .int .i64 tid, .int .i64 id, .bool yes, .slice ap np cp, .slice a3 k c3] X) /\ Hid (Tch (fun q => q = b1) wr X) := ⟨_, rfl, RB.out.set 5 _, Tch.setCell _ _ _ (fun _ => rfl)⟩
   rw [hw2]
   have hb2 := RB2.out.bs
   have OW2 : Hid (OwnN w1 45 2 k (xsPut (puts.take k)) (.slice a3 k c3) w2) := ⟨own_tch OW.out.1 T2.out (fun q hq e => by have := OW.out.2 q hq; omega), OW.out.2⟩
   clear hw2 T2 OW RB b5 f5
   obtain ⟨kp, hkp⟩ : ∃ z, min np 9 = z := ⟨_, rfl⟩
   have gp : min (np : Int) 9 = (kp : Int) := by omega
   have gp0 : (0 : Int) <= (kp : Int) := by omega
   have gp2 : kp <= np /\ kp <= 9 := by omega
   have HPC : Hid (np <= cp) := by
    obtain ⟨_, _, e, h1, _⟩ := HP.out.shape
    injection e with _ e1 e2
    rw [Hid, <- HNP.out, e2]; exact h1
   have gp1 : (kp : Int) <= (cp : Int) := by have := HPC.out; omega
   have HPT : Hid (CellsL w2 (.slice ap kp cp) kp 1 ((parts.take kp).map fun x => .int .i64 x)) := by
    have h9 := CellsL.keep HP.out RB2.out.t
    rw [HNP.out] at h9
    have h8 := h9.take gp2.1
    rw [Nat.mul_one, <- List.map_take] at h8
    exact h8
   have HKP := Lib.hid hkp
   clear hkp
   have q4 : w2.cell? ⟨b1, 4, none⟩ = some (.slice ap np cp) := (blk_cell RB2.out.box 4).trans rfl
   go_upto_region 8 with (at_builtin; refine wpList_appL eltInt _ rfl (.const (.slice none 0 0)) (.tmp 42) rfl (.slice none 0 0) 0 [] rfl (own_nil _ _ _) _ kp _ rfl HPT.out (ones_ints _) (by omega) (by omega) ?_; intro a4 n4 c4 w3 hA hz; have f1 := blk_free (blk_tch hA.fresh.1 RB2.out.box (fun h => h)) 4; have f2 := hA.fresh.1.cell q4 (fun h => h); have A4 := Lib.hid hA; have Z4 := Lib.hid hz; clear hA hz)
   obtain ⟨w4, hw4, RB4, T4⟩ : ∃ X, w3.setCell ⟨b1, 4, none⟩ (.slice a4 n4 c4) = X /\ Hid (RecB w w1 b1 #[.int .i64 kd, .int .i64 tid, .int .i64 id, .bool yes, .slice a4 n4 c4, .slice a3 k c3] X) /\ Hid (Tch (fun q => q = b1) w3 X) := ⟨_, rfl, (RB2.out.keep A4.out.fresh.1).set 4 _, Tch.setCell _ _ _ (fun _ => rfl)⟩
   rw [hw4]
   have OA4 : Hid (OwnN w1 3 1 kp ((parts.take kp).map fun x => .int .i64 x) (.slice a4 n4 c4) w4) := by
    have h1 := A4.out.own
    rw [Nat.zero_add, List.nil_append] at h1
    have h2 : ∀ q, (Value.slice a4 n4 c4).ownBlock = some q -> w1.heap.size <= q := fun q hq => Nat.le_trans RB2.out.le (A4.out.fresh.2 q hq)
    exact ⟨own_tch h1 T4.out (fun q hq e => by have := h2 q hq; omega), h2⟩
   have OW4 : Hid (OwnN w1 45 2 k (xsPut (puts.take k)) (.slice a3 k c3) w4) := ⟨own_tch (own_tch OW2.out.1 A4.out.fresh.1 (fun _ _ e => e)) T4.out (fun q hq e => by have := OW2.out.2 q hq; omega), OW2.out.2⟩
   clear hw4 T4 f1 f2 q4 A4 OW2 RB2 HPT
   have kb := fun j => blk_cell RB4.out.box j
   have kr := fun j => blk_cell RB4.out.res j
   have fr9 := fun j => blk_free RB4.out.res j
   have q0 : w4.cell? ⟨b1, 0, none⟩ = some (.int .i64 kd) := by rw [kb]; rfl
   have q1 : w4.cell? ⟨b1, 1, none⟩ = some (.int .i64 tid) := by rw [kb]; rfl
   have q2 : w4.cell? ⟨b1, 2, none⟩ = some (.int .i64 id) := by rw [kb]; rfl
   have q3 : w4.cell? ⟨b1, 3, none⟩ = some (.bool yes) := by rw [kb]; rfl
   have q4 : w4.cell? ⟨b1, 4, none⟩ = some (.slice a4 n4 c4) := by rw [kb]; rfl
   have q5 : w4.cell? ⟨b1, 5, none⟩ = some (.slice a3 k c3) := by rw [kb]; rfl
   have z0 : w4.cell? ⟨b1 + 1, 0, none⟩ = some (.int .i64 0) := by rw [kr]; rfl
   have z1 : w4.cell? ⟨b1 + 1, 1, none⟩ = some (.int .i64 0) := by rw [kr]; rfl
   have z2 : w4.cell? ⟨b1 + 1, 2, none⟩ = some (.int .i64 0) := by rw [kr]; rfl
   have z3 : w4.cell? ⟨b1 + 1, 3, none⟩ = some (.bool false) := by rw [kr]; rfl
   have z4 : w4.cell? ⟨b1 + 1, 4, none⟩ = some (.slice none 0 0) := by rw [kr]; rfl
   have z5 : w4.cell? ⟨b1 + 1, 5, none⟩ = some (.slice none 0 0) := by rw [kr]; rfl
   clear kb kr
   go_wp2_with fail
   obtain ⟨wF, hwF, B6, T6⟩ : ∃ W, ((((((w4.setCell ⟨b1 + 1, 0, none⟩ (.int .i64 kd)).setCell ⟨b1 + 1, 1, none⟩ (.int .i64 tid)).setCell ⟨b1 + 1, 2, none⟩ (.int .i64 id)).setCell ⟨b1 + 1, 3, none⟩ (.bool yes)).setCell ⟨b1 + 1, 4, none⟩ (.slice a4 n4 c4)).setCell ⟨b1 + 1, 5, none⟩ (.slice a3 k c3)) = W /\ Hid (W.heap[b1 + 1]? = some (.cells #[.int .i64 kd, .int .i64 tid, .int .i64 id, .bool yes, .slice a4 n4 c4, .slice a3 k c3] 34 (0, 0))) /\ Hid (Tch (fun q => q = b1 + 1) w4 W) := by
    obtain ⟨g1, g2⟩ := set6e (.int .i64 kd) (.int .i64 tid) (.int .i64 id) (.bool yes) (.slice a4 n4 c4) (.slice a3 k c3) RB4.out.res
    exact ⟨_, rfl, g1, g2⟩
   rw [hwF]
   clear hwF fr9 q0 z0 q1 z1 q2 z2 q3 z3 q4 z4 q5 z5
   have kk := fun j => blk_cell B6.out j
   have q0 : wF.cell? ⟨b1 + 1, 0, none⟩ = some (.int .i64 kd) := by rw [kk]; rfl
   have q1 : wF.cell? ⟨b1 + 1, 1, none⟩ = some (.int .i64 tid) := by rw [kk]; rfl
   have q2 : wF.cell? ⟨b1 + 1, 2, none⟩ = some (.int .i64 id) := by rw [kk]; rfl
   have q3 : wF.cell? ⟨b1 + 1, 3, none⟩ = some (.bool yes) := by rw [kk]; rfl
   have q4 : wF.cell? ⟨b1 + 1, 4, none⟩ = some (.slice a4 n4 c4) := by rw [kk]; rfl
   have q5 : wF.cell? ⟨b1 + 1, 5, none⟩ = some (.slice a3 k c3) := by rw [kk]; rfl
   clear kk
   refine bodyPost_ret (v := .agg #[.int .i64 kd, .int .i64 tid, .int .i64 id, .bool yes, .slice a4 n4 c4, .slice a3 k c3]) (by simp [results, Tryz.results19, go_sem, q0, q1, q2, q3, q4, q5]) rfl ?_
   have hwz : w.heap.size <= w1.heap.size := by have := HB1.out; omega
   refine ⟨_, _, rfl, RB4.out.t.fresh T6.out (fun q e => by have := HB1.out; omega), ?_, ?_⟩
   ·have e1 : parts.take 9 = parts.take kp := by
     rw [<- HKP.out, <- HNP.out]
     rcases Nat.le_total parts.length 9 with h | h
     ·rw [Nat.min_eq_left h, List.take_length, List.take_of_length_le h]
     ·rw [Nat.min_eq_right h]
    have e2 : (parts.take kp).length = kp := by rw [List.length_take]; have := HNP.out; omega
    rw [e1, e2]
    exact ⟨own_tch OA4.out.1 T6.out (fun q hq e => by have := OA4.out.2 q hq; omega), fun q hq => Nat.le_trans hwz (OA4.out.2 q hq)⟩
   ·have e2 : ((puts.take 12).map cutPut).length = k := by rw [<- HXT.out, List.length_map, List.length_take]; have := HNU.out; omega
    rw [e2]
    have h1 := OW4.out
    rw [HXT.out] at h1
    exact ⟨own_tch h1.1 T6.out (fun q hq e => by have := h1.2 q hq; omega), fun q hq => Nat.le_trans hwz (h1.2 q hq)⟩
end
end Go.Proofs.YtafndmnbnmlklaaGreat
