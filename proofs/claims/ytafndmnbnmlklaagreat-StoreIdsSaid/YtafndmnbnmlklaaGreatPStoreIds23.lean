/- Part 23 of what the proof of StoreIds rests on. No condition. -/
import Derived.Test.YtafndmnbnmlklaaGreatPStoreIds02
import Derived.Test.YtafndmnbnmlklaaGreatPStoreIds04
import Derived.Test.YtafndmnbnmlklaaGreatPStoreIds06
import Derived.Test.YtafndmnbnmlklaaGreatPStoreIds07
import Derived.Test.YtafndmnbnmlklaaGreatPStoreIds19
import Derived.Test.YtafndmnbnmlklaaGreatPStoreIds21
import Derived.Test.YtafndmnbnmlklaaGreatPStoreIds22
namespace Go.Proofs.YtafndmnbnmlklaaGreat
set_option maxRecDepth 100000
set_option maxHeartbeats 60000000
set_option linter.unusedVariables false
set_option linter.unusedSimpArgs false
set_option linter.unusedSectionVars false
section
open Go.RowKit Go.Maps
theorem flat_one (l : List Int) : l.flatMap (fun q : Int => [Value.int .i64 q]) = l.map (fun x => .int .i64 x) := by
 induction l with
 | nil => rfl
 | cons a r ih => rw [List.flatMap_cons, ih]; rfl
theorem strictB_filter {α : Type} {f : α -> Int} (p : α -> Bool) : ∀ {l : List α}, strictB (l.map f) = true -> strictB ((l.filter p).map f) = true
 | [], _ => rfl
 | a :: r, h => by
  obtain ⟨h1, h2⟩ := strictB_cons.1 h
  have ih := strictB_filter p h2
  cases hp : p a with
  | false => rw [List.filter_cons, hp]; simpa using ih
  | true =>
   rw [List.filter_cons, hp]
   simp only [if_true, List.map_cons]
   refine strictB_cons.2 ⟨fun b hb => h1 b ?_, ih⟩
   obtain ⟨x, hx, rfl⟩ := List.mem_map.1 hb
   exact List.mem_map_of_mem (List.mem_filter.1 hx).1
theorem apply1_any (n pt : Int) (bq b o c : Nat) (W : World) (h1 : W.cell? ⟨bq, 4, none⟩ = some (.slice (some ⟨b, o, none⟩) 1 c)) (h2 : W.cell? ⟨b, o, none⟩ = some (.int .i64 pt)) :
  Calls Tryz.prog 181 #[.int .i64 n, .pointer (some ⟨bq, 0, none⟩)] W fun e w' => e = .returned (.bool (n == pt)) /\ Tch No W w' := by
 go_enter Tryz.func181, Tryz.ntmps181
 go_wp2_with fail
 go_ret
 exact ⟨rfl, Tch.refl _ _⟩
theorem sapply9 (s : StM) (r : RecM) (hk : r.kind = 9) (ok : AplOk s r) (hin : hasP (·.tid) s.noes r.tid = true) (hone : r.parts.length = 1) (G : Nat -> Prop) (v vr : Value) (WE : World) (h0 : StW (Tch G WE) v s) (hr0 : RecW (Tch G WE) vr r) :
  Calls Tryz.prog 68 #[v, vr] WE (AplPost G WE (doM s r)) := by
 obtain ⟨w, hwe⟩ : ∃ x, x = WE := ⟨_, rfl⟩
 have te : Tch No w WE := by rw [hwe]; exact Tch.refl _ _
 have HWE := Lib.hid hwe
 obtain ⟨vm, vw, ve, vo, vn, prb, pro, prn, rfl, hmb, hmo, hmn, hst⟩ := h0
 have g0 := hst w (by rw [hwe]; exact Tch.refl _ _)
 have hm := g0.ms
 have hw := brs_pairs.2 ⟨prb, hmb, g0.cb, g0.ib⟩
 have he := g0.en
 have ho := pends_pairs.2 ⟨pro, hmo, g0.co, g0.io⟩
 have hno := pends_pairs.2 ⟨prn, hmn, g0.cn, g0.inn⟩
 obtain ⟨ma, mc, rfl, _, _⟩ := CellsAt.shape hm
 obtain ⟨wa, wk, rfl, _, _⟩ := hw.shape
 obtain ⟨ea, ec, rfl, _, _⟩ := CellsAt.shape he
 obtain ⟨oa, oc, rfl, _, _⟩ := ho.shape
 obtain ⟨na, nc, rfl, _, _⟩ := hno.shape
 obtain ⟨vp, vu, rfl, hpu⟩ := hr0
 obtain ⟨hp, hu⟩ := hpu w (by rw [hwe]; exact Tch.refl _ _)
 obtain ⟨qa, qc, rfl, _, _⟩ := CellsAt.shape hp
 obtain ⟨ua, uc, rfl, _, _⟩ := CellsAt.shape hu
 have OK := Lib.hid ok
 have HM := Lib.hid hm
 have HW := Lib.hid hw
 have HE := Lib.hid he
 have HO := Lib.hid ho
 have HNO := Lib.hid hno
 have HP := Lib.hid hp
 have HU := Lib.hid hu
 have TE := Lib.hid te
 have HST := Lib.hid hst
 have HG0 := Lib.hid g0
 have HMB0 := Lib.hid hmb
 have HMO0 := Lib.hid hmo
 have HMN0 := Lib.hid hmn
 have HPU0 := Lib.hid hpu
 have HSZW : Hid (w.heap.size = WE.heap.size) := by rw [Hid, hwe]
 clear hst g0 hmb hmo hmn hpu hwe
 obtain ⟨brk, nid, nseq, tx, ms, waits, ends, opens, noes⟩ := s
 obtain ⟨kd, tid, rid, yes, parts, puts⟩ := r
 simp only at hk HM HW HE HO HNO HP HU HMB0 HMO0 HMN0 HPU0 hin ⊢
 subst hk
 clear hm hw he ho hno hp hu ok
 obtain ⟨bs, hbs⟩ : ∃ x, WE.heap.size = x := ⟨_, rfl⟩
 obtain ⟨bq, hbq⟩ : ∃ x, (WE.alloc (.cells #[.int .i64 brk, .int .i64 nid, .int .i64 nseq, .int .i64 tx, .slice ma ms.length mc, .slice wa waits.length wk, .slice ea ends.length ec, .slice oa opens.length oc, .slice na noes.length nc] 29)).heap.size = x := ⟨_, rfl⟩
 obtain ⟨w1, hw1⟩ : ∃ x, ((WE.alloc (.cells #[.int .i64 brk, .int .i64 nid, .int .i64 nseq, .int .i64 tx, .slice ma ms.length mc, .slice wa waits.length wk, .slice ea ends.length ec, .slice oa opens.length oc, .slice na noes.length nc] 29)).alloc (.cells #[.int .i64 9, .int .i64 tid, .int .i64 rid, .bool yes, .slice qa parts.length qc, .slice ua puts.length uc] 34)).alloc (.cells #[.int .i64 0, .int .i64 0, .int .i64 0, .int .i64 0, .slice none 0 0, .slice none 0 0, .slice none 0 0, .slice none 0 0, .slice none 0 0] 29) = x := ⟨_, rfl⟩
 obtain ⟨bz, hbz⟩ : ∃ x, x = bq + 1 := ⟨_, rfl⟩
 have HB1 : Hid (w1.heap[bs]? = some (.cells #[.int .i64 brk, .int .i64 nid, .int .i64 nseq, .int .i64 tx, .slice ma ms.length mc, .slice wa waits.length wk, .slice ea ends.length ec, .slice oa opens.length oc, .slice na noes.length nc] 29 (0, 0))) := by
  rw [Hid, <- hw1, <- hbs]
  exact blk_tch ((Tch.alloc _ _).trans0 (Tch.alloc _ _)) (blk_new WE _) (fun h => h)
 have HQ1 : Hid (w1.heap[bq]? = some (.cells #[.int .i64 9, .int .i64 tid, .int .i64 rid, .bool yes, .slice qa parts.length qc, .slice ua puts.length uc] 34 (0, 0))) := by
  rw [Hid, <- hw1, <- hbq]
  exact blk_tch (Tch.alloc _ _) (blk_new _ _) (fun h => h)
 have HZ1 : Hid (w1.heap[bz]? = some (.cells #[.int .i64 0, .int .i64 0, .int .i64 0, .int .i64 0, .slice none 0 0, .slice none 0 0, .slice none 0 0, .slice none 0 0, .slice none 0 0] 29 (0, 0))) := by
  rw [Hid, <- hw1, hbz, <- hbq]
  have := blk_new ((WE.alloc (.cells #[.int .i64 brk, .int .i64 nid, .int .i64 nseq, .int .i64 tx, .slice ma ms.length mc, .slice wa waits.length wk, .slice ea ends.length ec, .slice oa opens.length oc, .slice na noes.length nc] 29)).alloc (.cells #[.int .i64 9, .int .i64 tid, .int .i64 rid, .bool yes, .slice qa parts.length qc, .slice ua puts.length uc] 34)) (.cells #[.int .i64 0, .int .i64 0, .int .i64 0, .int .i64 0, .slice none 0 0, .slice none 0 0, .slice none 0 0, .slice none 0 0, .slice none 0 0] 29)
  have e : ((WE.alloc (.cells #[.int .i64 brk, .int .i64 nid, .int .i64 nseq, .int .i64 tx, .slice ma ms.length mc, .slice wa waits.length wk, .slice ea ends.length ec, .slice oa opens.length oc, .slice na noes.length nc] 29)).alloc (.cells #[.int .i64 9, .int .i64 tid, .int .i64 rid, .bool yes, .slice qa parts.length qc, .slice ua puts.length uc] 34)).heap.size = (WE.alloc (.cells #[.int .i64 brk, .int .i64 nid, .int .i64 nseq, .int .i64 tx, .slice ma ms.length mc, .slice wa waits.length wk, .slice ea ends.length ec, .slice oa opens.length oc, .slice na noes.length nc] 29)).heap.size + 1 := by simp
  rwa [e] at this
 have TV1 : Hid (Tch No WE w1) := by rw [Hid, <- hw1]; exact ((Tch.alloc _ _).trans0 (Tch.alloc _ _)).trans0 (Tch.alloc _ _)
 have TW1 : Hid (Tch No w w1) := te.trans0 TV1.out
 have HLT : Hid (w.heap.size <= bs /\ WE.heap.size = bs /\ bq = bs + 1 /\ bz = bs + 2 /\ w1.heap.size = bs + 3) := by
  have e1 : bq = bs + 1 := by rw [<- hbq, <- hbs]; simp
  refine ⟨by rw [<- hbs]; exact te.size, hbs, e1, by omega, ?_⟩
  rw [<- hw1, <- hbs]; simp
 have HBZ := Lib.hid hbz
 clear hbz
 obtain ⟨b0, b1, b2, b3, b4, b5, b6, b7, b8⟩ := kc9 HB1.out
 obtain ⟨c0, c1, c2, c3, c4, c5⟩ := kc6 HQ1.out
 obtain ⟨hlt0, hfind⟩ := find_pos OK.out.risen hin
 simp only at hlt0 hfind hone
 have hnN : noes.length <= 100000 := OK.out.nn
 have HPA := Lib.hid (pends_any noes OK.out.risen (by omega) tid (.slice na noes.length nc) w1 (HNO.out.keep TW1.out))
 have hmn := HMN0.out
 have hcn := HG0.out.cn
 have hin2 := HG0.out.inn
 have hln : prn.length = noes.length := by rw [<- hmn, List.length_map]
 obtain ⟨k2, hk2⟩ : ∃ k, posP (fun x : PendM => x.tid) noes tid = k := ⟨_, rfl⟩
 rw [hk2] at HPA
 simp only [hk2] at hlt0 hfind
 have hpr : (prn[k2]'(by omega)).1 = noes[k2] := by
  have e : (prn.map Prod.fst)[k2]'(by rw [List.length_map]; omega) = noes[k2] := by simp only [hmn]
  rw [<- e, List.getElem_map]
 obtain ⟨pv, hpv⟩ : ∃ x, (prn[k2]'(by omega)).2 = x := ⟨_, rfl⟩
 have hpu : IsInts w pv noes[k2].parts := by rw [<- hpv, <- hpr]; exact hin2 _ (List.getElem_mem _)
 obtain ⟨pl, hpl⟩ : ∃ x, noes[k2].parts = x := ⟨_, rfl⟩
 have hpln : pl.length <= 100000 := by rw [<- hpl]; exact OK.out.nparts2 _ (List.getElem_mem hlt0)
 rw [hpl] at hpu
 obtain ⟨pa, pc, rfl, _, _⟩ := CellsAt.shape hpu
 have HPU := Lib.hid hpu
 have hex : ∃ b o, na = some ⟨b, o, none⟩ /\ w.cell? ⟨b, o + k2 * 2 + 1, none⟩ = some (.slice pa pl.length pc) := by
  have hcb' := hcn
  unfold IsL at hcb'
  rw [hln] at hcb'
  rcases hcb'.2 with ⟨h1, h0⟩ | ⟨b, o, cap2, h1, _, _, _, h5⟩
  ·omega
  ·injection h1 with h1 _ _
   refine ⟨b, o, h1, ?_⟩
   have := h5 (k2 * 2 + 1) (.slice pa pl.length pc) (by
    rw [flat_get (encPr (fun q : PendM => q.tid)) 2 (fun _ => rfl) prn k2 1 (by omega) (by decide), <- hpv]; rfl)
   rwa [<- Nat.add_assoc] at this
 obtain ⟨b, o, rfl, hcell⟩ := hex
 have HCELL : Hid (∀ W, Tch No w W -> W.cell? ⟨b, o + k2 * 2 + 1, none⟩ = some (.slice pa pl.length pc)) := fun W t => t.cell hcell (fun h => h)
 have HFND : Hid (((noes.find? (fun p => decide (p.tid = tid))).map (·.parts)).getD [] = pl) := by rw [Hid, hfind]; exact hpl
 have HLT2 : Hid (k2 < noes.length) := hlt0
 obtain ⟨pt, rfl⟩ : ∃ pt, parts = [pt] := by
  match parts, hone with
  | [x], _ => exact ⟨x, rfl⟩
 have hq : ∃ b2 o2, qa = some ⟨b2, o2, none⟩ /\ w.cell? ⟨b2, o2, none⟩ = some (.int .i64 pt) := by
  rcases HP.out.2 with ⟨_, h0⟩ | ⟨b2, o2, cap2, h1, _, _, _, h5⟩
  ·simp at h0
  ·injection h1 with h1 _ _
   exact ⟨b2, o2, h1, by simpa using h5 0 _ rfl⟩
 obtain ⟨b2, o2, rfl, hcq⟩ := hq
 have HCQ : Hid (∀ W, Tch No w W -> W.cell? ⟨b2, o2, none⟩ = some (.int .i64 pt)) := fun W t => t.cell hcq (fun h => h)
 have HMN := Lib.hid hmn
 have HIN := Lib.hid hin2
 have HCN := Lib.hid hcn
 have HLN := Lib.hid hln
 clear hin hone hmn hcn hin2 hln hpr hpv hpu hpl hcell hfind hk2 hcq
 simp only [List.length_cons, List.length_nil, Nat.zero_add] at hbq hw1 HQ1 c4
 go_enter Tryz.func68, Tryz.ntmps68
 go_wp2_with fail
 clear hbs hbq hw1 te
 refine HPA.out.mono ?_
 rintro e w3 ⟨rfl, T3⟩
 have TT3 : Hid (Tch No w1 w3) := T3
 have TW3 : Hid (Tch No w w3) := TW1.out.trans0 T3
 have HB3 := Lib.hid (blk_tch T3 HB1.out (fun h => h))
 have HQ3 := Lib.hid (blk_tch T3 HQ1.out (fun h => h))
 have HZ3 := Lib.hid (blk_tch T3 HZ1.out (fun h => h))
 have d8 : w3.cell? ⟨bs, 8, none⟩ = some (.slice (some ⟨b, o, none⟩) noes.length nc) := (blk_cell HB3.out 8).trans rfl
 have e1 : w3.cell? ⟨b, o + k2 * 2 + 1, none⟩ = some (.slice pa pl.length pc) := HCELL.out _ TW3.out
 have hk2n : (k2 : Int) < (noes.length : Int) := by have := HLT2.out; omega
 have hk2m : k2 < noes.length := HLT2.out
 have HCL := Lib.hid (clone_int (.slice pa pl.length pc) pl w3 (HPU.out.keep TW3.out) (by omega))
 have HDEL : Hid (∀ v W, Tch No w3 W -> OwnN w3 3 1 pl.length (pl.map (fun x => .int .i64 x)) v W -> Calls Tryz.prog 179 #[v, .func (.func 181) #[] #[.pointer (some ⟨bq, 0, none⟩)]] W fun e w' => ∃ v', e = .returned v' /\ OwnN w3 3 1 (keptM (fun n => decide (n = pt)) pl).length ((keptM (fun n => decide (n = pt)) pl).map (fun x => .int .i64 x)) v' w' /\ Tch No w3 w') := fun v W tW hW => by
  have := del_int w3 _ #[.pointer (some ⟨bq, 0, none⟩)] (enters_of Tryz.func181 rfl rfl) (fun n => decide (n = pt)) pl (fun x hx W' t' => by
   have := apply1_any x pt bq b2 o2 qc W' ((blk_cell (blk_tch t' HQ3.out (fun h => h)) 4).trans rfl) (HCQ.out W' (TW3.out.trans0 t'))
   rw [beq_dec] at this
   exact this) v W tW (by rw [flat_one]; exact hW) (by omega)
  rwa [flat_one] at this
 clear T3
 go_wp2_with fail
 refine HCL.out.mono ?_
 rintro e w4 ⟨a4, c4, rfl, O4, T4, _⟩
 have OO4 := Lib.hid O4
 have TT4 := Lib.hid T4
 clear O4 T4
 go_wp2_with fail
 refine (HDEL.out _ w4 TT4.out OO4.out).mono ?_
 rintro e w6 ⟨v6, rfl, O6, T6⟩
 obtain ⟨lft, hlft⟩ : ∃ l, keptM (fun n => decide (n = pt)) pl = l := ⟨_, rfl⟩
 have HLF := Lib.hid hlft
 rw [hlft] at O6
 obtain ⟨a6, n6, c6, rfl, hn6⟩ := own_shape' O6.1
 have hn6' : n6 = lft.length := hn6
 subst hn6'
 have OO6 := Lib.hid O6
 have TT6 : Hid (Tch No w3 w6) := T6
 have TW6 : Hid (Tch No w w6) := TW3.out.trans0 T6
 have HB6 := Lib.hid (blk_tch T6 HB3.out (fun h => h))
 have HQ6 := Lib.hid (blk_tch T6 HQ3.out (fun h => h))
 have HZ6 := Lib.hid (blk_tch T6 HZ3.out (fun h => h))
 have m8 : w6.cell? ⟨bs, 8, none⟩ = some (.slice (some ⟨b, o, none⟩) noes.length nc) := (blk_cell HB6.out 8).trans rfl
 have m1 : w6.cell? ⟨bq, 1, none⟩ = some (.int .i64 tid) := (blk_cell HQ6.out 1).trans rfl
 have HWO := Lib.hid (swithout_own prn (by have := HLN.out; omega) tid (.slice (some ⟨b, o, none⟩) noes.length nc) w6 (HCN.out.keep TW6.out) (fun x hx => by
  obtain ⟨a, c, e, _⟩ := CellsAt.shape (HIN.out x hx)
  exact ⟨a, _, c, e⟩))
 clear O6 T6 hlft hn6 d8 e1
 go_wp2_with fail
 refine HWO.out.mono ?_
 rintro e w7 ⟨v7, rfl, O7, T7⟩
 obtain ⟨ax, nx, cx, rfl, hnx⟩ := own_shape' O7.1
 have HNX : Hid (nx = (keptM (fun x : PendM × Value => decide (x.1.tid = tid)) prn).length) := hnx
 have OO7 := Lib.hid O7
 have TT7 := Lib.hid T7
 have HB7 := Lib.hid (blk_tch T7 HB6.out (fun h => h))
 have HZ7 := Lib.hid (blk_tch T7 HZ6.out (fun h => h))
 have HQ7 := Lib.hid (blk_tch T7 HQ6.out (fun h => h))
 have m8 : w7.cell? ⟨bs, 8, none⟩ = some (.slice (some ⟨b, o, none⟩) noes.length nc) := (blk_cell HB7.out 8).trans rfl
 have mf8 := blk_free HB7.out 8
 obtain ⟨w8, hw8⟩ : ∃ x, w7.setCell ⟨bs, 8, none⟩ (.slice ax nx cx) = x := ⟨_, rfl⟩
 have T8 : Hid (Tch (fun q => q = bs) w7 w8) := by rw [Hid, <- hw8]; exact Tch.setCell (F := (fun q => q = bs)) _ _ _ (fun _ => rfl)
 have HB8 : Hid (w8.heap[bs]? = some (.cells #[.int .i64 brk, .int .i64 nid, .int .i64 nseq, .int .i64 tx, .slice ma ms.length mc, .slice wa waits.length wk, .slice ea ends.length ec, .slice oa opens.length oc, .slice ax nx cx] 29 (0, 0))) := by rw [Hid, <- hw8]; exact blk_set HB7.out 8 _
 have HZ8 := Lib.hid (blk_tch T8.out HZ7.out (by have := HLT.out; show ¬ bz = bs; omega))
 have HQ8 := Lib.hid (blk_tch T8.out HQ7.out (by have := HLT.out; show ¬ bq = bs; omega))
 have TW8 : Hid (Tch No w w8) := (TW6.out.trans0 TT7.out).fresh T8.out (fun q h => by have := HLT.out; omega)
 have HS8 : Hid (w1.heap.size <= w3.heap.size /\ w3.heap.size <= w6.heap.size /\ w6.heap.size <= w7.heap.size /\ w7.heap.size <= w8.heap.size) := ⟨TT3.out.size, TT6.out.size, TT7.out.size, T8.out.size⟩
 have O8 : Hid (OwnN w6 75 2 (keptM (fun x : PendM × Value => decide (x.1.tid = tid)) prn).length ((keptM (fun x : PendM × Value => decide (x.1.tid = tid)) prn).flatMap (encPr (fun q : PendM => q.tid))) (.slice ax nx cx) w8) := ⟨own_tch O7.1 T8.out (fun k hk e => by have g2 := O7.2 k hk; have g3 := HLT.out; have g4 := HS8.out; omega), O7.2⟩
 have OL8 : Hid (OwnN w3 3 1 lft.length (lft.map (fun x => .int .i64 x)) (.slice a6 lft.length c6) w8) := ⟨own_tch OO6.out.1 (TT7.out.no.trans T8.out (fun _ _ h => h)) (fun k hk e => by have g2 := OO6.out.2 k hk; have g3 := HLT.out; have g4 := HS8.out; omega), OO6.out.2⟩
 clear O7 T7 hnx
 by_cases hle : lft = []
 ·have HLE := Lib.hid hle
  have hl0 : lft.length = 0 := by rw [hle]; rfl
  have HBX := HB8
  have HZX := HZ8
  obtain ⟨wz, hwz, HRZ, TZ⟩ := kx9 (W := w8) (b := bz) (T := 29) (.int .i64 brk) (.int .i64 nid) (.int .i64 nseq) (.int .i64 tx) (.slice ma ms.length mc) (.slice wa waits.length wk) (.slice ea ends.length ec) (.slice oa opens.length oc) (.slice ax nx cx) HZX.out
  rw [HBZ.out] at hwz
  obtain ⟨l0, l1, l2, l3, l4, l5, l6, l7, l8⟩ := kc9 HBX.out
  obtain ⟨r0, r1, r2, r3, r4, r5, r6, r7, r8⟩ := kc9 (W := w8) (b := bq + 1) (by rw [<- HBZ.out]; exact HZX.out)
  obtain ⟨fr0, fr1, fr2, fr3, fr4, fr5, fr6, fr7, fr8⟩ := kf9 (W := w8) (b := bq + 1) (by rw [<- HBZ.out]; exact HZX.out)
  go_wp2_with fail
  obtain ⟨q0, q1, q2, q3, q4, q5, q6, q7, q8⟩ := kc9 (W := wz) (b := bq + 1) (by rw [<- HBZ.out]; exact HRZ.out)
  refine bodyPost_ret (v := .agg #[.int .i64 brk, .int .i64 nid, .int .i64 nseq, .int .i64 tx, .slice ma ms.length mc, .slice wa waits.length wk, .slice ea ends.length ec, .slice oa opens.length oc, .slice ax nx cx]) (by simp [results, Tryz.results68, go_sem, q0, q1, q2, q3, q4, q5, q6, q7, q8]) rfl ?_
  have glt := HLT.out
  have tX : Tch (fun q => q = bs) w1 w8 := ((TT3.out.trans0 TT6.out).trans0 TT7.out).no.trans T8.out (fun _ _ h => h)
  have tz1 : Tch (fun q => q = bs ∨ q = bz) w1 wz := (tX.mono (G := fun q => q = bs ∨ q = bz) (fun _ _ h => .inl h)).trans (TZ.out.mono (G := fun q => q = bs ∨ q = bz) (fun _ _ h => .inr h)) (fun _ _ h => h)
  have g8 := HS8.out
  have e : doM ⟨brk, nid, nseq, tx, ms, waits, ends, opens, noes⟩ ⟨9, tid, rid, yes, [pt], puts⟩ = ⟨brk, nid, nseq, tx, ms, waits, ends, opens, delP (·.tid) noes tid⟩ := by
   have h1 := HFND.out
   have h2 := HLF.out
   have h3 := HLE.out
   unfold keptM at h2
   simp [doM, h1, h2, h3]
  have tail : Tch No WE wz := TV1.out.fresh tz1 (fun q h => by omega)
  refine ⟨_, rfl, ?_, tail⟩
  rw [e]
  refine ⟨_, _, _, _, _, prb, pro, (keptM (fun x : PendM × Value => decide (x.1.tid = tid)) prn), rfl, HMB0.out, HMO0.out, by rw [map_kept (fun x : PendM => decide (x.tid = tid)), HMN.out]; rfl, fun W2 t2 => ?_⟩
  have gst := HST.out W2 (tail.no.trans t2 (fun i hi h => h.1))
  have t8A : Tch (fun q => q = bs ∨ q = bz ∨ q < WE.heap.size) w8 W2 := (TZ.out.mono (G := (fun q => q = bs ∨ q = bz ∨ q < WE.heap.size)) (fun q _ h => .inr (.inl h))).trans (t2.mono (G := (fun q => q = bs ∨ q = bz ∨ q < WE.heap.size)) (fun q _ h => .inr (.inr h.2))) (fun _ _ h => h)
  have h1 := own_tch O8.out.1 t8A (fun q hq e => by have g1 := O8.out.2 q hq; omega)
  have e8 := HNX.out
  subst e8
  refine ⟨gst.ms, gst.cb, gst.ib, gst.en, gst.co, gst.io, CellsAt.ofRow h1, fun p hp => gst.inn p (List.mem_filter.1 hp).1⟩
 ·have hl0 : 0 < lft.length := List.length_pos_iff.2 hle
  have HLE := Lib.hid hle
  have hkp : (keptM (fun x : PendM × Value => decide (x.1.tid = tid)) prn).map Prod.fst = delP (fun p : PendM => p.tid) noes tid := by rw [map_kept (fun x : PendM => decide (x.tid = tid)), HMN.out]; rfl
  have hll : lft.length <= 100000 := by rw [<- HLF.out]; exact Nat.le_trans (keptM_le _ _) hpln
  have hkl : (keptM (fun x : PendM × Value => decide (x.1.tid = tid)) prn).length <= 100000 := by have := keptM_le (fun x : PendM × Value => decide (x.1.tid = tid)) prn; have := HLN.out; omega
  have HWI := Lib.hid (swith_own (keptM (fun x : PendM × Value => decide (x.1.tid = tid)) prn) (by rw [hkp]; exact strictB_filter _ OK.out.risen) (by omega) tid lft (by omega) (.slice ax nx cx) (.slice a6 lft.length c6) w8 (CellsAt.ofRow O8.out.1) (fun p hp => (HIN.out p (List.mem_filter.1 hp).1).keep TW8.out) (CellsAt.ofRow OL8.out.1))
  have HKP := Lib.hid hkp
  have y8 : w8.cell? ⟨bs, 8, none⟩ = some (.slice ax nx cx) := (blk_cell HB8.out 8).trans rfl
  have y1 : w8.cell? ⟨bq, 1, none⟩ = some (.int .i64 tid) := (blk_cell HQ8.out 1).trans rfl
  clear hkp hkl hle
  go_wp2_with fail
  refine HWI.out.mono ?_
  rintro e w9 ⟨v9, vq, rfl, O9, I9, T9⟩
  obtain ⟨bx, mx, dx, rfl, hmx⟩ := own_shape' O9.1
  have OO9 := Lib.hid O9
  have II9 := Lib.hid I9
  have TT9 := Lib.hid T9
  have HMX : Hid (mx = (keptM (fun x : PendM × Value => decide (x.1.tid = tid)) prn).length + 1) := hmx
  clear O9 I9 T9 hmx
  have HB9 := Lib.hid (blk_tch TT9.out HB8.out (fun h => h))
  have HZ9 := Lib.hid (blk_tch TT9.out HZ8.out (fun h => h))
  obtain ⟨wa2, hwa2⟩ : ∃ x, w9.setCell ⟨bs, 8, none⟩ (.slice bx mx dx) = x := ⟨_, rfl⟩
  have TA : Hid (Tch (fun q => q = bs) w9 wa2) := by rw [Hid, <- hwa2]; exact Tch.setCell (F := (fun q => q = bs)) _ _ _ (fun _ => rfl)
  have HBX : Hid (wa2.heap[bs]? = some (.cells #[.int .i64 brk, .int .i64 nid, .int .i64 nseq, .int .i64 tx, .slice ma ms.length mc, .slice wa waits.length wk, .slice ea ends.length ec, .slice oa opens.length oc, .slice bx mx dx] 29 (0, 0))) := by rw [Hid, <- hwa2]; exact blk_set HB9.out 8 _
  have HZX := Lib.hid (blk_tch TA.out HZ9.out (by have := HLT.out; show ¬ bz = bs; omega))
  have zz8 : w9.cell? ⟨bs, 8, none⟩ = some (.slice ax nx cx) := (blk_cell HB9.out 8).trans rfl
  have zzf8 := blk_free HB9.out 8
  obtain ⟨wz, hwz, HRZ, TZ⟩ := kx9 (W := wa2) (b := bz) (T := 29) (.int .i64 brk) (.int .i64 nid) (.int .i64 nseq) (.int .i64 tx) (.slice ma ms.length mc) (.slice wa waits.length wk) (.slice ea ends.length ec) (.slice oa opens.length oc) (.slice bx mx dx) HZX.out
  rw [HBZ.out] at hwz
  obtain ⟨l0, l1, l2, l3, l4, l5, l6, l7, l8⟩ := kc9 HBX.out
  obtain ⟨r0, r1, r2, r3, r4, r5, r6, r7, r8⟩ := kc9 (W := wa2) (b := bq + 1) (by rw [<- HBZ.out]; exact HZX.out)
  obtain ⟨fr0, fr1, fr2, fr3, fr4, fr5, fr6, fr7, fr8⟩ := kf9 (W := wa2) (b := bq + 1) (by rw [<- HBZ.out]; exact HZX.out)
  go_wp2_with fail
  obtain ⟨q0, q1, q2, q3, q4, q5, q6, q7, q8⟩ := kc9 (W := wz) (b := bq + 1) (by rw [<- HBZ.out]; exact HRZ.out)
  refine bodyPost_ret (v := .agg #[.int .i64 brk, .int .i64 nid, .int .i64 nseq, .int .i64 tx, .slice ma ms.length mc, .slice wa waits.length wk, .slice ea ends.length ec, .slice oa opens.length oc, .slice bx mx dx]) (by simp [results, Tryz.results68, go_sem, q0, q1, q2, q3, q4, q5, q6, q7, q8]) rfl ?_
  have glt := HLT.out
  have tX : Tch (fun q => q = bs) w1 wa2 := (((TT3.out.trans0 TT6.out).trans0 TT7.out).no.trans T8.out (fun _ _ h => h)).trans (TT9.out.no.trans TA.out (fun _ _ h => h)) (fun _ _ h => h)
  have tz1 : Tch (fun q => q = bs ∨ q = bz) w1 wz := (tX.mono (G := fun q => q = bs ∨ q = bz) (fun _ _ h => .inl h)).trans (TZ.out.mono (G := fun q => q = bs ∨ q = bz) (fun _ _ h => .inr h)) (fun _ _ h => h)
  have g8 := HS8.out
  have e : doM ⟨brk, nid, nseq, tx, ms, waits, ends, opens, noes⟩ ⟨9, tid, rid, yes, [pt], puts⟩ = ⟨brk, nid, nseq, tx, ms, waits, ends, opens, insP (·.tid) (delP (·.tid) noes tid) ⟨tid, lft⟩⟩ := by
   have h1 := HFND.out
   have h2 := HLF.out
   have h3 := HLE.out
   unfold keptM at h2
   simp [doM, h1, h2, h3]
  have tail : Tch No WE wz := TV1.out.fresh tz1 (fun q h => by omega)
  refine ⟨_, rfl, ?_, tail⟩
  rw [e]
  refine ⟨_, _, _, _, _, prb, pro, ((keptM (fun x : PendM × Value => decide (x.1.tid = tid)) prn).take (posP (·.tid) ((keptM (fun x : PendM × Value => decide (x.1.tid = tid)) prn).map Prod.fst) tid) ++ ((⟨tid, lft⟩ : PendM), vq) :: (keptM (fun x : PendM × Value => decide (x.1.tid = tid)) prn).drop (posP (·.tid) ((keptM (fun x : PendM × Value => decide (x.1.tid = tid)) prn).map Prod.fst) tid)), rfl, HMB0.out, HMO0.out, by have h9 := insP_prs (fun q : PendM => q.tid) (keptM (fun x : PendM × Value => decide (x.1.tid = tid)) prn) ⟨tid, lft⟩ vq; rw [HKP.out] at h9 ⊢; exact h9, fun W2 t2 => ?_⟩
  have gst := HST.out W2 (tail.no.trans t2 (fun i hi h => h.1))
  have t9A : Tch (fun q => q = bs ∨ q = bz ∨ q < WE.heap.size) w9 W2 := ((TA.out.mono (G := (fun q => q = bs ∨ q = bz ∨ q < WE.heap.size)) (fun q _ h => .inl h)).trans (TZ.out.mono (G := (fun q => q = bs ∨ q = bz ∨ q < WE.heap.size)) (fun q _ h => .inr (.inl h))) (fun _ _ h => h)).trans (t2.mono (G := (fun q => q = bs ∨ q = bz ∨ q < WE.heap.size)) (fun q _ h => .inr (.inr h.2))) (fun _ _ h => h)
  have gw := with_read HKP.out OO9.out HMX.out II9.out t9A (fun q hq => by omega) (fun p hp => gst.inn p (List.mem_filter.1 hp).1)
  refine ⟨gst.ms, gst.cb, gst.ib, gst.en, gst.co, gst.io, gw.2.1, gw.2.2⟩
end
section
open Go.RowKit Go.Maps
theorem kb9 {w : World} {b : Nat} {c0 c1 c2 c3 c4 c5 c6 c7 c8 : Value} (h : BoxAt w b [c0, c1, c2, c3, c4, c5, c6, c7, c8]) : (∀ p : TchW w, p.wo.cell? ⟨b, 0, none⟩ = some c0) /\ (∀ p : TchW w, p.wo.cell? ⟨b, 1, none⟩ = some c1) /\ (∀ p : TchW w, p.wo.cell? ⟨b, 2, none⟩ = some c2) /\ (∀ p : TchW w, p.wo.cell? ⟨b, 3, none⟩ = some c3) /\ (∀ p : TchW w, p.wo.cell? ⟨b, 4, none⟩ = some c4) /\ (∀ p : TchW w, p.wo.cell? ⟨b, 5, none⟩ = some c5) /\ (∀ p : TchW w, p.wo.cell? ⟨b, 6, none⟩ = some c6) /\ (∀ p : TchW w, p.wo.cell? ⟨b, 7, none⟩ = some c7) /\ (∀ p : TchW w, p.wo.cell? ⟨b, 8, none⟩ = some c8) := ⟨fun p => (h.keep p.t) 0 _ rfl, fun p => (h.keep p.t) 1 _ rfl, fun p => (h.keep p.t) 2 _ rfl, fun p => (h.keep p.t) 3 _ rfl, fun p => (h.keep p.t) 4 _ rfl, fun p => (h.keep p.t) 5 _ rfl, fun p => (h.keep p.t) 6 _ rfl, fun p => (h.keep p.t) 7 _ rfl, fun p => (h.keep p.t) 8 _ rfl⟩
theorem kb6 {w : World} {b : Nat} {c0 c1 c2 c3 c4 c5 : Value} (h : BoxAt w b [c0, c1, c2, c3, c4, c5]) : (∀ p : TchW w, p.wo.cell? ⟨b, 0, none⟩ = some c0) /\ (∀ p : TchW w, p.wo.cell? ⟨b, 1, none⟩ = some c1) /\ (∀ p : TchW w, p.wo.cell? ⟨b, 2, none⟩ = some c2) /\ (∀ p : TchW w, p.wo.cell? ⟨b, 3, none⟩ = some c3) /\ (∀ p : TchW w, p.wo.cell? ⟨b, 4, none⟩ = some c4) /\ (∀ p : TchW w, p.wo.cell? ⟨b, 5, none⟩ = some c5) := ⟨fun p => (h.keep p.t) 0 _ rfl, fun p => (h.keep p.t) 1 _ rfl, fun p => (h.keep p.t) 2 _ rfl, fun p => (h.keep p.t) 3 _ rfl, fun p => (h.keep p.t) 4 _ rfl, fun p => (h.keep p.t) 5 _ rfl⟩

theorem box2a (w : World) (cs cs' : Array Value) (t t' : TypeId) : BoxAt ((w.alloc (.cells cs t)).alloc (.cells cs' t')) w.heap.size cs.toList := (BoxAt.made w cs t).keep (Tch.alloc _ _)
theorem box2b (w : World) (cs cs' : Array Value) (t t' : TypeId) : BoxAt ((w.alloc (.cells cs t)).alloc (.cells cs' t')) (w.heap.size + 1) cs'.toList := by
 have := BoxAt.made (w.alloc (.cells cs t)) cs' t'
 rwa [size_alloc] at this
end
section
open Go.RowKit Go.Maps
theorem find_at {α : Type} (f : α -> Int) (l : List α) (t : Int) : (hasP f l t = false /\ atI f l t = -1 /\ l.find? (fun x => decide (f x = t)) = none) ∨ ∃ k, ∃ h : k < l.length, hasP f l t = true /\ atI f l t = (k : Int) /\ l.find? (fun x => decide (f x = t)) = some l[k] := by
 rcases atI_cases f l t with ⟨h1, h2⟩ | ⟨k, hk, h1, h2, h3, h4⟩
 ·left
  refine ⟨h1, h2, ?_⟩
  rw [List.find?_eq_none]
  intro x hx hd
  have : hasP f l t = true := hasP_iff.2 ⟨x, hx, by simpa using hd⟩
  rw [h1] at this; cases this
 ·right
  refine ⟨k, hk, h3, h1, ?_⟩
  rw [List.find?_eq_some_iff_getElem]
  exact ⟨by simpa using h2, k, hk, rfl, fun j hj => by simpa using h4 j (by omega) hj⟩
end
end Go.Proofs.YtafndmnbnmlklaaGreat
