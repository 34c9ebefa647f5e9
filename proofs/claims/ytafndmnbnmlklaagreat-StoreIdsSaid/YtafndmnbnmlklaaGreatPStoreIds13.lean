/- Part 13 of what the proof of StoreIds rests on. No condition. -/
import Derived.Test.YtafndmnbnmlklaaGreatPStoreIds09
import Derived.Test.YtafndmnbnmlklaaGreatPStoreIds11
import Derived.Test.YtafndmnbnmlklaaGreatPStoreIds12
namespace Go.Proofs.YtafndmnbnmlklaaGreat
set_option maxRecDepth 100000
set_option maxHeartbeats 60000000
set_option linter.unusedVariables false
set_option linter.unusedSimpArgs false
set_option linter.unusedSectionVars false
section
open Go.RowKit Go.Maps
theorem map_kept {α β : Type} (p : α -> Bool) : ∀ l : List (α × β), (keptM (fun x => p x.1) l).map Prod.fst = keptM p (l.map Prod.fst)
 | [] => rfl
 | a :: r => by
  unfold keptM
  have ih := map_kept p r
  unfold keptM at ih
  cases h : p a.1 <;> simp [List.filter_cons, h, ih]
theorem beq_dec (a b : Int) : (a == b) = decide (a = b) := by by_cases h : a = b <;> simp [h]
theorem swithout_own (prs : List (PendM × Value)) (hn : prs.length <= 10000000) (t : Int) (v : Value) (w : World) (hc : IsL (encPr (fun q : PendM => q.tid)) 2 w v prs) (hsl : ∀ x ∈ prs, ∃ a n c, x.2 = .slice a n c) :
  Calls Tryz.prog 182 #[v, .int .i64 t] w fun e w' => ∃ v', e = .returned v' /\ OwnN w 75 2 (keptM (fun x : PendM × Value => decide (x.1.tid = t)) prs).length ((keptM (fun x : PendM × Value => decide (x.1.tid = t)) prs).flatMap (encPr (fun q : PendM => q.tid))) v' w' /\ Tch No w w' := by
 have hone : Ones (prs.flatMap (encPr (fun q : PendM => q.tid))) := ones_pr (fun p hp => by obtain ⟨_, _, _, e⟩ := hsl p hp; rw [e]; rfl)
 obtain ⟨n, hln⟩ : ∃ n, prs.length = n := ⟨_, rfl⟩
 have hc0 : CellsAt w v n 2 (prs.flatMap (encPr (fun q : PendM => q.tid))) := by rw [<- hln]; exact hc
 obtain ⟨a, c, rfl, _, _⟩ := CellsAt.shape hc0
 have HCl := Lib.hid (fun W (t : Tch No w W) => clone_pend (.slice a n c) n _ W (hc0.keep t) hone (by omega))
 have HDel : Hid (∀ w0 : World, Tch No w w0 -> w0.cell? ⟨w.heap.size, 0, none⟩ = some (.int .i64 t) -> ∀ v W, Tch No w0 W -> OwnN w0 75 2 n (prs.flatMap (encPr (fun q : PendM => q.tid))) v W ->
   Calls Tryz.prog 232 #[v, .func (.func 233) #[] #[.pointer (some ⟨w.heap.size, 0, none⟩)]] W fun e w' => ∃ v', e = .returned v' /\ OwnN w0 75 2 (keptM (fun x : PendM × Value => decide (x.1.tid = t)) prs).length ((keptM (fun x : PendM × Value => decide (x.1.tid = t)) prs).flatMap (encPr (fun q : PendM => q.tid))) v' w' /\ Tch No w0 w') := fun w0 t0 hcell v W tW hW =>
  del_pend w0 _ _ (enters_of Tryz.func233 rfl rfl) (fun x => decide (x.1.tid = t)) prs hsl (fun x hx W' t' => by
   obtain ⟨_, _, _, e⟩ := hsl x hx
   have := without1_any x.1.tid t x.2 (by rw [e]; rfl) w.heap.size W' (t'.cell hcell (fun h => h))
   rw [beq_dec] at this
   exact this) v W tW (by rw [hln]; exact hW) (by omega)
 clear hc hone hsl hln hc0
 go_enter Tryz.func182, Tryz.ntmps182
 go_wp2_with fail
 refine (HCl.out _ (Tch.alloc _ _)).mono ?_
 rintro e w1 ⟨a1, c1, rfl, O1, T1, _⟩
 have OO1 := Lib.hid O1
 have TT1 := Lib.hid T1
 clear O1 T1
 go_wp2_with fail
 refine (HDel.out _ (Tch.alloc _ _) (box_cell w #[.int .i64 t] _ 0 (by simp)) _ w1 TT1.out OO1.out).mono ?_
 rintro e w2 ⟨v', rfl, O2, T2⟩
 have OO2 := Lib.hid O2
 have TT2 : Hid (Tch No w w2) := (Tch.alloc _ _).trans0 T2
 clear O2 T2
 go_wp2
 go_ret
 exact ⟨v', rfl, ⟨OO2.out.1, fun b hb => Nat.le_trans (Tch.alloc _ _).size (OO2.out.2 b hb)⟩, TT2.out⟩
theorem insP_prs {α : Type} (f : α -> Int) (prs : List (α × Value)) (x : α) (y : Value) : (prs.take (posP f (prs.map Prod.fst) (f x)) ++ (x, y) :: prs.drop (posP f (prs.map Prod.fst) (f x))).map Prod.fst = insP f (prs.map Prod.fst) x := by
 rw [insP_eq, List.map_append, List.map_cons, List.map_take, List.map_drop]
theorem mem_ins2 {α : Type} {l : List α} {k : Nat} {x p : α} (h : p ∈ l.take k ++ x :: l.drop k) : p = x ∨ p ∈ l := by
 rcases List.mem_append.1 h with h | h
 ·exact .inr (List.mem_of_mem_take h)
 ·rcases List.mem_cons.1 h with h | h
  ·exact .inl h
  ·exact .inr (List.mem_of_mem_drop h)
theorem len_ins2 {α : Type} {l : List α} {k : Nat} {x : α} : (l.take k ++ x :: l.drop k).length = l.length + 1 := by
 rw [List.length_append, List.length_take, List.length_cons, List.length_drop]; omega
theorem pos_map_le {α : Type} (f : α -> Int) (prs : List (α × Value)) (t : Int) : posP f (prs.map Prod.fst) t <= prs.length := by
 have := posP_le f (prs.map Prod.fst) t
 rwa [List.length_map] at this
theorem swith_own (prs : List (PendM × Value)) (hs : strictB ((prs.map Prod.fst).map (·.tid)) = true) (hn : prs.length <= 10000000) (t : Int) (ps : List Int) (hps : ps.length <= 10000000) (v vp : Value) (w : World) (hc : IsL (encPr (fun q : PendM => q.tid)) 2 w v prs) (hi : ∀ p ∈ prs, IsInts w p.2 p.1.parts) (hp : IsInts w vp ps) :
  Calls Tryz.prog 178 #[v, .int .i64 t, vp] w fun e w' => ∃ v' vq, e = .returned v' /\ OwnN w 75 2 (prs.length + 1) ((prs.take (posP (·.tid) (prs.map Prod.fst) t) ++ ((⟨t, ps⟩ : PendM), vq) :: prs.drop (posP (·.tid) (prs.map Prod.fst) t)).flatMap (encPr (fun q : PendM => q.tid))) v' w' /\ OwnN w 3 1 ps.length (ps.map (fun x => .int .i64 x)) vq w' /\ Tch No w w' := by
 have hpend : IsPends w v (prs.map Prod.fst) := pends_pairs.2 ⟨prs, rfl, hc, hi⟩
 have HPe := Lib.hid (pends_any (prs.map Prod.fst) hs (by rw [List.length_map]; omega) t v w hpend)
 have hone : Ones (prs.flatMap (encPr (fun q : PendM => q.tid))) := ones_pr (fun p hp => by obtain ⟨_, _, e, _⟩ := CellsAt.shape (hi p hp); rw [e]; rfl)
 obtain ⟨a, c, rfl, _, _⟩ := CellsAt.shape hc
 obtain ⟨pa, pc, rfl, _, _⟩ := CellsAt.shape hp
 have HCl := Lib.hid (fun W (t : Tch No w W) => clone_pend (.slice a prs.length c) prs.length _ W (hc.keep t) hone (by omega))
 have HCi := Lib.hid (fun W (t : Tch No w W) => clone_int (.slice pa ps.length pc) ps W (hp.keep t) (by omega))
 obtain ⟨k, hk⟩ : ∃ k, posP (·.tid) (prs.map Prod.fst) t = k := ⟨_, rfl⟩
 have hkl : k <= prs.length := by rw [<- hk]; exact pos_map_le _ _ _
 rw [hk] at HPe
 rw [hk]
 have HON := Lib.hid hone
 have HN : Hid (prs.length <= 10000000) := hn
 have HKL := Lib.hid hkl
 clear hc hone hi hk hs hp hps hkl hpend
 go_enter Tryz.func178, Tryz.ntmps178
 go_wp2_with fail
 refine HPe.out.mono ?_
 rintro e w1 ⟨rfl, T1⟩
 have TT1 := Lib.hid T1
 clear T1
 go_wp2_with fail
 refine (HCl.out _ TT1.out).mono ?_
 rintro e w2 ⟨a1, c1, rfl, O2, T2, _⟩
 have OO2 := Lib.hid O2
 have TT2 := Lib.hid T2
 clear O2 T2
 go_wp2_with fail
 refine (HCi.out _ (TT1.out.trans0 TT2.out)).mono ?_
 rintro e w3 ⟨a2, c2, rfl, O3, T3, _⟩
 have OO3 := Lib.hid O3
 have TT3 := Lib.hid T3
 clear O3 T3
 go_wp2_with fail
 refine (ins_pend w1 prs.length k _ w3.heap.size #[.int .i64 t, .slice a2 ps.length c2] (w3.alloc (.cells #[.int .i64 t, .slice a2 ps.length c2] 75)) (.slice a1 prs.length c1) HKL.out ((TT2.out.trans0 TT3.out).trans0 (Tch.alloc _ _)) (stb_own _ _ _ (TT3.out.trans0 (Tch.alloc _ _)) OO2.out) HN.out HON.out (blk_new _ _) rfl (fun u hu => by
  simp only [List.mem_cons, List.not_mem_nil, or_false] at hu
  rcases hu with rfl | rfl <;> rfl) (fun _ e => Nat.lt_irrefl _ ((own_tch OO2.out.1 TT3.out (fun _ _ h => h)).lt _ e).2)).mono ?_
 rintro e w4 ⟨v', rfl, O4, T4, U4⟩
 have OO4 := Lib.hid O4
 have TT4 : Hid (Tch No w w4) := TT1.out.trans0 T4
 have TI : Hid (OwnN w 3 1 ps.length (ps.map (fun x => .int .i64 x)) (.slice a2 ps.length c2) w4) := by
  have h3 := own_tch (own_tch OO3.out.1 (Tch.alloc w3 (.cells #[.int .i64 t, .slice a2 ps.length c2] 75)) (fun _ _ h => h)) U4 (fun k hk e => by
   have h1 := OO3.out.2 k hk
   have h2 := (OO2.out.1.lt k e).2
   omega)
  exact ⟨h3, fun b hb => by have z1 := OO3.out.2 b hb; have z2 := TT1.out.size; have z3 := TT2.out.size; omega⟩
 clear O4 T4 U4
 go_wp2
 go_ret
 refine ⟨v', .slice a2 ps.length c2, rfl, ⟨?_, fun b hb => Nat.le_trans TT1.out.size (OO4.out.2 b hb)⟩, TI.out, TT4.out⟩
 have hcc := OO4.out.1
 rw [List.flatMap_append, List.flatMap_cons]
 rw [flat_take (m := 2) (fun _ => rfl), flat_drop (m := 2) (fun _ => rfl), List.append_assoc] at hcc
 exact hcc
end
section
open Go.RowKit Go.Maps
structure StAt (vm vw ve vo vn : Value) (s : StM) (prb : List (BrM × Value)) (pro prn : List (PendM × Value)) (W : World) : Prop where
 ms : IsMsgs W vm s.ms
 cb : IsL (encPr (fun q : BrM => q.tid)) 2 W vw prb
 ib : ∀ p ∈ prb, IsPuts W p.2 p.1.puts
 en : IsEnds W ve s.ends
 co : IsL (encPr (fun q : PendM => q.tid)) 2 W vo pro
 io : ∀ p ∈ pro, IsInts W p.2 p.1.parts
 cn : IsL (encPr (fun q : PendM => q.tid)) 2 W vn prn
 inn : ∀ p ∈ prn, IsInts W p.2 p.1.parts
def StW (Al : World -> Prop) (v : Value) (s : StM) : Prop :=
 ∃ vm vw ve vo vn prb pro prn, v = .agg #[.int .i64 s.broker, .int .i64 s.nid, .int .i64 s.nseq, .int .i64 s.tx, vm, vw, ve, vo, vn] /\ prb.map Prod.fst = s.waits /\ pro.map Prod.fst = s.opens /\ prn.map Prod.fst = s.noes /\ ∀ W, Al W -> StAt vm vw ve vo vn s prb pro prn W
theorem StAt.keep {vm vw ve vo vn : Value} {s : StM} {prb : List (BrM × Value)} {pro prn : List (PendM × Value)} {W W' : World} (h : StAt vm vw ve vo vn s prb pro prn W) (t : Tch No W W') : StAt vm vw ve vo vn s prb pro prn W' :=
 ⟨h.ms.keep t, CellsAt.keep h.cb t, fun p hp => (h.ib p hp).keep t, h.en.keep t, CellsAt.keep h.co t, fun p hp => (h.io p hp).keep t, CellsAt.keep h.cn t, fun p hp => (h.inn p hp).keep t⟩
theorem StW.is {Al : World -> Prop} {v : Value} {s : StM} (h : StW Al v s) {W : World} (hW : Al W) : IsSt W v s := by
 obtain ⟨vm, vw, ve, vo, vn, prb, pro, prn, e, h1, h2, h3, h4⟩ := h
 have g := h4 W hW
 exact ⟨vm, vw, ve, vo, vn, e, g.ms, brs_pairs.2 ⟨prb, h1, g.cb, g.ib⟩, g.en, pends_pairs.2 ⟨pro, h2, g.co, g.io⟩, pends_pairs.2 ⟨prn, h3, g.cn, g.inn⟩⟩
theorem StW.mono {Al Al' : World -> Prop} {v : Value} {s : StM} (h : StW Al v s) (hA : ∀ W, Al' W -> Al W) : StW Al' v s := by
 obtain ⟨vm, vw, ve, vo, vn, prb, pro, prn, e, h1, h2, h3, h4⟩ := h
 exact ⟨vm, vw, ve, vo, vn, prb, pro, prn, e, h1, h2, h3, fun W hW => h4 W (hA W hW)⟩
theorem StW.of {v : Value} {s : StM} {w : World} (h : IsSt w v s) : StW (Tch No w) v s := by
 obtain ⟨vm, vw, ve, vo, vn, e, hm, hw, he, ho, hn⟩ := h
 obtain ⟨prb, h1, hcb, hib⟩ := brs_pairs.1 hw
 obtain ⟨pro, h2, hco, hio⟩ := pends_pairs.1 ho
 obtain ⟨prn, h3, hcn, hin⟩ := pends_pairs.1 hn
 exact ⟨vm, vw, ve, vo, vn, prb, pro, prn, e, h1, h2, h3, fun W t => ⟨hm.keep t, CellsAt.keep hcb t, fun p hp => (hib p hp).keep t, he.keep t, CellsAt.keep hco t, fun p hp => (hio p hp).keep t, CellsAt.keep hcn t, fun p hp => (hin p hp).keep t⟩⟩
theorem StW.none {Al : World -> Prop} {b n q t : Int} : StW Al (.agg #[.int .i64 b, .int .i64 n, .int .i64 q, .int .i64 t, .slice .none 0 0, .slice .none 0 0, .slice .none 0 0, .slice .none 0 0, .slice .none 0 0]) ⟨b, n, q, t, [], [], [], [], []⟩ :=
 ⟨_, _, _, _, _, [], [], [], rfl, rfl, rfl, rfl, fun W _ => ⟨CellsAt.nil _ _, CellsAt.nil _ _, fun p hp => (by cases hp), CellsAt.nil _ _, CellsAt.nil _ _, fun p hp => (by cases hp), CellsAt.nil _ _, fun p hp => (by cases hp)⟩⟩
end
end Go.Proofs.YtafndmnbnmlklaaGreat
