/- StoreOver: the law StoreOver returns true for every input, and each argument reads behind the call as it read before. No condition. -/
import Derived.Test.YtelaljoebdpicaaGreatPStoreOver11
import Derived.Test.YtelaljoebdpicaaGreatPStoreOver34
import Derived.Test.YtelaljoebdpicaaGreatPStoreOver37
import Derived.Test.YtelaljoebdpicaaGreatPStoreOver39
import Derived.Test.YtelaljoebdpicaaGreatPStoreOver41
import Derived.Test.YtelaljoebdpicaaGreatRows
import Derived.WalkKit
import Derived.ProofKit
import Derived.OpenShut
import Derived.ShutString
import Derived.ChangeOld
import Derived.Below
import Derived.SizedLaws
namespace Go.Proofs.YtelaljoebdpicaaGreat.storeOver
open Go.ChangeShapes Go.WideShapes Go.ChangeAt Go.RowKit Go.Maps
open Go.ChangeMaps (open_string shut_string)
set_option linter.unusedVariables false
set_option linter.unusedSimpArgs false

theorem own : ownKnob Tryz.prog.godebug = none := by kernel_rfl
theorem laidOut : laidOutB Tryz.prog = true := by kernel_rfl

set_option maxRecDepth 100000 in
set_option maxHeartbeats 8000000 in
theorem walk (v0 : Value) (s0 : StM) (v1 : Value) (r1 : RecM) (w : World) (w0 : ArgSt w v0 s0) (w1 : ArgRec w v1 r1) :
  Calls Tryz.prog 9 #[v0, v1] w fun e w' => e = .returned (.bool true) /\ Below w.heap.size w w' := by
 obtain ⟨br, ni, ns, tx, am, nm0, cm, aw, nw0, cw, ae, ne0, ce, ao, no0, co, an, nn0, cn, rfl⟩ := argst_vals w0
 obtain ⟨rk, rt, ri, ry, rap, rnp, rcp, rau, rnu, rcu, rfl⟩ := argrec_vals w1
 have HST := Lib.hid (state_sv w0)
 have HRC := Lib.hid (record_rv w1)
 clear w0 w1
 go_enter Tryz.func9, Tryz.ntmps9
 go_wp2_with fail
 obtain ⟨b1, hb1⟩ : ∃ x, w.heap.size = x := ⟨_, rfl⟩
 refine (begun10_any _).mono ?_
 rintro e wa ⟨rfl, ta⟩
 have B1 : Hid (wa.heap[b1]? = some (.cells #[.int .i64 br, .int .i64 ni, .int .i64 ns, .int .i64 tx, .slice am nm0 cm, .slice aw nw0 cw, .slice ae ne0 ce, .slice ao no0 co, .slice an nn0 cn] 27 (0, 0))) := by rw [<- hb1]; exact blk_tch ta (blk_tch (Tch.alloc _ _) (blk_new w _) (fun h => h)) (fun h => h)
 have B2 : Hid (wa.heap[b1 + 1]? = some (.cells #[.int .i64 rk, .int .i64 rt, .int .i64 ri, .bool ry, .slice rap rnp rcp, .slice rau rnu rcu] 37 (0, 0))) := by
  have := blk_new (w.alloc (.cells #[.int .i64 br, .int .i64 ni, .int .i64 ns, .int .i64 tx, .slice am nm0 cm, .slice aw nw0 cw, .slice ae ne0 ce, .slice ao no0 co, .slice an nn0 cn] 27)) (.cells #[.int .i64 rk, .int .i64 rt, .int .i64 ri, .bool ry, .slice rap rnp rcp, .slice rau rnu rcu] 37)
  rw [size_alloc, hb1] at this
  exact blk_tch ta this (fun h => h)
 have TA : Hid (Tch No w wa) := ((Tch.alloc w _).trans0 (Tch.alloc _ _)).trans0 ta
 have HB1 := Lib.hid hb1
 rw [hb1]
 obtain ⟨na, hna⟩ : ∃ x, wa.heap.size = x := ⟨_, rfl⟩
 have HNA : Hid (wa.heap.size = na /\ b1 + 1 < na) := ⟨hna, by rw [<- hna]; exact blk_lt B2.out⟩
 clear ta hb1 hna
 have mixed : Tryz.prog.follows .mixedOrders = true := by kernel_rfl
 go_upto_region 4 with fail
 refine frame_var 52 rfl (fun fr hfr hsz => ?_)
 have h2 : fr.eval (.tmp 2) = .pointer (some ⟨b1, 0, none⟩) := by rw [hfr.out]; rfl
 have h3 : fr.eval (.tmp 3) = .pointer (some ⟨b1 + 1, 0, none⟩) := by rw [hfr.out]; rfl
 have hlist : ∀ f ∈ ([(fun x _ => x = .agg #[.int .i64 br, .int .i64 ni, .int .i64 ns, .int .i64 tx, .slice am nm0 cm, .slice aw nw0 cw, .slice ae ne0 ce, .slice ao no0 co, .slice an nn0 cn]), (SV na), (fun x _ => x = .agg #[.int .i64 rk, .int .i64 rt, .int .i64 ri, .bool ry, .slice rap rnp rcp, .slice rau rnu rcu]), (RV na), (fun x _ => True), (fun x _ => True)] : List (Value -> World -> Prop)), Stb f :=
  all_mem1 ((pur_eq _).stb) (all_mem1 ((stb_sv _)) (all_mem1 ((pur_eq _).stb) (all_mem1 ((stb_rv _)) (all_mem1 (pur_any.stb) (all_mem1 (pur_any.stb) (all_mem0))))))
 refine wp_region_inv4 [4, 5] (fun i => ([[0], [0], [0], [0], [], []][i]?).getD []) (fun kst : Nat => match kst with | 0 => (fun W => Tch No wa W) | 1 => (fun W => (∃ A : Array Value, A.size = 9 /\ W.heap[b1]? = some (.cells A 27 (0, 0)) /\ SV na (.agg A) W) /\ W.heap[b1 + 1]? = some (.cells #[.int .i64 rk, .int .i64 rt, .int .i64 ri, .bool ry, .slice rap rnp rcp, .slice rau rnu rcu] 37 (0, 0)) /\ Tch (fun q => q = b1 ∨ q = b1 + 1) wa W) | _ => (fun W => (∃ A : Array Value, A.size = 9 /\ W.heap[b1]? = some (.cells A 27 (0, 0)) /\ SV na (.agg A) W) /\ (∃ A : Array Value, W.heap[b1 + 1]? = some (.cells A 37 (0, 0)) /\ RV na (.agg A) W) /\ Tch (fun q => q = b1 ∨ q = b1 + 1) wa W)) (RL [(fun x _ => x = .agg #[.int .i64 br, .int .i64 ni, .int .i64 ns, .int .i64 tx, .slice am nm0 cm, .slice aw nw0 cw, .slice ae ne0 ce, .slice ao no0 co, .slice an nn0 cn]), (SV na), (fun x _ => x = .agg #[.int .i64 rk, .int .i64 rt, .int .i64 ri, .bool ry, .slice rap rnp rcp, .slice rau rnu rcu]), (RV na), (fun x _ => True), (fun x _ => True)]) [1, 3] [10, 11, 12, 13] [(some 10, [2], []), (some 11, [10], [0]), (some 12, [3], []), (some 13, [12], [2, 1]), (none, [2, 11], [1, 3, 0, 1]), (none, [3, 13], [3, 4, 0, 1, 2, 3, 4])] (fun i => ([[], [0], [], [0, 1, 2], [0, 1, 2, 3], [0, 1, 2, 3, 4]][i]?).getD []) (fun i => ([[], [0], [], [2], [1], [3]][i]?).getD []) (fun i => ([[], [], [], [], [1], [1, 3]][i]?).getD []) (fun i => ([[1, 3], [3], [3], [], [], []][i]?).getD []) (by kernel_rfl) (by kernel_rfl) (by kernel_rfl) (by rw [hsz]; kernel_rfl) (by kernel_rfl) (by kernel_rfl) ?_ (rl_pur ?_) ?_ ?_ ?_
 ·exact Tch.drew _
 ·show ∀ j, j < 6 -> _ ∨ _
  refine all_lt1 (all_lt1 (all_lt1 (all_lt1 (all_lt1 (all_lt1 (all_lt0) (Or.inr (pur_eq _))) (Or.inl (by decide))) (Or.inr (pur_eq _))) (Or.inl (by decide))) (Or.inr pur_any)) (Or.inr pur_any)
 ·show ∀ i, i < 6 -> _
  refine all_lt1 (all_lt1 (all_lt1 (all_lt1 (all_lt1 (all_lt1 (all_lt0) ?c0) ?c1) ?c2) ?c3) ?c4) ?c5
  case c0 =>
   intro kst hkst
   replace hkst : kst ∈ ([0] : List Nat) := hkst
   simp only [List.mem_cons, List.not_mem_nil, or_false] at hkst
   rcases hkst with rfl
   ·exact iq (d := 10) (.agg #[.int .i64 br, .int .i64 ni, .int .i64 ns, .int .i64 tx, .slice am nm0 cm, .slice aw nw0 cw, .slice ae ne0 ce, .slice ao no0 co, .slice an nn0 cn]) rfl (fun _ _ => rfl) (fun a W hf hC hn => y_ldState (ρ := a.eval) (.tmp 2) (b := b1) (off := 0) rfl (hf.ev (by kernel_rfl) h2) W ((blk_cell (blk_tch hC B1.out (fun h => h)) 0).trans rfl) ((blk_cell (blk_tch hC B1.out (fun h => h)) 1).trans rfl) ((blk_cell (blk_tch hC B1.out (fun h => h)) 2).trans rfl) ((blk_cell (blk_tch hC B1.out (fun h => h)) 3).trans rfl) ((blk_cell (blk_tch hC B1.out (fun h => h)) 4).trans rfl) ((blk_cell (blk_tch hC B1.out (fun h => h)) 5).trans rfl) ((blk_cell (blk_tch hC B1.out (fun h => h)) 6).trans rfl) ((blk_cell (blk_tch hC B1.out (fun h => h)) 7).trans rfl) ((blk_cell (blk_tch hC B1.out (fun h => h)) 8).trans rfl))
  case c1 =>
   intro kst hkst
   replace hkst : kst ∈ ([0] : List Nat) := hkst
   simp only [List.mem_cons, List.not_mem_nil, or_false] at hkst
   rcases hkst with rfl
   ·refine istep_w ⟨some 11, _, _, _, _, none⟩ rfl (fun a w' hf hC hn => (iwanted_no rfl)) (fun a W hf hC hn K hK => ?_)
    refine w_call Tryz.func13 (by kernel_rfl) (by kernel_rfl) [.tmp 10] _ rfl [.agg #[.int .i64 br, .int .i64 ni, .int .i64 ns, .int .i64 tx, .slice am nm0 cm, .slice aw nw0 cw, .slice ae ne0 ce, .slice ao no0 co, .slice an nn0 cn]] (map1 (hn 0 (by decide))) (HST.out na W (TA.out.trans0 hC) (by have := hC.size; have := HNA.out; omega)) (fun e w' h => ?_)
    obtain ⟨v', he, h1, h2⟩ := h
    exact ⟨v', he, hK _ _ (hC.trans0 h2) h1 (fun j _ _ _ _ x h => rl_stb hlist j x _ _ h2 h)⟩
  case c2 =>
   intro kst hkst
   replace hkst : kst ∈ ([0] : List Nat) := hkst
   simp only [List.mem_cons, List.not_mem_nil, or_false] at hkst
   rcases hkst with rfl
   ·exact iq (d := 12) (.agg #[.int .i64 rk, .int .i64 rt, .int .i64 ri, .bool ry, .slice rap rnp rcp, .slice rau rnu rcu]) rfl (fun _ _ => rfl) (fun a W hf hC hn => y_ldRecord (ρ := a.eval) (.tmp 3) (b := b1 + 1) (off := 0) rfl (hf.ev (by kernel_rfl) h3) W ((blk_cell (blk_tch hC B2.out (fun h => h)) 0).trans rfl) ((blk_cell (blk_tch hC B2.out (fun h => h)) 1).trans rfl) ((blk_cell (blk_tch hC B2.out (fun h => h)) 2).trans rfl) ((blk_cell (blk_tch hC B2.out (fun h => h)) 3).trans rfl) ((blk_cell (blk_tch hC B2.out (fun h => h)) 4).trans rfl) ((blk_cell (blk_tch hC B2.out (fun h => h)) 5).trans rfl))
  case c3 =>
   intro kst hkst
   replace hkst : kst ∈ ([0] : List Nat) := hkst
   simp only [List.mem_cons, List.not_mem_nil, or_false] at hkst
   rcases hkst with rfl
   ·refine istep_w ⟨some 13, _, _, _, _, none⟩ rfl (fun a w' hf hC hn => (iwanted_no rfl)) (fun a W hf hC hn K hK => ?_)
    refine w_call Tryz.func20 (by kernel_rfl) (by kernel_rfl) [.tmp 12] _ rfl [.agg #[.int .i64 rk, .int .i64 rt, .int .i64 ri, .bool ry, .slice rap rnp rcp, .slice rau rnu rcu]] (map1 (hn 2 (by decide))) (HRC.out na W (TA.out.trans0 hC) (by have := hC.size; have := HNA.out; omega)) (fun e w' h => ?_)
    obtain ⟨v', he, h1, h2⟩ := h
    exact ⟨v', he, hK _ _ (hC.trans0 h2) h1 (fun j _ _ _ _ x h => rl_stb hlist j x _ _ h2 h)⟩
  case c4 => intro kst hkst; exact (List.not_mem_nil (show kst ∈ ([] : List Nat) from hkst)).elim
  case c5 => intro kst hkst; exact (List.not_mem_nil (show kst ∈ ([] : List Nat) from hkst)).elim
 ·show ∀ k, k < 2 -> _
  refine all_lt1 (all_lt1 (all_lt0) ?e4) ?e5
  case e4 =>
   show IStep2 _ _ _ _ _ _ (fun W => Tch No wa W) (fun W => (∃ A : Array Value, A.size = 9 /\ W.heap[b1]? = some (.cells A 27 (0, 0)) /\ SV na (.agg A) W) /\ W.heap[b1 + 1]? = some (.cells #[.int .i64 rk, .int .i64 rt, .int .i64 ri, .bool ry, .slice rap rnp rcp, .slice rau rnu rcu] 37 (0, 0)) /\ Tch (fun q => q = b1 ∨ q = b1 + 1) wa W) _ _ _ _ _ 4
   refine istep_w2 (i := 4) ⟨none, _, _, _, _, none⟩ rfl (fun a w' hf hC hn => (iwanted_no rfl)) (fun a W hf hk hC hn K hK => ?_)
   have g1 : SV na (a.eval (.tmp 11)) W := hn 1 (by decide)
   obtain ⟨l, el, hl, ho⟩ := sv_list g1
   refine w_stAgg szSt rfl (hf.ev (by kernel_rfl) h2) (blk_tch hC B1.out (fun h => h)) rfl el hl ho (fun z w' hb ht => ?_)
   refine hK _ _ ⟨⟨l.toArray, by simpa using hl, hb, by rw [<- el]; exact sv_keep g1 ht (fun k e => by have h9 : k = b1 := e; have := HNA.out; omega)⟩, blk_tch ht (blk_tch hC B2.out (fun h => h)) (fun e => by have h9 : b1 + 1 = b1 := e; omega), (hC.no (F := (fun q => q = b1 ∨ q = b1 + 1))).trans ht (fun k _ e => .inl e)⟩ trivial (fun j hj hne hk1 hl1 x h => ?_)
   have hj2 : j = 1 ∨ j = 3 := by simpa using hj
   rcases hj2 with rfl | rfl
   ·exact absurd (show 1 ∈ ([1] : List Nat) by decide) hk1
   ·exact rv_keep (n := na) (x := x) h ht (fun k e => by have h9 : k = b1 := e; have := HNA.out; omega)
  case e5 =>
   show IStep2 _ _ _ _ _ _ (fun W => (∃ A : Array Value, A.size = 9 /\ W.heap[b1]? = some (.cells A 27 (0, 0)) /\ SV na (.agg A) W) /\ W.heap[b1 + 1]? = some (.cells #[.int .i64 rk, .int .i64 rt, .int .i64 ri, .bool ry, .slice rap rnp rcp, .slice rau rnu rcu] 37 (0, 0)) /\ Tch (fun q => q = b1 ∨ q = b1 + 1) wa W) (fun W => (∃ A : Array Value, A.size = 9 /\ W.heap[b1]? = some (.cells A 27 (0, 0)) /\ SV na (.agg A) W) /\ (∃ A : Array Value, W.heap[b1 + 1]? = some (.cells A 37 (0, 0)) /\ RV na (.agg A) W) /\ Tch (fun q => q = b1 ∨ q = b1 + 1) wa W) _ _ _ _ _ 5
   refine istep_w2 (i := 5) ⟨none, _, _, _, _, none⟩ rfl (fun a w' hf hC hn => (iwanted_no rfl)) (fun a W hf hk hC hn K hK => ?_)
   have g1 : RV na (a.eval (.tmp 13)) W := hn 3 (by decide)
   obtain ⟨l, el, hl, ho⟩ := rv_list g1
   obtain ⟨⟨A, hA1, hA2, hA3⟩, hB, hT⟩ := hC
   refine w_stAgg szRec rfl (hf.ev (by kernel_rfl) h3) hB rfl el hl ho (fun z w' hb ht => ?_)
   exact hK _ _ ⟨⟨A, hA1, blk_tch ht hA2 (fun e => by have h9 : b1 = b1 + 1 := e; omega), sv_keep hA3 ht (fun k e => by have h9 : k = b1 + 1 := e; have := HNA.out; omega)⟩, ⟨l.toArray, hb, by rw [<- el]; exact rv_keep g1 ht (fun k e => by have h9 : k = b1 + 1 := e; have := HNA.out; omega)⟩, hT.trans ht (fun k _ e => .inr e)⟩ trivial (by intro j hj h1 h2 h3; exfalso; revert j; decide)
 ·intro af wf hf hC hR
  replace hC : (fun W => (∃ A : Array Value, A.size = 9 /\ W.heap[b1]? = some (.cells A 27 (0, 0)) /\ SV na (.agg A) W) /\ (∃ A : Array Value, W.heap[b1 + 1]? = some (.cells A 37 (0, 0)) /\ RV na (.agg A) W) /\ Tch (fun q => q = b1 ∨ q = b1 + 1) wa W) wf := hC
  obtain ⟨vs, hl, rfl⟩ := hf
  have hl : vs.length = 4 := hl
  obtain ⟨u0, vs0, hv0, hl⟩ := vs_cons hl
  obtain ⟨u1, vs1, hv1, hl⟩ := vs_cons hl
  obtain ⟨u2, vs2, hv2, hl⟩ := vs_cons hl
  obtain ⟨u3, vs3, hv3, hl⟩ := vs_cons hl
  have hvn := vs_nil hl
  have hvs : vs = [u0, u1, u2, u3] := by rw [hv0, hv1, hv2, hv3, hvn]
  clear hvn hl hv0 hv1 hv2 hv3
  subst hvs
  have hfr2 := hfr.out
  subst hfr2
  simp only [putAll, Act.put, List.setIfInBounds_toArray, List.set_cons_succ, List.set_cons_zero]
  obtain ⟨⟨A, hA1, hA2, s, hok, hs⟩, ⟨A2, hB2, r, hor, hr⟩, hT⟩ := hC
  have SBX : Hid (SB (fun q => q = b1 ∨ q = b1 + 1) w b1 s wf) := ⟨.inl rfl, fun k e => by have := HB1.out; omega, fun k e => by have h1 := HNA.out; have h2 := hT.size; omega, TA.out.fresh hT (fun k e => by have := HB1.out; omega), A, hA1, hA2, hs.mono (fun X tx => tx.mono (fun k _ e => by have h1 := HNA.out; omega))⟩
  obtain ⟨vp, vu, e2, hrr⟩ := hr
  have e3 : A2 = #[.int .i64 r.kind, .int .i64 r.tid, .int .i64 r.id, .bool r.yes, vp, vu] := by injection e2
  subst e3
  have RX : Hid (wf.heap[b1 + 1]? = some (.cells #[.int .i64 r.kind, .int .i64 r.tid, .int .i64 r.id, .bool r.yes, vp, vu] 37 (0, 0))) := hB2
  have HRR : Hid (∀ W, Tch (fun q => q = b1 ∨ q = b1 + 1) wf W -> IsInts W vp r.parts /\ IsPuts W vu r.puts) := fun W t => hrr W (t.mono (fun k _ e => by have h1 := HNA.out; omega))
  have OS := Lib.hid hok
  have OR := Lib.hid hor
  clear hR hlist hsz hA1 hA2 hs hok hor hB2 hrr e2 hT B1 B2 TA HST HRC
  have r0 : wf.cell? ⟨b1 + 1, 0, none⟩ = some (.int .i64 r.kind) := (blk_cell RX.out 0).trans rfl
  go_upto_region 5 with fail
  obtain ⟨am5, cm5, aw5, cw5, ae5, ce5, ao5, co5, an5, cn5, hc5, hi5⟩ := SBX.out.cell
  have EN : Hid (IsEnds wf (.slice ae5 s.ends.length ce5) s.ends) := hi5.rest.2.1
  have k6 : wf.cell? ⟨b1, 6, none⟩ = some (.slice ae5 s.ends.length ce5) := (blk_cell hc5 6).trans rfl
  clear hc5 hi5
  obtain ⟨mb, hmb⟩ : ∃ b, mayM s = b := ⟨_, rfl⟩
  have HMB := Lib.hid hmb
  obtain ⟨le, hle⟩ : ∃ n, s.ends.length = n := ⟨_, rfl⟩
  have HLE := Lib.hid hle
  rw [hle] at k6 EN
  have HMY := Lib.hid (fun (W : World) (A : Array Value) (h : IsSt W (.agg A) s) => rmay_any s OS.out (.agg A) W h)
  rw [hmb] at HMY
  clear hmb hle
  cases mb with
  | false =>
   go_wp2_with (first | (refine SB.load SBX.out rfl ?_; intro A1 HA1) | (go_at_call 15; refine (HMY.out _ _ (HA1.out.is (Tch.refl _ _))).mono ?_; rintro e wm ⟨rfl, tm⟩; have TM := Lib.hid tm; clear tm))
   go_ret
   exact ⟨rfl, (SBX.out.t.trans0 TM.out).below0⟩
  | true =>
   have hM := (may_iff s).1 HMB.out
   have HM := Lib.hid hM
   clear hM
   by_cases he : le = 0
   ·subst he
    go_wp2_with (first | (refine SB.load SBX.out rfl ?_; intro A1 HA1) | (go_at_call 15; refine (HMY.out _ _ (HA1.out.is (Tch.refl _ _))).mono ?_; rintro e wm ⟨rfl, tm⟩; have TM := Lib.hid tm; clear tm; replace k6 := TM.out.cell k6 (fun h => h)))
    go_ret
    exact ⟨rfl, (SBX.out.t.trans0 TM.out).below0⟩
   ·have he2 : ((le : Int) == 0) = false := beq_eq_false_iff_ne.2 (by omega)
    by_cases hk : r.kind = 9
    ·have hk2 : (r.kind == 9) = true := beq_iff_eq.2 hk
     go_wp2_with (first | (refine SB.load SBX.out rfl ?_; intro A1 HA1) | (go_at_call 15; refine (HMY.out _ _ (HA1.out.is (Tch.refl _ _))).mono ?_; rintro e wm ⟨rfl, tm⟩; have TM := Lib.hid tm; clear tm; replace k6 := TM.out.cell k6 (fun h => h); replace r0 := TM.out.cell r0 (fun h => h)))
     go_ret
     exact ⟨rfl, (SBX.out.t.trans0 TM.out).below0⟩
    ·have hk2 : (r.kind == 9) = false := beq_eq_false_iff_ne.2 hk
     go_upto_region 7 with (first | (refine SB.load SBX.out rfl ?_; intro A1 HA1) | (go_at_call 15; refine (HMY.out _ _ (HA1.out.is (Tch.refl _ _))).mono ?_; rintro e wm ⟨rfl, tm⟩; have TM := Lib.hid tm; clear tm; replace k6 := TM.out.cell k6 (fun h => h); replace r0 := TM.out.cell r0 (fun h => h)))
     have SBm := Lib.hid (SBX.out.keep TM.out)
     have RXm := Lib.hid (blk_tch TM.out RX.out (fun h => h))
     have hle2 : s.ends.length <= 2000 := HM.out.le
     have hjl : s.ends.length / 2 < s.ends.length := by have := HLE.out; omega
     obtain ⟨eb, eo, ec, e1, hcell⟩ := CellsAt.elem (enc := encEnd) (m := 2) (fun _ => rfl) EN.out hjl
     injection e1 with e1 _ _
     subst e1
     have x0 : wm.cell? ⟨eb, eo + s.ends.length / 2 * 2, none⟩ = some (.int .i64 s.ends[s.ends.length / 2].tid) := TM.out.cell (hcell 0 _ (by decide) rfl) (fun h => h)
     have HTD : Hid (hasP (·.tid) s.ends s.ends[s.ends.length / 2].tid = true /\ I64 s.ends[s.ends.length / 2].tid) := ⟨hasP_iff.2 ⟨_, List.getElem_mem hjl, rfl⟩, OS.out.ends _ (List.getElem_mem hjl)⟩
     obtain ⟨td, htd⟩ : ∃ t, s.ends[s.ends.length / 2].tid = t := ⟨_, rfl⟩
     rw [htd] at x0 HTD
     clear hcell htd
     have r1 : wm.cell? ⟨b1 + 1, 1, none⟩ = some (.int .i64 r.tid) := (blk_cell RXm.out 1).trans rfl
     have f1 := blk_free RXm.out 1
     go_upto_region 8 with fail
     obtain ⟨wn, hwn, RXn, Tn⟩ : ∃ X, wm.setCell ⟨b1 + 1, 1, none⟩ (.int .i64 td) = X /\ Hid (X.heap[b1 + 1]? = some (.cells #[.int .i64 r.kind, .int .i64 td, .int .i64 r.id, .bool r.yes, vp, vu] 37 (0, 0))) /\ Hid (Tch (fun q => q = b1 + 1) wm X) := ⟨_, rfl, by have := blk_set RXm.out 1 (.int .i64 td); rw [Hid]; simpa using this, Tch.setCell _ _ _ (fun _ => rfl)⟩
     rw [hwn]
     have SBn : Hid (SB (fun q => q = b1 ∨ q = b1 + 1) w b1 s wn) := SBm.out.keepG (Tn.out.mono (fun k _ e => ⟨.inr e, by have h9 : k = b1 + 1 := e; omega⟩))
     obtain ⟨r', hr'⟩ : ∃ x : RecM, (⟨r.kind, td, r.id, r.yes, r.parts, r.puts⟩ : RecM) = x := ⟨_, rfl⟩
     have OR' : Hid (OkRec r') := by rw [<- hr']; exact ⟨OR.out.kind, HTD.out.2, OR.out.id, OR.out.parts, OR.out.puts⟩
     have HR' : Hid (∀ W, Tch No wn W -> IsRec W (.agg #[.int .i64 r.kind, .int .i64 td, .int .i64 r.id, .bool r.yes, vp, vu]) r') := fun W t => by
      have h9 := HRR.out W (((TM.out.no (F := (fun q => q = b1 ∨ q = b1 + 1))).trans Tn.out (fun k _ e => .inr e)).trans0 t)
      rw [<- hr']
      exact ⟨vp, vu, rfl, h9.1, h9.2⟩
     have HCV : Hid (canM s r' = if recB r' = true then 9 else 1) := by
      have hk9 : r'.kind ≠ 9 := by rw [<- hr']; exact hk
      have ht9 : hasP (·.tid) s.ends r'.tid = true := by rw [<- hr']; exact HTD.out.1
      cases hb : recB r' with
      | false => rw [Hid, canM, if_pos hb]; simp
      | true => rw [Hid, canM, if_neg (by rw [hb]; simp), if_pos ⟨hk9, ht9⟩]; simp
     have HCN := Lib.hid (fun (W : World) (A : Array Value) (t : Tch No wn W) (h : IsSt W (.agg A) s) => scan_any s OS.out HM.out r' OR'.out (.agg A) _ W h (HR'.out W t))
     have HRC := Lib.hid (fun (W : World) (t : Tch No wn W) => rrecord_any r' OR'.out _ W (HR'.out W t))
     rw [HCV.out] at HCN
     obtain ⟨vr, hvr⟩ : ∃ b, recB r' = b := ⟨_, rfl⟩
     rw [hvr] at HCN HRC
     have kb := fun j => blk_cell RXn.out j
     have y0 : wn.cell? ⟨b1 + 1, 0, none⟩ = some (.int .i64 r.kind) := by rw [kb]; rfl
     have y1 : wn.cell? ⟨b1 + 1, 1, none⟩ = some (.int .i64 td) := by rw [kb]; rfl
     have y2 : wn.cell? ⟨b1 + 1, 2, none⟩ = some (.int .i64 r.id) := by rw [kb]; rfl
     have y3 : wn.cell? ⟨b1 + 1, 3, none⟩ = some (.bool r.yes) := by rw [kb]; rfl
     have y4 : wn.cell? ⟨b1 + 1, 4, none⟩ = some (vp) := by rw [kb]; rfl
     have y5 : wn.cell? ⟨b1 + 1, 5, none⟩ = some (vu) := by rw [kb]; rfl
     clear kb x0 r1 f1 r0 k6 hwn hr' hvr HCV
     cases vr with
     | true =>
      go_wp2_with (first | (refine SB.load SBn.out rfl ?_; intro A9 HA9) | (go_at_call 22; refine (HCN.out _ _ (Tch.refl _ _) (HA9.out.is (Tch.refl _ _))).mono ?_; rintro e wc ⟨rfl, tc⟩; have TC := Lib.hid tc; clear tc))
      go_ret
      exact ⟨rfl, (SBn.out.t.trans0 TC.out).below0⟩
     | false =>
      go_wp2_with (first | (refine SB.load SBn.out rfl ?_; intro A9 HA9) | (go_at_call 22; refine (HCN.out _ _ (Tch.refl _ _) (HA9.out.is (Tch.refl _ _))).mono ?_; rintro e wc ⟨rfl, tc⟩; have TC := Lib.hid tc; clear tc; have z0 := TC.out.cell y0 (fun h => h); have z1 := TC.out.cell y1 (fun h => h); have z2 := TC.out.cell y2 (fun h => h); have z3 := TC.out.cell y3 (fun h => h); have z4 := TC.out.cell y4 (fun h => h); have z5 := TC.out.cell y5 (fun h => h)) | (go_at_call 29; refine (HRC.out _ TC.out).mono ?_; rintro e wd ⟨rfl, td2⟩; have TD := Lib.hid td2; clear td2))
      go_ret
      exact ⟨rfl, ((SBn.out.t.trans0 TC.out).trans0 TD.out).below0⟩

/-! ### THE ROW's STEP -/
set_option maxRecDepth 100000 in
theorem lifted (os : Os) (started : os.Started) (H : Type) (enc : TypeId × Value → H) :
    ReturnsInHanded {} Tryz.checked os 9 .any (Rows.storeOverSpec.pre6 enc Tryz.prog Tryz.f9 Rows.storeOverRow.domain false) (Rows.storeOverSpec.post enc Tryz.prog Tryz.f9 false true false false) := by
  refine returnsInHanded_of_change_sized (C := Tryz.checked) own started (by kernel_rfl) Tryz.func9
    (ChangeSpec.witness6 (enc := enc) (C := Tryz.checked) false ⟨#[], #[.agg #[.int .i64 0, .int .i64 0, .int .i64 0, .int .i64 0, .slice none 0 0, .slice none 0 0, .slice none 0 0, .slice none 0 0, .slice none 0 0], .agg #[.int .i64 0, .int .i64 0, .int .i64 0, .bool false, .slice none 0 0, .slice none 0 0]], []⟩ 8 (by kernel_rfl) (by kernel_rfl) (by kernel_rfl) (by kernel_rfl)) ?_
  intro W base args ds gs before hval0 hW hcnd hsz0 _
  have hval : ∀ (j : Nat) t v, Tryz.f9.params[j]? = some t → args[j]? = some v → Value.okWide Tryz.prog W .any base t v := hval0
  have hW' := hW
  obtain ⟨p, q, hA0, hV, rfl, hfz, hnd⟩ := hW
  have hA : DataW.TrodAll enc Tryz.prog W 0 (fun _ => true) true Tryz.f9.params.toList args.toList ds p := hA0
  have hsz : (DataW.weightsEach Tryz.prog (Tryz.f9.params.toList ++ Rows.storeOverSpec.plain.varTypes Tryz.prog) (ds ++ gs)).all (· ≤ reachBytes) = true := hsz0
  rw [Tryz.params9] at hA hval hsz
  obtain ⟨v0, vs0, d0, ds0, p0, q0, hargs, rfl, rfl, h0, r0⟩ := trodAll_cons hA
  obtain ⟨v1, vs1, d1, ds1, p1, q1, rfl, rfl, rfl, h1, r1⟩ := trodAll_cons r0
  obtain ⟨rfl, rfl, rfl⟩ := trodAll_nil r1
  obtain rfl : args = #[v0, v1] := by cases args; simp_all
  obtain ⟨rfl, rfl⟩ := trodVars_none hV
  have k0 := h0
  have lt0 : ∀ x ∈ p0, x.block < W.heap.size := by obtain ⟨m, hm⟩ := k0; exact DataW.trod_lt m _ _ _ hm
  obtain ⟨cs0, rfl⟩ : ∃ cs, v0 = .agg cs := by
    have := hval 0 27 v0 rfl rfl
    simp only [Value.okWide, Tryz.underlying27] at this
    obtain ⟨cs, h, _⟩ := this
    exact ⟨cs, h⟩
  obtain ⟨s0, w0⟩ : ∃ s, ArgSt W (.agg cs0) s := by
    obtain ⟨fuel, hf⟩ := h0
    have := open_st hf (fun n hn => by have := List.all_eq_true.1 hsz n (DataW.weights_mem_each (j := 0) (t := 27) (d := d0) rfl rfl n hn); simpa using this)
    simpa [Value.cells] using this
  have k1 := h1
  have lt1 : ∀ x ∈ p1, x.block < W.heap.size := by obtain ⟨m, hm⟩ := k1; exact DataW.trod_lt m _ _ _ hm
  obtain ⟨cs1, rfl⟩ : ∃ cs, v1 = .agg cs := by
    have := hval 1 37 v1 rfl rfl
    simp only [Value.okWide, Tryz.underlying37] at this
    obtain ⟨cs, h, _⟩ := this
    exact ⟨cs, h⟩
  obtain ⟨r1, w1⟩ : ∃ r, ArgRec W (.agg cs1) r := by
    obtain ⟨fuel, hf⟩ := h1
    obtain ⟨r, vp, vu, hcs, hr⟩ := open_rec hf (fun n hn => by have := List.all_eq_true.1 hsz n (DataW.weights_mem_each (j := 1) (t := 37) (d := d1) rfl rfl n hn); simpa using this)
    refine ⟨r, ?_⟩
    have e : cs1 = #[.int .i64 r.kind, .int .i64 r.tid, .int .i64 r.id, .bool r.yes, vp, vu] := Array.toList_inj.1 (by simpa [Value.cells] using hcs)
    rw [e]; exact hr
  clear hA0 hval0
  refine (walk (.agg cs0) s0 (.agg cs1) r1 W w0 w1).mono fun e W' ⟨he, bel⟩ => ?_
  subst he
  exact ⟨_, rfl, _, _, _, [], _, [], hW', trodAll_mk1 (shut_bool Tryz.underlying4 _), (trodAll_cons_mk (Below.trod laidOut (by kernel_rfl) (of_decide_eq_true (by kernel_rfl)) k0 bel lt0) (trodAll_cons_mk (Below.trod laidOut (by kernel_rfl) (of_decide_eq_true (by kernel_rfl)) k1 bel lt1) trodAll_mk0)), rfl, bel.frame _, fun h => by cases h⟩

theorem clo0 : Tryz.prog.mayEnter = true := by kernel_rfl
theorem clo1 : (Rows.storeOverRow.lifted == Tryz.prog.liftsFinal) = true := by kernel_rfl
theorem clo2 : (Tryz.prog.make == some Rows.storeOverRow.make) = true := by kernel_rfl
theorem clo3 : (Rows.storeOverRow.inPlace == Tryz.prog.inPlace 9) = true := by kernel_rfl
theorem clo4 : (Rows.storeOverRow.unfollowed == Tryz.prog.unfollowed 9) = true := by kernel_rfl
theorem clo5 : (Rows.storeOverRow.recurses == Tryz.prog.recurses 9) = true := by kernel_rfl
theorem clo6 : (Rows.storeOverRow.named == Tryz.prog.varsNamed 9) = true := by kernel_rfl
theorem clo7 : laidOutB Tryz.prog = true := by kernel_rfl
theorem clo8 : mapsRowed Tryz.prog = true := by kernel_rfl
theorem clo9 : Tryz.prog.stopsHeard = true := by kernel_rfl
theorem clo10 : (Rows.storeOverRow.plainKeys == Tryz.prog.plainKeys) = true := by kernel_rfl
set_option maxRecDepth 100000 in
theorem closed : joinedFacts Tryz.prog 9 Tryz.f9 Rows.storeOverSpec Rows.storeOverRow = true := by
  unfold joinedFacts
  rw [clo0, clo1, clo2, clo3, clo4, clo5, clo6, clo7, clo8, clo9, clo10]
  kernel_rfl
theorem over : Rows.storeOverRow.holds Tryz.pinned (OpenSpec.ofChange Rows.storeOverSpec) :=
  OpenClaim.holds_of_wide 9 Tryz.f9 rfl rfl rfl rfl rfl rfl rfl ⟨rfl, rfl, rfl, rfl, rfl⟩ rfl rfl rfl rfl rfl (by kernel_rfl) Tryz.func9 closed
    (of_decide_eq_true (by kernel_rfl)) (by unfold Func.isWrapper; first | (rw [if_pos (by decide +kernel)]; kernel_rfl) | (rw [if_neg (by decide +kernel)]; exact ⟨rfl, rfl⟩))
    (fun os started H enc _ => lifted os started H enc)

/--  THE STATEMENT  -/
theorem proved : Rows.StoreOverSaid := over
#print axioms proved
end Go.Proofs.YtelaljoebdpicaaGreat.storeOver
