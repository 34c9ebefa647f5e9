/- StoreMay: the law StoreMay returns true for every input, and each argument reads behind the call as it read before. No condition. -/
import Derived.Test.YtelaljoebdpicaaGreatPOrderCounts01
import Derived.Test.YtelaljoebdpicaaGreatPOrderCounts02
import Derived.Test.YtelaljoebdpicaaGreatPOrderCounts03
import Derived.Test.YtelaljoebdpicaaGreatPOrderCounts04
import Derived.Test.YtelaljoebdpicaaGreatPOrderCounts05
import Derived.Test.YtelaljoebdpicaaGreatPOrderCounts06
import Derived.Test.YtelaljoebdpicaaGreatPOrderCounts07
import Derived.Test.YtelaljoebdpicaaGreatPOrderCounts08
import Derived.Test.YtelaljoebdpicaaGreatPOrderCounts09
import Derived.Test.YtelaljoebdpicaaGreatPOrderCounts10
import Derived.Test.YtelaljoebdpicaaGreatPOrderCounts11
import Derived.Test.YtelaljoebdpicaaGreatPOrderCounts12
import Derived.Test.YtelaljoebdpicaaGreatPOrderCounts13
import Derived.Test.YtelaljoebdpicaaGreatPOrderCounts14
import Derived.Test.YtelaljoebdpicaaGreatPOrderCounts15
import Derived.Test.YtelaljoebdpicaaGreatPOrderCounts16
import Derived.Test.YtelaljoebdpicaaGreatPOrderCounts17
import Derived.Test.YtelaljoebdpicaaGreatPOrderCounts18
import Derived.Test.YtelaljoebdpicaaGreatPOrderCounts19
import Derived.Test.YtelaljoebdpicaaGreatPOrderCounts20
import Derived.Test.YtelaljoebdpicaaGreatPOrderCounts21
import Derived.Test.YtelaljoebdpicaaGreatPOrderCounts22
import Derived.Test.YtelaljoebdpicaaGreatPOrderCounts23
import Derived.Test.YtelaljoebdpicaaGreatPOrderCounts24
import Derived.Test.YtelaljoebdpicaaGreatPOrderCounts25
import Derived.Test.YtelaljoebdpicaaGreatPOrderCounts26
import Derived.Test.YtelaljoebdpicaaGreatPOrderCounts27
import Derived.Test.YtelaljoebdpicaaGreatPOrderCounts28
import Derived.Test.YtelaljoebdpicaaGreatPOrderCounts29
import Derived.Test.YtelaljoebdpicaaGreatPOrderCounts30
import Derived.Test.YtelaljoebdpicaaGreatPOrderCounts31
import Derived.Test.YtelaljoebdpicaaGreatPOrderCounts32
import Derived.Test.YtelaljoebdpicaaGreatPOrderCounts33
import Derived.Test.YtelaljoebdpicaaGreatPOrderCounts34
import Derived.Test.YtelaljoebdpicaaGreatPOrderCounts35
import Derived.Test.YtelaljoebdpicaaGreatPOrderCounts36
import Derived.Test.YtelaljoebdpicaaGreatPOrderCounts37
import Derived.Test.YtelaljoebdpicaaGreatPOrderCounts38
import Derived.Test.YtelaljoebdpicaaGreatPOrderCounts39
import Derived.Test.YtelaljoebdpicaaGreatPOrderCounts40
import Derived.Test.YtelaljoebdpicaaGreatPOrderCounts41
import Derived.Test.YtelaljoebdpicaaGreatPOrderCounts42
import Derived.Test.YtelaljoebdpicaaGreatPOrderCounts43
import Derived.Test.YtelaljoebdpicaaGreatPOrderCounts44
import Derived.Test.YtelaljoebdpicaaGreatPOrderCounts45
import Derived.Test.YtelaljoebdpicaaGreatPOrderCounts46
import Derived.Test.YtelaljoebdpicaaGreatPStoreMay01
import Derived.Test.YtelaljoebdpicaaGreatPStoreMay04
import Derived.Test.YtelaljoebdpicaaGreatPStoreMay05
import Derived.Test.YtelaljoebdpicaaGreatRows
import Derived.WalkKit
import Derived.ProofKit
import Derived.OpenShut
import Derived.ShutString
import Derived.ChangeOld
import Derived.Below
import Derived.SizedLaws
namespace Go.Proofs.YtelaljoebdpicaaGreat.storeMay
open Go.ChangeShapes Go.WideShapes Go.ChangeAt Go.RowKit Go.Maps
open Go.ChangeMaps (open_string shut_string)
set_option linter.unusedVariables false
set_option linter.unusedSimpArgs false

theorem own : ownKnob Tryz.prog.godebug = none := by kernel_rfl
theorem laidOut : laidOutB Tryz.prog = true := by kernel_rfl

set_option maxRecDepth 100000 in
set_option maxHeartbeats 8000000 in
theorem walk (v0 : Value) (s0 : StM) (v1 : Value) (s1 : StM) (w : World) (w0 : ArgSt w v0 s0) (w1 : ArgSt w v1 s1) :
  Calls Tryz.prog 3 #[v0, v1] w fun e w' => e = .returned (.bool true) /\ Below w.heap.size w w' := by
 obtain ⟨br, ni, ns, tx, am, nm0, cm, aw, nw0, cw, ae, ne0, ce, ao, no0, co, an, nn0, cn, rfl⟩ := argst_vals w0
 obtain ⟨br2, ni2, ns2, tx2, am2, nm2, cm2, aw2, nw2, cw2, ae2, ne2, ce2, ao2, no2, co2, an2, nn2, cn2, rfl⟩ := argst_vals w1
 have HST := Lib.hid (state_sv w0)
 have HRC := Lib.hid (state_sv w1)
 clear w0 w1
 go_enter Tryz.func3, Tryz.ntmps3
 go_wp2_with fail
 obtain ⟨b1, hb1⟩ : ∃ x, w.heap.size = x := ⟨_, rfl⟩
 refine (begun10_any _).mono ?_
 rintro e wa ⟨rfl, ta⟩
 have B1 : Hid (wa.heap[b1]? = some (.cells #[.int .i64 br, .int .i64 ni, .int .i64 ns, .int .i64 tx, .slice am nm0 cm, .slice aw nw0 cw, .slice ae ne0 ce, .slice ao no0 co, .slice an nn0 cn] 27 (0, 0))) := by rw [<- hb1]; exact blk_tch ta (blk_tch (Tch.alloc _ _) (blk_new w _) (fun h => h)) (fun h => h)
 have B2 : Hid (wa.heap[b1 + 1]? = some (.cells #[.int .i64 br2, .int .i64 ni2, .int .i64 ns2, .int .i64 tx2, .slice am2 nm2 cm2, .slice aw2 nw2 cw2, .slice ae2 ne2 ce2, .slice ao2 no2 co2, .slice an2 nn2 cn2] 27 (0, 0))) := by
  have := blk_new (w.alloc (.cells #[.int .i64 br, .int .i64 ni, .int .i64 ns, .int .i64 tx, .slice am nm0 cm, .slice aw nw0 cw, .slice ae ne0 ce, .slice ao no0 co, .slice an nn0 cn] 27)) (.cells #[.int .i64 br2, .int .i64 ni2, .int .i64 ns2, .int .i64 tx2, .slice am2 nm2 cm2, .slice aw2 nw2 cw2, .slice ae2 ne2 ce2, .slice ao2 no2 co2, .slice an2 nn2 cn2] 27)
  rw [size_alloc, hb1] at this
  exact blk_tch ta this (fun h => h)
 have TA : Hid (Tch No w wa) := ((Tch.alloc w _).trans0 (Tch.alloc _ _)).trans0 ta
 have HB1 := Lib.hid hb1
 rw [hb1]
 obtain ⟨na, hna⟩ : ∃ x, wa.heap.size = x := ⟨_, rfl⟩
 have HNA : Hid (wa.heap.size = na /\ b1 + 1 < na) := ⟨hna, by rw [<- hna]; exact blk_lt B2.out⟩
 clear ta hb1 hna
 have mixed : Tryz.prog.follows .mixedOrders = true := by kernel_rfl
 go_upto_region 4 with fail
 refine frame_var 41 rfl (fun fr hfr hsz => ?_)
 have h2 : fr.eval (.tmp 2) = .pointer (some ⟨b1, 0, none⟩) := by rw [hfr.out]; rfl
 have h3 : fr.eval (.tmp 3) = .pointer (some ⟨b1 + 1, 0, none⟩) := by rw [hfr.out]; rfl
 have hlist : ∀ f ∈ ([(fun x _ => x = .agg #[.int .i64 br, .int .i64 ni, .int .i64 ns, .int .i64 tx, .slice am nm0 cm, .slice aw nw0 cw, .slice ae ne0 ce, .slice ao no0 co, .slice an nn0 cn]), (SV na), (fun x _ => x = .agg #[.int .i64 br2, .int .i64 ni2, .int .i64 ns2, .int .i64 tx2, .slice am2 nm2 cm2, .slice aw2 nw2 cw2, .slice ae2 ne2 ce2, .slice ao2 no2 co2, .slice an2 nn2 cn2]), (SV na), (fun x _ => True), (fun x _ => True)] : List (Value -> World -> Prop)), Stb f :=
  all_mem1 ((pur_eq _).stb) (all_mem1 ((stb_sv _)) (all_mem1 ((pur_eq _).stb) (all_mem1 ((stb_sv _)) (all_mem1 (pur_any.stb) (all_mem1 (pur_any.stb) (all_mem0))))))
 refine wp_region_inv4 [4, 5] (fun i => ([[0], [0], [0], [0], [], []][i]?).getD []) (fun kst : Nat => match kst with | 0 => (fun W => Tch No wa W) | 1 => (fun W => (∃ A : Array Value, A.size = 9 /\ W.heap[b1]? = some (.cells A 27 (0, 0)) /\ SV na (.agg A) W) /\ W.heap[b1 + 1]? = some (.cells #[.int .i64 br2, .int .i64 ni2, .int .i64 ns2, .int .i64 tx2, .slice am2 nm2 cm2, .slice aw2 nw2 cw2, .slice ae2 ne2 ce2, .slice ao2 no2 co2, .slice an2 nn2 cn2] 27 (0, 0)) /\ Tch (fun q => q = b1 ∨ q = b1 + 1) wa W) | _ => (fun W => (∃ A : Array Value, A.size = 9 /\ W.heap[b1]? = some (.cells A 27 (0, 0)) /\ SV na (.agg A) W) /\ (∃ A : Array Value, W.heap[b1 + 1]? = some (.cells A 27 (0, 0)) /\ SV na (.agg A) W) /\ Tch (fun q => q = b1 ∨ q = b1 + 1) wa W)) (RL [(fun x _ => x = .agg #[.int .i64 br, .int .i64 ni, .int .i64 ns, .int .i64 tx, .slice am nm0 cm, .slice aw nw0 cw, .slice ae ne0 ce, .slice ao no0 co, .slice an nn0 cn]), (SV na), (fun x _ => x = .agg #[.int .i64 br2, .int .i64 ni2, .int .i64 ns2, .int .i64 tx2, .slice am2 nm2 cm2, .slice aw2 nw2 cw2, .slice ae2 ne2 ce2, .slice ao2 no2 co2, .slice an2 nn2 cn2]), (SV na), (fun x _ => True), (fun x _ => True)]) [1, 3] [9, 10, 11, 12] [(some 9, [2], []), (some 10, [9], [0]), (some 11, [3], []), (some 12, [11], [2, 1]), (none, [2, 10], [1, 3, 0, 1]), (none, [3, 12], [3, 4, 0, 1, 2, 3, 4])] (fun i => ([[], [0], [], [0, 1, 2], [0, 1, 2, 3], [0, 1, 2, 3, 4]][i]?).getD []) (fun i => ([[], [0], [], [2], [1], [3]][i]?).getD []) (fun i => ([[], [], [], [], [1], [1, 3]][i]?).getD []) (fun i => ([[1, 3], [3], [3], [], [], []][i]?).getD []) (by kernel_rfl) (by kernel_rfl) (by kernel_rfl) (by rw [hsz]; kernel_rfl) (by kernel_rfl) (by kernel_rfl) ?_ (rl_pur ?_) ?_ ?_ ?_
 ·exact Tch.drew _
 ·show ∀ j, j < 6 -> _ ∨ _
  refine all_lt1 (all_lt1 (all_lt1 (all_lt1 (all_lt1 (all_lt1 (all_lt0) (Or.inr (pur_eq _))) (Or.inl (by decide))) (Or.inr (pur_eq _))) (Or.inl (by decide))) (Or.inr pur_any)) (Or.inr pur_any)
 ·show ∀ i, i < 6 -> _
  refine all_lt1 (all_lt1 (all_lt1 (all_lt1 (all_lt1 (all_lt1 (all_lt0) ?c0) ?c1) ?c2) ?c3) ?c4) ?c5
  case c0 =>
   intro kst hkst
   replace hkst : kst ∈ ([0] : List Nat) := hkst
   simp only [List.mem_cons, List.not_mem_nil, or_false] at hkst
   rcases hkst with rfl
   ·exact iq (d := 9) (.agg #[.int .i64 br, .int .i64 ni, .int .i64 ns, .int .i64 tx, .slice am nm0 cm, .slice aw nw0 cw, .slice ae ne0 ce, .slice ao no0 co, .slice an nn0 cn]) rfl (fun _ _ => rfl) (fun a W hf hC hn => y_ldState (ρ := a.eval) (.tmp 2) (b := b1) (off := 0) rfl (hf.ev (by kernel_rfl) h2) W ((blk_cell (blk_tch hC B1.out (fun h => h)) 0).trans rfl) ((blk_cell (blk_tch hC B1.out (fun h => h)) 1).trans rfl) ((blk_cell (blk_tch hC B1.out (fun h => h)) 2).trans rfl) ((blk_cell (blk_tch hC B1.out (fun h => h)) 3).trans rfl) ((blk_cell (blk_tch hC B1.out (fun h => h)) 4).trans rfl) ((blk_cell (blk_tch hC B1.out (fun h => h)) 5).trans rfl) ((blk_cell (blk_tch hC B1.out (fun h => h)) 6).trans rfl) ((blk_cell (blk_tch hC B1.out (fun h => h)) 7).trans rfl) ((blk_cell (blk_tch hC B1.out (fun h => h)) 8).trans rfl))
  case c1 =>
   intro kst hkst
   replace hkst : kst ∈ ([0] : List Nat) := hkst
   simp only [List.mem_cons, List.not_mem_nil, or_false] at hkst
   rcases hkst with rfl
   ·refine istep_w ⟨some 10, _, _, _, _, none⟩ rfl (fun a w' hf hC hn => (iwanted_no rfl)) (fun a W hf hC hn K hK => ?_)
    refine w_call Tryz.func13 (by kernel_rfl) (by kernel_rfl) [.tmp 9] _ rfl [.agg #[.int .i64 br, .int .i64 ni, .int .i64 ns, .int .i64 tx, .slice am nm0 cm, .slice aw nw0 cw, .slice ae ne0 ce, .slice ao no0 co, .slice an nn0 cn]] (map1 (hn 0 (by decide))) (HST.out na W (TA.out.trans0 hC) (by have := hC.size; have := HNA.out; omega)) (fun e w' h => ?_)
    obtain ⟨v', he, h1, h2⟩ := h
    exact ⟨v', he, hK _ _ (hC.trans0 h2) h1 (fun j _ _ _ _ x h => rl_stb hlist j x _ _ h2 h)⟩
  case c2 =>
   intro kst hkst
   replace hkst : kst ∈ ([0] : List Nat) := hkst
   simp only [List.mem_cons, List.not_mem_nil, or_false] at hkst
   rcases hkst with rfl
   ·exact iq (d := 11) (.agg #[.int .i64 br2, .int .i64 ni2, .int .i64 ns2, .int .i64 tx2, .slice am2 nm2 cm2, .slice aw2 nw2 cw2, .slice ae2 ne2 ce2, .slice ao2 no2 co2, .slice an2 nn2 cn2]) rfl (fun _ _ => rfl) (fun a W hf hC hn => y_ldState (ρ := a.eval) (.tmp 3) (b := b1 + 1) (off := 0) rfl (hf.ev (by kernel_rfl) h3) W ((blk_cell (blk_tch hC B2.out (fun h => h)) 0).trans rfl) ((blk_cell (blk_tch hC B2.out (fun h => h)) 1).trans rfl) ((blk_cell (blk_tch hC B2.out (fun h => h)) 2).trans rfl) ((blk_cell (blk_tch hC B2.out (fun h => h)) 3).trans rfl) ((blk_cell (blk_tch hC B2.out (fun h => h)) 4).trans rfl) ((blk_cell (blk_tch hC B2.out (fun h => h)) 5).trans rfl) ((blk_cell (blk_tch hC B2.out (fun h => h)) 6).trans rfl) ((blk_cell (blk_tch hC B2.out (fun h => h)) 7).trans rfl) ((blk_cell (blk_tch hC B2.out (fun h => h)) 8).trans rfl))
  case c3 =>
   intro kst hkst
   replace hkst : kst ∈ ([0] : List Nat) := hkst
   simp only [List.mem_cons, List.not_mem_nil, or_false] at hkst
   rcases hkst with rfl
   ·refine istep_w ⟨some 12, _, _, _, _, none⟩ rfl (fun a w' hf hC hn => (iwanted_no rfl)) (fun a W hf hC hn K hK => ?_)
    refine w_call Tryz.func13 (by kernel_rfl) (by kernel_rfl) [.tmp 11] _ rfl [.agg #[.int .i64 br2, .int .i64 ni2, .int .i64 ns2, .int .i64 tx2, .slice am2 nm2 cm2, .slice aw2 nw2 cw2, .slice ae2 ne2 ce2, .slice ao2 no2 co2, .slice an2 nn2 cn2]] (map1 (hn 2 (by decide))) (HRC.out na W (TA.out.trans0 hC) (by have := hC.size; have := HNA.out; omega)) (fun e w' h => ?_)
    obtain ⟨v', he, h1, h2⟩ := h
    exact ⟨v', he, hK _ _ (hC.trans0 h2) h1 (fun j _ _ _ _ x h => rl_stb hlist j x _ _ h2 h)⟩
  case c4 => intro kst hkst; exact (List.not_mem_nil (show kst ∈ ([] : List Nat) from hkst)).elim
  case c5 => intro kst hkst; exact (List.not_mem_nil (show kst ∈ ([] : List Nat) from hkst)).elim
 ·show ∀ k, k < 2 -> _
  refine all_lt1 (all_lt1 (all_lt0) ?e4) ?e5
  case e4 =>
   show IStep2 _ _ _ _ _ _ (fun W => Tch No wa W) (fun W => (∃ A : Array Value, A.size = 9 /\ W.heap[b1]? = some (.cells A 27 (0, 0)) /\ SV na (.agg A) W) /\ W.heap[b1 + 1]? = some (.cells #[.int .i64 br2, .int .i64 ni2, .int .i64 ns2, .int .i64 tx2, .slice am2 nm2 cm2, .slice aw2 nw2 cw2, .slice ae2 ne2 ce2, .slice ao2 no2 co2, .slice an2 nn2 cn2] 27 (0, 0)) /\ Tch (fun q => q = b1 ∨ q = b1 + 1) wa W) _ _ _ _ _ 4
   refine istep_w2 (i := 4) ⟨none, _, _, _, _, none⟩ rfl (fun a w' hf hC hn => (iwanted_no rfl)) (fun a W hf hk hC hn K hK => ?_)
   have g1 : SV na (a.eval (.tmp 10)) W := hn 1 (by decide)
   obtain ⟨l, el, hl, ho⟩ := sv_list g1
   refine w_stAgg szSt rfl (hf.ev (by kernel_rfl) h2) (blk_tch hC B1.out (fun h => h)) rfl el hl ho (fun z w' hb ht => ?_)
   refine hK _ _ ⟨⟨l.toArray, by simpa using hl, hb, by rw [<- el]; exact sv_keep g1 ht (fun k e => by have h9 : k = b1 := e; have := HNA.out; omega)⟩, blk_tch ht (blk_tch hC B2.out (fun h => h)) (fun e => by have h9 : b1 + 1 = b1 := e; omega), (hC.no (F := (fun q => q = b1 ∨ q = b1 + 1))).trans ht (fun k _ e => .inl e)⟩ trivial (fun j hj hne hk1 hl1 x h => ?_)
   have hj2 : j = 1 ∨ j = 3 := by simpa using hj
   rcases hj2 with rfl | rfl
   ·exact absurd (show 1 ∈ ([1] : List Nat) by decide) hk1
   ·exact sv_keep (n := na) (x := x) h ht (fun k e => by have h9 : k = b1 := e; have := HNA.out; omega)
  case e5 =>
   show IStep2 _ _ _ _ _ _ (fun W => (∃ A : Array Value, A.size = 9 /\ W.heap[b1]? = some (.cells A 27 (0, 0)) /\ SV na (.agg A) W) /\ W.heap[b1 + 1]? = some (.cells #[.int .i64 br2, .int .i64 ni2, .int .i64 ns2, .int .i64 tx2, .slice am2 nm2 cm2, .slice aw2 nw2 cw2, .slice ae2 ne2 ce2, .slice ao2 no2 co2, .slice an2 nn2 cn2] 27 (0, 0)) /\ Tch (fun q => q = b1 ∨ q = b1 + 1) wa W) (fun W => (∃ A : Array Value, A.size = 9 /\ W.heap[b1]? = some (.cells A 27 (0, 0)) /\ SV na (.agg A) W) /\ (∃ A : Array Value, W.heap[b1 + 1]? = some (.cells A 27 (0, 0)) /\ SV na (.agg A) W) /\ Tch (fun q => q = b1 ∨ q = b1 + 1) wa W) _ _ _ _ _ 5
   refine istep_w2 (i := 5) ⟨none, _, _, _, _, none⟩ rfl (fun a w' hf hC hn => (iwanted_no rfl)) (fun a W hf hk hC hn K hK => ?_)
   have g1 : SV na (a.eval (.tmp 12)) W := hn 3 (by decide)
   obtain ⟨l, el, hl, ho⟩ := sv_list g1
   obtain ⟨⟨A, hA1, hA2, hA3⟩, hB, hT⟩ := hC
   refine w_stAgg szSt rfl (hf.ev (by kernel_rfl) h3) hB rfl el hl ho (fun z w' hb ht => ?_)
   exact hK _ _ ⟨⟨A, hA1, blk_tch ht hA2 (fun e => by have h9 : b1 = b1 + 1 := e; omega), sv_keep hA3 ht (fun k e => by have h9 : k = b1 + 1 := e; have := HNA.out; omega)⟩, ⟨l.toArray, hb, by rw [<- el]; exact sv_keep g1 ht (fun k e => by have h9 : k = b1 + 1 := e; have := HNA.out; omega)⟩, hT.trans ht (fun k _ e => .inr e)⟩ trivial (by intro j hj h1 h2 h3; exfalso; revert j; decide)
 ·intro af wf hf hC hR
  replace hC : (fun W => (∃ A : Array Value, A.size = 9 /\ W.heap[b1]? = some (.cells A 27 (0, 0)) /\ SV na (.agg A) W) /\ (∃ A : Array Value, W.heap[b1 + 1]? = some (.cells A 27 (0, 0)) /\ SV na (.agg A) W) /\ Tch (fun q => q = b1 ∨ q = b1 + 1) wa W) wf := hC
  obtain ⟨vs, hl, rfl⟩ := hf
  have hl : vs.length = 4 := hl
  obtain ⟨u0, vs0, hv0, hl⟩ := vs_cons hl
  obtain ⟨u1, vs1, hv1, hl⟩ := vs_cons hl
  obtain ⟨u2, vs2, hv2, hl⟩ := vs_cons hl
  obtain ⟨u3, vs3, hv3, hl⟩ := vs_cons hl
  have hvn := vs_nil hl
  have hvs : vs = [u0, u1, u2, u3] := by rw [hv0, hv1, hv2, hv3, hvn]
  clear hvn hl hv0 hv1 hv2 hv3
  subst hvs
  have hfr2 := hfr.out
  subst hfr2
  simp only [putAll, Act.put, List.setIfInBounds_toArray, List.set_cons_succ, List.set_cons_zero]
  obtain ⟨⟨A, hA1, hA2, s, hok, hs⟩, ⟨A2, hB2, s2, hok2, hs2⟩, hT⟩ := hC
  have TW : Hid (Tch No w wf) := TA.out.fresh hT (fun k e => by have := HB1.out; omega)
  obtain ⟨am5, cm5, aw5, cw5, ae5, ce5, ao5, co5, an5, cn5, e5⟩ := (hs.is (Tch.refl _ _)).vals
  obtain ⟨am6, cm6, aw6, cw6, ae6, ce6, ao6, co6, an6, cn6, e6⟩ := (hs2.is (Tch.refl _ _)).vals
  have e5' : A = #[.int .i64 s.broker, .int .i64 s.nid, .int .i64 s.nseq, .int .i64 s.tx, .slice am5 s.ms.length cm5, .slice aw5 s.waits.length cw5, .slice ae5 s.ends.length ce5, .slice ao5 s.opens.length co5, .slice an5 s.noes.length cn5] := by injection e5
  have e6' : A2 = #[.int .i64 s2.broker, .int .i64 s2.nid, .int .i64 s2.nseq, .int .i64 s2.tx, .slice am6 s2.ms.length cm6, .slice aw6 s2.waits.length cw6, .slice ae6 s2.ends.length ce6, .slice ao6 s2.opens.length co6, .slice an6 s2.noes.length cn6] := by injection e6
  subst e5' e6'
  have B8 := Lib.hid hA2
  have B9 := Lib.hid hB2
  have S8 := Lib.hid hs
  have S9 := Lib.hid hs2
  have OK8 := Lib.hid hok
  have OK9 := Lib.hid hok2
  clear hR hlist hsz hA1 hA2 hs hok hB2 hs2 hok2 e5 e6 hT B1 B2 TA HST HRC
  have hI1 : ∀ p : TchW wf, IsSt p.wo (.agg #[.int .i64 s.broker, .int .i64 s.nid, .int .i64 s.nseq, .int .i64 s.tx, .slice am5 s.ms.length cm5, .slice aw5 s.waits.length cw5, .slice ae5 s.ends.length ce5, .slice ao5 s.opens.length co5, .slice an5 s.noes.length cn5]) s := fun p => (stw_fwd S8.out p.t).is (Tch.refl _ _)
  have hI2 : ∀ p : TchW wf, IsSt p.wo (.agg #[.int .i64 s2.broker, .int .i64 s2.nid, .int .i64 s2.nseq, .int .i64 s2.tx, .slice am6 s2.ms.length cm6, .slice aw6 s2.waits.length cw6, .slice ae6 s2.ends.length ce6, .slice ao6 s2.opens.length co6, .slice an6 s2.noes.length cn6]) s2 := fun p => (stw_fwd S9.out p.t).is (Tch.refl _ _)
  obtain ⟨mb, hmb⟩ : ∃ b, mayM s = b := ⟨_, rfl⟩
  obtain ⟨eb, heb⟩ : ∃ b, decide (s = s2) = b := ⟨_, rfl⟩
  obtain ⟨nv, hnv⟩ : ∃ v, newV s.broker = v := ⟨_, rfl⟩
  have K1 : Hid (∀ p : TchW wf, Calls Tryz.prog 14 #[.agg #[.int .i64 s.broker, .int .i64 s.nid, .int .i64 s.nseq, .int .i64 s.tx, .slice am5 s.ms.length cm5, .slice aw5 s.waits.length cw5, .slice ae5 s.ends.length ce5, .slice ao5 s.opens.length co5, .slice an5 s.noes.length cn5]] p.wo fun e w' => e = .returned (.bool mb) /\ Tch No p.wo w') := fun p => by
   have h := may_any s OK8.out _ p.wo (hI1 p); rw [hmb] at h; exact h
  have K2 : Hid (∀ p : TchW wf, Calls Tryz.prog 15 #[.agg #[.int .i64 s.broker, .int .i64 s.nid, .int .i64 s.nseq, .int .i64 s.tx, .slice am5 s.ms.length cm5, .slice aw5 s.waits.length cw5, .slice ae5 s.ends.length ce5, .slice ao5 s.opens.length co5, .slice an5 s.noes.length cn5]] p.wo fun e w' => e = .returned (.bool mb) /\ Tch No p.wo w') := fun p => by
   have h := rmay_any s OK8.out _ p.wo (hI1 p); rw [hmb] at h; exact h
  have K3 : Hid (∀ p : TchW wf, Calls Tryz.prog 16 #[.agg #[.int .i64 s.broker, .int .i64 s.nid, .int .i64 s.nseq, .int .i64 s.tx, .slice am5 s.ms.length cm5, .slice aw5 s.waits.length cw5, .slice ae5 s.ends.length ce5, .slice ao5 s.opens.length co5, .slice an5 s.noes.length cn5], .agg #[.int .i64 s2.broker, .int .i64 s2.nid, .int .i64 s2.nseq, .int .i64 s2.tx, .slice am6 s2.ms.length cm6, .slice aw6 s2.waits.length cw6, .slice ae6 s2.ends.length ce6, .slice ao6 s2.opens.length co6, .slice an6 s2.noes.length cn6]] p.wo fun e w' => e = .returned (.bool eb) /\ Tch No p.wo w') := fun p => by
   have h := seq_any s s2 _ _ p.wo (hI1 p) (hI2 p); rw [heb] at h; exact h
  have K4 : Hid (∀ p : TchW wf, Calls Tryz.prog 17 #[.agg #[.int .i64 s.broker, .int .i64 s.nid, .int .i64 s.nseq, .int .i64 s.tx, .slice am5 s.ms.length cm5, .slice aw5 s.waits.length cw5, .slice ae5 s.ends.length ce5, .slice ao5 s.opens.length co5, .slice an5 s.noes.length cn5], .agg #[.int .i64 s2.broker, .int .i64 s2.nid, .int .i64 s2.nseq, .int .i64 s2.tx, .slice am6 s2.ms.length cm6, .slice aw6 s2.waits.length cw6, .slice ae6 s2.ends.length ce6, .slice ao6 s2.opens.length co6, .slice an6 s2.noes.length cn6]] p.wo fun e w' => e = .returned (.bool eb) /\ Tch No p.wo w') := fun p => by
   have h := req_any s s2 _ _ p.wo (hI1 p) (hI2 p); rw [heb] at h; exact h
  have K5 : Hid (∀ p : TchW wf, Calls Tryz.prog 16 #[.agg #[.int .i64 s.broker, .int .i64 s.nid, .int .i64 s.nseq, .int .i64 s.tx, .slice am5 s.ms.length cm5, .slice aw5 s.waits.length cw5, .slice ae5 s.ends.length ce5, .slice ao5 s.opens.length co5, .slice an5 s.noes.length cn5], .agg #[.int .i64 s.broker, .int .i64 s.nid, .int .i64 s.nseq, .int .i64 s.tx, .slice am5 s.ms.length cm5, .slice aw5 s.waits.length cw5, .slice ae5 s.ends.length ce5, .slice ao5 s.opens.length co5, .slice an5 s.noes.length cn5]] p.wo fun e w' => e = .returned (.bool true) /\ Tch No p.wo w') := fun p => by
   have h := seq_any s s _ _ p.wo (hI1 p) (hI1 p); rw [decide_eq_true rfl] at h; exact h
  have K6 : Hid (∀ p : TchW wf, Calls Tryz.prog 18 #[.int .i64 s.broker] p.wo fun e w' => e = .returned nv /\ Tch No p.wo w') := fun p => by
   have h := snew_val s.broker p.wo; rw [hnv] at h; exact h
  have K7 : Hid (∀ p : TchW wf, Calls Tryz.prog 19 #[.int .i64 s.broker] p.wo fun e w' => e = .returned nv /\ Tch No p.wo w') := fun p => by
   have h := rnew_val s.broker p.wo; rw [hnv] at h; exact h
  have K8 : Hid (∀ p : TchW wf, Calls Tryz.prog 17 #[nv, nv] p.wo fun e w' => e = .returned (.bool true) /\ Tch No p.wo w') := fun p => by
   have h := req_any (newM s.broker) (newM s.broker) _ _ p.wo (newv_is p.wo s.broker) (newv_is p.wo s.broker); rw [hnv, decide_eq_true rfl] at h; exact h
  clear hmb heb hnv hI1 hI2 OK8 OK9 S8 S9
  have c0 : ∀ p : TchW wf, p.wo.cell? ⟨b1, 0, none⟩ = some (.int .i64 s.broker) := fun p => (blk_cell (blk_tch p.t B8.out (fun h => h)) 0).trans rfl
  have c1 : ∀ p : TchW wf, p.wo.cell? ⟨b1, 1, none⟩ = some (.int .i64 s.nid) := fun p => (blk_cell (blk_tch p.t B8.out (fun h => h)) 1).trans rfl
  have c2 : ∀ p : TchW wf, p.wo.cell? ⟨b1, 2, none⟩ = some (.int .i64 s.nseq) := fun p => (blk_cell (blk_tch p.t B8.out (fun h => h)) 2).trans rfl
  have c3 : ∀ p : TchW wf, p.wo.cell? ⟨b1, 3, none⟩ = some (.int .i64 s.tx) := fun p => (blk_cell (blk_tch p.t B8.out (fun h => h)) 3).trans rfl
  have c4 : ∀ p : TchW wf, p.wo.cell? ⟨b1, 4, none⟩ = some (.slice am5 s.ms.length cm5) := fun p => (blk_cell (blk_tch p.t B8.out (fun h => h)) 4).trans rfl
  have c5 : ∀ p : TchW wf, p.wo.cell? ⟨b1, 5, none⟩ = some (.slice aw5 s.waits.length cw5) := fun p => (blk_cell (blk_tch p.t B8.out (fun h => h)) 5).trans rfl
  have c6 : ∀ p : TchW wf, p.wo.cell? ⟨b1, 6, none⟩ = some (.slice ae5 s.ends.length ce5) := fun p => (blk_cell (blk_tch p.t B8.out (fun h => h)) 6).trans rfl
  have c7 : ∀ p : TchW wf, p.wo.cell? ⟨b1, 7, none⟩ = some (.slice ao5 s.opens.length co5) := fun p => (blk_cell (blk_tch p.t B8.out (fun h => h)) 7).trans rfl
  have c8 : ∀ p : TchW wf, p.wo.cell? ⟨b1, 8, none⟩ = some (.slice an5 s.noes.length cn5) := fun p => (blk_cell (blk_tch p.t B8.out (fun h => h)) 8).trans rfl
  have d0 : ∀ p : TchW wf, p.wo.cell? ⟨b1 + 1, 0, none⟩ = some (.int .i64 s2.broker) := fun p => (blk_cell (blk_tch p.t B9.out (fun h => h)) 0).trans rfl
  have d1 : ∀ p : TchW wf, p.wo.cell? ⟨b1 + 1, 1, none⟩ = some (.int .i64 s2.nid) := fun p => (blk_cell (blk_tch p.t B9.out (fun h => h)) 1).trans rfl
  have d2 : ∀ p : TchW wf, p.wo.cell? ⟨b1 + 1, 2, none⟩ = some (.int .i64 s2.nseq) := fun p => (blk_cell (blk_tch p.t B9.out (fun h => h)) 2).trans rfl
  have d3 : ∀ p : TchW wf, p.wo.cell? ⟨b1 + 1, 3, none⟩ = some (.int .i64 s2.tx) := fun p => (blk_cell (blk_tch p.t B9.out (fun h => h)) 3).trans rfl
  have d4 : ∀ p : TchW wf, p.wo.cell? ⟨b1 + 1, 4, none⟩ = some (.slice am6 s2.ms.length cm6) := fun p => (blk_cell (blk_tch p.t B9.out (fun h => h)) 4).trans rfl
  have d5 : ∀ p : TchW wf, p.wo.cell? ⟨b1 + 1, 5, none⟩ = some (.slice aw6 s2.waits.length cw6) := fun p => (blk_cell (blk_tch p.t B9.out (fun h => h)) 5).trans rfl
  have d6 : ∀ p : TchW wf, p.wo.cell? ⟨b1 + 1, 6, none⟩ = some (.slice ae6 s2.ends.length ce6) := fun p => (blk_cell (blk_tch p.t B9.out (fun h => h)) 6).trans rfl
  have d7 : ∀ p : TchW wf, p.wo.cell? ⟨b1 + 1, 7, none⟩ = some (.slice ao6 s2.opens.length co6) := fun p => (blk_cell (blk_tch p.t B9.out (fun h => h)) 7).trans rfl
  have d8 : ∀ p : TchW wf, p.wo.cell? ⟨b1 + 1, 8, none⟩ = some (.slice an6 s2.noes.length cn6) := fun p => (blk_cell (blk_tch p.t B9.out (fun h => h)) 8).trans rfl
  clear B8 B9
  have hbb : (mb == mb) = true := beq_self_eq_true _
  have hee : (eb == eb) = true := beq_self_eq_true _
  go_upto_region 5 with fail
  refine wp_region_qt (by kernel_rfl) (by kernel_rfl) ?_
  repeat (go_big_quiet_step ((first | (go_at_call 14; with_reducible exact qt_t (K1.out _)) | (go_at_call 15; with_reducible exact qt_t (K2.out _)) | (go_at_call 16; with_reducible exact qt_t (K3.out _)) | (go_at_call 16; with_reducible exact qt_t (K5.out _)) | (go_at_call 17; with_reducible exact qt_t (K4.out _)) | (go_at_call 17; with_reducible exact qt_t (K8.out _)) | (go_at_call 18; with_reducible exact qt_t (K6.out _)) | (go_at_call 19; with_reducible exact qt_t (K7.out _)))))
  with_reducible refine wpQuiet_nil ?_
  rintro _ ⟨pq, rfl⟩
  go_wp2_with fail
  go_ret
  exact ⟨rfl, (TW.out.trans0 (TchW.t _)).below0⟩

/-! ### THE ROW's STEP -/
set_option maxRecDepth 100000 in
theorem lifted (os : Os) (started : os.Started) (H : Type) (enc : TypeId × Value → H) :
    ReturnsInHanded {} Tryz.checked os 3 .any (Rows.storeMaySpec.pre6 enc Tryz.prog Tryz.f3 Rows.storeMayRow.domain false) (Rows.storeMaySpec.post enc Tryz.prog Tryz.f3 false true false false) := by
  refine returnsInHanded_of_change_sized (C := Tryz.checked) own started (by kernel_rfl) Tryz.func3
    (ChangeSpec.witness6 (enc := enc) (C := Tryz.checked) false ⟨#[], #[.agg #[.int .i64 0, .int .i64 0, .int .i64 0, .int .i64 0, .slice none 0 0, .slice none 0 0, .slice none 0 0, .slice none 0 0, .slice none 0 0], .agg #[.int .i64 0, .int .i64 0, .int .i64 0, .int .i64 0, .slice none 0 0, .slice none 0 0, .slice none 0 0, .slice none 0 0, .slice none 0 0]], []⟩ 8 (by kernel_rfl) (by kernel_rfl) (by kernel_rfl) (by kernel_rfl)) ?_
  intro W base args ds gs before hval0 hW hcnd hsz0 _
  have hval : ∀ (j : Nat) t v, Tryz.f3.params[j]? = some t → args[j]? = some v → Value.okWide Tryz.prog W .any base t v := hval0
  have hW' := hW
  obtain ⟨p, q, hA0, hV, rfl, hfz, hnd⟩ := hW
  have hA : DataW.TrodAll enc Tryz.prog W 0 (fun _ => true) true Tryz.f3.params.toList args.toList ds p := hA0
  have hsz : (DataW.weightsEach Tryz.prog (Tryz.f3.params.toList ++ Rows.storeMaySpec.plain.varTypes Tryz.prog) (ds ++ gs)).all (· ≤ reachBytes) = true := hsz0
  rw [Tryz.params3] at hA hval hsz
  obtain ⟨v0, vs0, d0, ds0, p0, q0, hargs, rfl, rfl, h0, r0⟩ := trodAll_cons hA
  obtain ⟨v1, vs1, d1, ds1, p1, q1, rfl, rfl, rfl, h1, r1⟩ := trodAll_cons r0
  obtain ⟨rfl, rfl, rfl⟩ := trodAll_nil r1
  obtain rfl : args = #[v0, v1] := by cases args; simp_all
  obtain ⟨rfl, rfl⟩ := trodVars_none hV
  have k0 := h0
  have lt0 : ∀ x ∈ p0, x.block < W.heap.size := by obtain ⟨m, hm⟩ := k0; exact DataW.trod_lt m _ _ _ hm
  obtain ⟨cs0, rfl⟩ : ∃ cs, v0 = .agg cs := by
    have := hval 0 27 v0 rfl rfl
    simp only [Value.okWide, Tryz.underlying27] at this
    obtain ⟨cs, h, _⟩ := this
    exact ⟨cs, h⟩
  obtain ⟨s0, w0⟩ : ∃ s, ArgSt W (.agg cs0) s := by
    obtain ⟨fuel, hf⟩ := h0
    have := open_st hf (fun n hn => by have := List.all_eq_true.1 hsz n (DataW.weights_mem_each (j := 0) (t := 27) (d := d0) rfl rfl n hn); simpa using this)
    simpa [Value.cells] using this
  have k1 := h1
  have lt1 : ∀ x ∈ p1, x.block < W.heap.size := by obtain ⟨m, hm⟩ := k1; exact DataW.trod_lt m _ _ _ hm
  obtain ⟨cs1, rfl⟩ : ∃ cs, v1 = .agg cs := by
    have := hval 1 27 v1 rfl rfl
    simp only [Value.okWide, Tryz.underlying27] at this
    obtain ⟨cs, h, _⟩ := this
    exact ⟨cs, h⟩
  obtain ⟨s1, w1⟩ : ∃ s, ArgSt W (.agg cs1) s := by
    obtain ⟨fuel, hf⟩ := h1
    have := open_st hf (fun n hn => by have := List.all_eq_true.1 hsz n (DataW.weights_mem_each (j := 1) (t := 27) (d := d1) rfl rfl n hn); simpa using this)
    simpa [Value.cells] using this
  clear hA0 hval0
  refine (walk (.agg cs0) s0 (.agg cs1) s1 W w0 w1).mono fun e W' ⟨he, bel⟩ => ?_
  subst he
  exact ⟨_, rfl, _, _, _, [], _, [], hW', trodAll_mk1 (shut_bool Tryz.underlying4 _), (trodAll_cons_mk (Below.trod laidOut (by kernel_rfl) (of_decide_eq_true (by kernel_rfl)) k0 bel lt0) (trodAll_cons_mk (Below.trod laidOut (by kernel_rfl) (of_decide_eq_true (by kernel_rfl)) k1 bel lt1) trodAll_mk0)), rfl, bel.frame _, fun h => by cases h⟩

theorem clo0 : Tryz.prog.mayEnter = true := by kernel_rfl
theorem clo1 : (Rows.storeMayRow.lifted == Tryz.prog.liftsFinal) = true := by kernel_rfl
theorem clo2 : (Tryz.prog.make == some Rows.storeMayRow.make) = true := by kernel_rfl
theorem clo3 : (Rows.storeMayRow.inPlace == Tryz.prog.inPlace 3) = true := by kernel_rfl
theorem clo4 : (Rows.storeMayRow.unfollowed == Tryz.prog.unfollowed 3) = true := by kernel_rfl
theorem clo5 : (Rows.storeMayRow.recurses == Tryz.prog.recurses 3) = true := by kernel_rfl
theorem clo6 : (Rows.storeMayRow.named == Tryz.prog.varsNamed 3) = true := by kernel_rfl
theorem clo7 : laidOutB Tryz.prog = true := by kernel_rfl
theorem clo8 : mapsRowed Tryz.prog = true := by kernel_rfl
theorem clo9 : Tryz.prog.stopsHeard = true := by kernel_rfl
theorem clo10 : (Rows.storeMayRow.plainKeys == Tryz.prog.plainKeys) = true := by kernel_rfl
set_option maxRecDepth 100000 in
theorem closed : joinedFacts Tryz.prog 3 Tryz.f3 Rows.storeMaySpec Rows.storeMayRow = true := by
  unfold joinedFacts
  rw [clo0, clo1, clo2, clo3, clo4, clo5, clo6, clo7, clo8, clo9, clo10]
  kernel_rfl
theorem over : Rows.storeMayRow.holds Tryz.pinned (OpenSpec.ofChange Rows.storeMaySpec) :=
  OpenClaim.holds_of_wide 3 Tryz.f3 rfl rfl rfl rfl rfl rfl rfl ⟨rfl, rfl, rfl, rfl, rfl⟩ rfl rfl rfl rfl rfl (by kernel_rfl) Tryz.func3 closed
    (of_decide_eq_true (by kernel_rfl)) (by unfold Func.isWrapper; first | (rw [if_pos (by decide +kernel)]; kernel_rfl) | (rw [if_neg (by decide +kernel)]; exact ⟨rfl, rfl⟩))
    (fun os started H enc _ => lifted os started H enc)

/--  THE STATEMENT  -/
theorem proved : Rows.StoreMaySaid := over
#print axioms proved
end Go.Proofs.YtelaljoebdpicaaGreat.storeMay
