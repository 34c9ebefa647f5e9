/- StoreIds: the law StoreIds returns true for every input, and each argument reads behind the call as it read before. No condition. -/
import Derived.Test.YtafndmnbnmlklaaGreatPStoreIds09
import Derived.Test.YtafndmnbnmlklaaGreatPStoreIds19
import Derived.Test.YtafndmnbnmlklaaGreatPStoreIds26
import Derived.Test.YtafndmnbnmlklaaGreatPStoreIds35
import Derived.Test.YtafndmnbnmlklaaGreatRows
import Derived.WalkKit
import Derived.ProofKit
import Derived.OpenShut
import Derived.ShutString
import Derived.ChangeOld
import Derived.Below
import Derived.SizedLaws
namespace Go.Proofs.YtafndmnbnmlklaaGreat.storeIds
open Go.ChangeShapes Go.WideShapes Go.ChangeAt Go.RowKit Go.Maps
open Go.ChangeMaps (open_string shut_string)
set_option linter.unusedVariables false
set_option linter.unusedSimpArgs false

theorem own : ownKnob Tryz.prog.godebug = none := by kernel_rfl
theorem laidOut : laidOutB Tryz.prog = true := by kernel_rfl

theorem cell_at {w : World} {b i : Nat} {A : Array Value} {T : TypeId} {fr : Nat × Nat} {v : Value} (h : w.heap[b]? = some (.cells A T fr)) (hv : A[i]? = some v) : w.cell? ⟨b, i, none⟩ = some v := (blk_cell h i).trans hv
theorem sx_ms0 {G : Nat → Prop} {w : World} {b n : Nat} {s : StM} (h : SX G b s w) (hn : s.ms.length = n) : ∃ am cm, w.cell? ⟨b, 4, none⟩ = some (.slice am n cm) := by
  obtain ⟨am, cm, aw, cw, ae, ce, ao, co, an, cn, h1, _⟩ := h.cells
  exact ⟨am, cm, by rw [← hn]; exact (blk_cell h1 4).trans rfl⟩
theorem qt_w {P : Program} {f : FuncId} {args : Array Value} {w : World} {p : TchW w} {v : Value} (h : Calls P f args p.wo fun e w' => e = .returned v ∧ p.wo = w') :
    Calls P f args p.wo fun e w'' => e = .returned v ∧ ∃ q : TchW w, w'' = q.wo :=
  h.mono (fun e w' h => ⟨h.1, p, h.2.symm⟩)
set_option maxRecDepth 100000 in
set_option maxHeartbeats 8000000 in
theorem walk (a0 : Int) (v1 : Value) (l1 : List RecM) (w : World) (w0 : (Lit.int .i64 a0).wf = true) (w1 : ArgRs w v1 l1) :
  Calls Tryz.prog 7 #[.int .i64 a0, v1] w fun e w' => e = .returned (.bool true) /\ Below w.heap.size w w' := by
 obtain ⟨ra, rcp, rfl, hll⟩ := argrs_shape w1
 obtain ⟨nl, hnl⟩ : ∃ n, l1.length = n := ⟨_, rfl⟩
 have HNL := Lib.hid hnl
 rw [hnl] at w1 hll ⊢
 have HARG := Lib.hid w1
 have HW0 := Lib.hid w0
 clear hnl w1 w0
 go_enter Tryz.func7, Tryz.ntmps7
 go_wp2_with fail
 refine (begun10_any w).mono ?_
 rintro e wa ⟨rfl, ta⟩
 have TA := Lib.hid ta
 clear ta
 have hmod := Int.tmod_lt_of_pos a0 (show (0 : Int) < 8 by omega)
 have hmod2 := Int.lt_tmod_of_pos a0 (show (0 : Int) < 8 by omega)
 go_upto_region 5 with fail
 rw [show (Int.tmod a0 8 + 8) % 8 = Int.tmod a0 8 % 8 from by omega]
 obtain ⟨br, hbr⟩ : ∃ x, 1 + Int.tmod a0 8 % 8 = x := ⟨_, rfl⟩
 have hbr8 : 1 <= br /\ br <= 8 := by omega
 clear hmod hmod2
 rw [hbr]
 clear hbr
 generalize Int.tmod a0 8 % 8 = m8
 generalize Int.tmod a0 8 = t8
 have HBR := Lib.hid hbr8
 clear hbr8
 go_wp2_with fail
 refine (snew_any br _).mono ?_
 rintro e w2 ⟨v2, rfl, i2, t2⟩
 have T2 := Lib.hid (TA.out.trans0 t2)
 have V2 := Lib.hid (StW.of i2)
 clear i2 t2
 go_wp2_with (refine SX.new V2.out (G' := fun q => q = w2.heap.size) (fun k hk e => absurd hk (by omega)) rfl rfl rfl rfl rfl ?_; intro w6 S6z T6z)
 obtain ⟨b6, hb6⟩ : ∃ x, w2.heap.size = x := ⟨_, rfl⟩
 rw [hb6] at S6z ⊢
 have TW0 : Hid (Tch No w w6) := T2.out.trans0 T6z.out
 have HBS0 : Hid (w.heap.size <= b6 /\ b6 < w6.heap.size) := by
  have z3 := T2.out.size
  obtain ⟨A, _, z, _⟩ := S6z.out.ex
  have z4 := blk_lt z
  rw [Hid]; omega
 have HMN := Lib.hid (may_new HBR.out)
 rw [HMN.out.2.2] at S6z
 have hone : (1 : Int) - 1 = 0 := rfl
 clear hb6 T6z T2 TA V2
 go_loopg [7, 8] 41 (fun kx s7 s8 wr => ∃ i : Nat, ∃ st : StM, s8 = .int .i64 (i : Nat) /\ s7 = .int .i64 (st.nid - 1) /\ i <= 40 /\ 41 - i <= kx /\ Hid (MayP st /\ RoomP st 0) /\ Hid (st.broker = br) /\ Hid (SX (fun q => q = b6) b6 st wr) /\ Hid (Tch No w wr /\ b6 < wr.heap.size))
 case atStart => exact ⟨0, ⟨br, 1, 1, 0, [], [], [], [], []⟩, rfl, rfl, by omega, by omega, by have h := HMN.out; rw [h.2.2] at h; exact ⟨h.1, h.2.1⟩, rfl, S6z, TW0.out, HBS0.out.2⟩
 case round =>
  clear S6z TW0
  obtain ⟨i, st, rfl, rfl, hi40, hkx, HP, HBRK, S6, TWb⟩ := hrel
  have TW := Lib.hid TWb.out.1
  by_cases hil : (i : Int) < (nl : Int)
  ·by_cases h40 : (i : Int) < 40
   ·have hli : i < l1.length := by rw [HNL.out]; omega
    obtain ⟨rb, ro, vp, vu, rfl, hnl9, har, hcl⟩ := argrs_elem HARG.out hli
    clear hnl9
    obtain ⟨lr, hlr⟩ : ∃ x, l1[i] = x := ⟨_, rfl⟩
    have HLR0 := Lib.hid (record_rw har)
    have ORC0 : Hid (OkRec (cutRec l1[i])) := cutRec_ok har
    have HRC0 : Hid (∀ X, Tch No w X -> X.cell? ⟨rb, ro + i * 6, none⟩ = some (.int .i64 l1[i].kind) /\ X.cell? ⟨rb, ro + i * 6 + 1, none⟩ = some (.int .i64 l1[i].tid) /\ X.cell? ⟨rb, ro + i * 6 + 2, none⟩ = some (.int .i64 l1[i].id) /\ X.cell? ⟨rb, ro + i * 6 + 3, none⟩ = some (.bool l1[i].yes) /\ X.cell? ⟨rb, ro + i * 6 + 4, none⟩ = some vp /\ X.cell? ⟨rb, ro + i * 6 + 5, none⟩ = some vu) := hcl
    rw [hlr] at HLR0 ORC0 HRC0
    obtain ⟨rc, hrc⟩ : ∃ x, cutRec lr = x := ⟨_, rfl⟩
    have ORC : Hid (OkRec rc) := by rw [<- hrc]; exact ORC0.out
    rw [hrc] at HLR0
    obtain ⟨rk, rt, ri, ry, rpp, rpu⟩ := lr
    simp only at HLR0 HRC0
    clear har hcl hlr hrc ORC0
    obtain ⟨n0, hn0⟩ : ∃ x, wr.heap.size = x := ⟨_, rfl⟩
    have HN0 : Hid (b6 < n0 /\ wr.heap.size = n0) := ⟨by have z := TWb.out.2; omega, hn0⟩
    have HLR : Hid (∀ X, Tch No wr X -> Calls Tryz.prog 19 #[.agg #[.int .i64 rk, .int .i64 rt, .int .i64 ri, .bool ry, vp, vu]] X fun e w' => ∃ v', e = .returned v' /\ RecW (Tch (fun k => k < n0) w') v' rc /\ Tch No X w') := fun X tx => HLR0.out n0 X (TW.out.trans0 tx) (by have z := tx.size; omega)
    have HRC : Hid (∀ X, Tch No wr X -> X.cell? ⟨rb, ro + i * 6, none⟩ = some (.int .i64 rk) /\ X.cell? ⟨rb, ro + i * 6 + 1, none⟩ = some (.int .i64 rt) /\ X.cell? ⟨rb, ro + i * 6 + 2, none⟩ = some (.int .i64 ri) /\ X.cell? ⟨rb, ro + i * 6 + 3, none⟩ = some (.bool ry) /\ X.cell? ⟨rb, ro + i * 6 + 4, none⟩ = some vp /\ X.cell? ⟨rb, ro + i * 6 + 5, none⟩ = some vu) := fun X tx => HRC0.out X (TW.out.trans0 tx)
    have hin : i < nl := by omega
    clear hn0 HLR0 HRC0 hli
    have mixed : Tryz.prog.follows .mixedOrders = true := by kernel_rfl
    go_upto_region 10 with fail
    refine frame_var 98 rfl (fun fr hfr hsz => ?_)
    have h1 : fr.eval (.tmp 1) = .slice (some ⟨rb, ro, none⟩) nl rcp := by rw [hfr.out]; rfl
    have h6 : fr.eval (.tmp 6) = .pointer (some ⟨b6, 0, none⟩) := by rw [hfr.out]; rfl
    have h8 : fr.eval (.tmp 8) = .int .i64 ((i : Nat) : Int) := by rw [hfr.out]; rfl
    have hlist : ∀ f ∈ ([(fun x W => StW (Tch (fun q => q = b6) W) x st), (fun x _ => x = .slice (some ⟨rb, ro, none⟩) nl rcp), (fun x _ => x = .int .i64 ((i : Nat) : Int)), (fun x _ => x = .pointer (some ⟨rb, ro + i * 6, none⟩)), (fun x _ => x = .agg #[.int .i64 rk, .int .i64 rt, .int .i64 ri, .bool ry, vp, vu]), (fun x W => RecW (Tch (fun k => k < n0) W) x rc), (fun x W => StW (Tch (fun q => q = b6) W) x (applyM st rc)), (fun x W => ∃ b, x = .pointer (some ⟨b, 0, none⟩) /\ W.heap[b]? = some (.cells Z9 29 (0, 0)) /\ wr.heap.size <= b), (fun x _ => True)] : List (Value -> World -> Prop)), Stb f :=
     all_mem1 (stb_stw) (all_mem1 ((pur_eq _).stb) (all_mem1 ((pur_eq _).stb) (all_mem1 ((pur_eq _).stb) (all_mem1 ((pur_eq _).stb) (all_mem1 (stb_rw) (all_mem1 (stb_stw) (all_mem1 ((fun x w w' t h => by obtain ⟨b, h1, h2, h3⟩ := h; exact ⟨b, h1, blk_tch t h2 (fun h => h), h3⟩)) (all_mem1 (pur_any.stb) (all_mem0)))))))))
    refine wp_region_inv6 8 [] (fun i => ([[0], [0], [0], [0], [0], [0], [0], [0], [0]][i]?).getD []) (fun kst : Nat => match kst with  | _ => (fun W => Tch No wr W)) (RL [(fun x W => StW (Tch (fun q => q = b6) W) x st), (fun x _ => x = .slice (some ⟨rb, ro, none⟩) nl rcp), (fun x _ => x = .int .i64 ((i : Nat) : Int)), (fun x _ => x = .pointer (some ⟨rb, ro + i * 6, none⟩)), (fun x _ => x = .agg #[.int .i64 rk, .int .i64 rt, .int .i64 ri, .bool ry, vp, vu]), (fun x W => RecW (Tch (fun k => k < n0) W) x rc), (fun x W => StW (Tch (fun q => q = b6) W) x (applyM st rc)), (fun x W => ∃ b, x = .pointer (some ⟨b, 0, none⟩) /\ W.heap[b]? = some (.cells Z9 29 (0, 0)) /\ wr.heap.size <= b), (fun x _ => True)]) [0, 5, 6, 7] [32, 33, 34, 35, 36, 37, 38, 9] [(some 32, [6], []), (some 33, [1], []), (some 34, [8], []), (some 35, [33, 34], [1, 2]), (some 36, [35], [3]), (some 37, [36], [4]), (some 38, [32, 37], [0, 5, 5]), (some 9, [], []), (none, [9, 38], [7, 6, 6, 0, 1, 2, 3, 4, 5, 6, 7])] (fun i => ([[], [], [], [1, 2], [1, 2, 3], [1, 2, 3, 4], [0, 1, 2, 3, 4, 5], [], [0, 1, 2, 3, 4, 5, 6, 7]][i]?).getD []) (fun i => ([[], [], [], [1, 2], [3], [4], [0, 5], [], [6, 7]][i]?).getD []) (fun _ => []) (fun i => ([[6], [5, 6], [5, 6], [5, 6], [5, 6], [6], [], [], []][i]?).getD []) (by kernel_rfl) (by kernel_rfl) (by kernel_rfl) (by rw [hsz]; kernel_rfl) (by kernel_rfl) (by kernel_rfl) (by kernel_rfl) ?_ (rl_pur ?_) ?_ ?_ ?_
    ·exact Tch.drew _
    ·show ∀ j, j < 9 -> _ ∨ _
     refine all_lt1 (all_lt1 (all_lt1 (all_lt1 (all_lt1 (all_lt1 (all_lt1 (all_lt1 (all_lt1 (all_lt0) (Or.inl (by decide))) (Or.inr (pur_eq _))) (Or.inr (pur_eq _))) (Or.inr (pur_eq _))) (Or.inr (pur_eq _))) (Or.inl (by decide))) (Or.inl (by decide))) (Or.inl (by decide))) (Or.inr pur_any)
    ·show ∀ i, i < 9 -> _
     refine all_lt1 (all_lt1 (all_lt1 (all_lt1 (all_lt1 (all_lt1 (all_lt1 (all_lt1 (all_lt1 (all_lt0) ?c0) ?c1) ?c2) ?c3) ?c4) ?c5) ?c6) ?c7) ?c8
     case c0 =>
      intro _ kst hkst
      replace hkst : kst ∈ ([0] : List Nat) := hkst
      simp only [List.mem_cons, List.not_mem_nil, or_false] at hkst
      rcases hkst with rfl
      ·refine istep_w ⟨some 32, _, _, _, _, none⟩ rfl (fun a w' hf hC hn => (iwanted_no rfl)) (fun a W hf hC hn K hK => ?_)
       refine SX.wloadX (S6.out.keep hC) (.tmp 6) rfl (hf.ev (by kernel_rfl) h6) (fun v hv => ?_)
       exact hK _ _ hC hv (fun j _ _ _ _ x h => h)
     case c1 =>
      intro _ kst hkst
      replace hkst : kst ∈ ([0] : List Nat) := hkst
      simp only [List.mem_cons, List.not_mem_nil, or_false] at hkst
      rcases hkst with rfl
      ·exact iq (d := 33) (.slice (some ⟨rb, ro, none⟩) nl rcp) rfl (fun _ _ => rfl) (fun a W hf hC hn => y_move (ρ := a.eval) (.tmp 1) rfl (hf.ev (by kernel_rfl) h1) W)
     case c2 =>
      intro _ kst hkst
      replace hkst : kst ∈ ([0] : List Nat) := hkst
      simp only [List.mem_cons, List.not_mem_nil, or_false] at hkst
      rcases hkst with rfl
      ·exact iq (d := 34) (.int .i64 ((i : Nat) : Int)) rfl (fun _ _ => rfl) (fun a W hf hC hn => y_move (ρ := a.eval) (.tmp 8) rfl (hf.ev (by kernel_rfl) h8) W)
     case c3 =>
      intro _ kst hkst
      replace hkst : kst ∈ ([0] : List Nat) := hkst
      simp only [List.mem_cons, List.not_mem_nil, or_false] at hkst
      rcases hkst with rfl
      ·exact iq (d := 35) (.pointer (some ⟨rb, ro + i * 6, none⟩)) rfl (fun _ _ => rfl) (fun a W hf hC hn => y_ixRecord (ρ := a.eval) (.tmp 33) (.tmp 34) (b := rb) (off := ro) (n := nl) (c := rcp) (k := i) rfl (hn 1 (by decide)) (hn 2 (by decide)) (by omega) W)
     case c4 =>
      intro _ kst hkst
      replace hkst : kst ∈ ([0] : List Nat) := hkst
      simp only [List.mem_cons, List.not_mem_nil, or_false] at hkst
      rcases hkst with rfl
      ·exact iq (d := 36) (.agg #[.int .i64 rk, .int .i64 rt, .int .i64 ri, .bool ry, vp, vu]) rfl (fun _ _ => rfl) (fun a W hf hC hn => y_ldRecord (ρ := a.eval) (.tmp 35) (b := rb) (off := ro + i * 6) rfl (hn 3 (by decide)) W ((HRC.out W hC).1) ((HRC.out W hC).2.1) ((HRC.out W hC).2.2.1) ((HRC.out W hC).2.2.2.1) ((HRC.out W hC).2.2.2.2.1) ((HRC.out W hC).2.2.2.2.2))
     case c5 =>
      intro _ kst hkst
      replace hkst : kst ∈ ([0] : List Nat) := hkst
      simp only [List.mem_cons, List.not_mem_nil, or_false] at hkst
      rcases hkst with rfl
      ·refine istep_w ⟨some 37, _, _, _, _, none⟩ rfl (fun a w' hf hC hn => (iwanted_no rfl)) (fun a W hf hC hn K hK => ?_)
       refine w_call Tryz.func19 (by kernel_rfl) (by kernel_rfl) [.tmp 36] _ rfl [.agg #[.int .i64 rk, .int .i64 rt, .int .i64 ri, .bool ry, vp, vu]] (map1 (hn 4 (by decide))) (HLR.out W hC) (fun e w' h => ?_)
       obtain ⟨v', rfl, h1, hT⟩ := h
       exact ⟨_, rfl, hK _ _ (hC.trans0 hT) h1 (fun j _ _ _ _ x h => rl_stb hlist j x _ _ hT h)⟩
     case c6 =>
      intro _ kst hkst
      replace hkst : kst ∈ ([0] : List Nat) := hkst
      simp only [List.mem_cons, List.not_mem_nil, or_false] at hkst
      rcases hkst with rfl
      ·refine istep_w ⟨some 38, _, _, _, _, none⟩ rfl (fun a w' hf hC hn => (iwanted_no rfl)) (fun a W hf hC hn K hK => ?_)
       have g0 : StW (Tch (fun q => q = b6) W) (a.eval (.tmp 32)) st := hn 0 (by decide)
       have g5 : RecW (Tch (fun k => k < n0) W) (a.eval (.tmp 37)) rc := hn 5 (by decide)
       refine w_call Tryz.func23 (by kernel_rfl) (by kernel_rfl) [.tmp 32, .tmp 37] _ rfl [a.eval (.tmp 32), a.eval (.tmp 37)] (map2 rfl rfl) (sApply_any st rc (okst_may HP.out.1) ORC.out (fun q => q = b6) _ _ W g0 (g5.mono (fun X tx => tx.mono (fun q _ e => by have z := HN0.out; rw [e]; exact z.1)))) (fun e w' h => ?_)
       obtain ⟨v', rfl, h1, hT⟩ := h
       exact ⟨_, rfl, hK _ _ (hC.trans0 hT) (h1.mono (fun X tx => tx.mono (fun q _ e => ⟨e, by have z := HN0.out; have z2 := hC.size; omega⟩))) (fun j _ _ _ _ x h => rl_stb hlist j x _ _ hT h)⟩
     case c7 =>
      intro _ kst hkst
      replace hkst : kst ∈ ([0] : List Nat) := hkst
      simp only [List.mem_cons, List.not_mem_nil, or_false] at hkst
      rcases hkst with rfl
      ·refine istep_w ⟨some 9, _, _, _, _, none⟩ rfl (fun a w' hf hC hn => (iwanted_no rfl)) (fun a W hf hC hn K hK => ?_)
       refine wp_runs (y_alState (ρ := a.eval) rfl W) ?_
       exact hK _ _ (hC.trans0 (Tch.alloc _ _)) ⟨_, rfl, blk_new _ _, hC.size⟩ (fun j _ _ _ _ x h => rl_stb hlist j x _ _ (Tch.alloc _ _) h)
     case c8 => intro hne; exact absurd rfl hne
    ·show ∀ k, k < 0 -> _
     refine all_lt0
    ·refine last_by ⟨none, _, _, _, _, none⟩ rfl rfl (fun af wf hf hC hR K hK => ?_)
     replace hC : (fun W => Tch No wr W) wf := hC
     obtain ⟨vs, hl, rfl⟩ := hf
     have hl : vs.length = 8 := hl
     obtain ⟨u0, vs0, hv0, hl⟩ := vs_cons hl
     obtain ⟨u1, vs1, hv1, hl⟩ := vs_cons hl
     obtain ⟨u2, vs2, hv2, hl⟩ := vs_cons hl
     obtain ⟨u3, vs3, hv3, hl⟩ := vs_cons hl
     obtain ⟨u4, vs4, hv4, hl⟩ := vs_cons hl
     obtain ⟨u5, vs5, hv5, hl⟩ := vs_cons hl
     obtain ⟨u6, vs6, hv6, hl⟩ := vs_cons hl
     obtain ⟨u7, vs7, hv7, hl⟩ := vs_cons hl
     have hvn := vs_nil hl
     have hvs : vs = [u0, u1, u2, u3, u4, u5, u6, u7] := by rw [hv0, hv1, hv2, hv3, hv4, hv5, hv6, hv7, hvn]
     clear hvn hl hv0 hv1 hv2 hv3 hv4 hv5 hv6 hv7
     have e6 : (putAll fr [32, 33, 34, 35, 36, 37, 38, 9] vs).eval (.tmp 38) = u6 := by rw [hvs]; exact putAll_get 6 (by decide) rfl rfl rfl (by rw [hsz]; decide)
     have r6 : StW (Tch (fun q => q = b6) wf) u6 (applyM st rc) := by
      have h : (fun x W => StW (Tch (fun q => q = b6) W) x (applyM st rc)) ((putAll fr [32, 33, 34, 35, 36, 37, 38, 9] vs).eval (.tmp 38)) wf := hR 6 (by decide) (by decide) (by decide)
      rw [e6] at h
      exact h
     have e7 : (putAll fr [32, 33, 34, 35, 36, 37, 38, 9] vs).eval (.tmp 9) = u7 := by rw [hvs]; exact putAll_get 7 (by decide) rfl rfl rfl (by rw [hsz]; decide)
     have r7 : ∃ b, u7 = .pointer (some ⟨b, 0, none⟩) /\ wf.heap[b]? = some (.cells Z9 29 (0, 0)) /\ wr.heap.size <= b := by
      have h : (fun x W => ∃ b, x = .pointer (some ⟨b, 0, none⟩) /\ W.heap[b]? = some (.cells Z9 29 (0, 0)) /\ wr.heap.size <= b) ((putAll fr [32, 33, 34, 35, 36, 37, 38, 9] vs).eval (.tmp 9)) wf := hR 7 (by decide) (by decide) (by decide)
      rw [e7] at h
      exact h
     obtain ⟨b9, e7v, hb9, hlt9⟩ := r7
     have h69 : b6 < b9 := by have z := HN0.out; omega
     have hPA := (may_apply (r := rc) HP.out.1 HP.out.2)
     have r6' := stw_apart hPA.1 r6 hb9 (fun e => by omega)
     refine SX0.wstore ⟨.inr rfl, Z9, rfl, hb9⟩ r6' (.tmp 9) (.tmp 38) rfl (e7.trans e7v) e6 (fun z wz S9 T9 => hK _ _ ?_)
     have T9' : Hid (Tch No wr wz) := hC.fresh T9 (fun q e => by rw [e]; exact hlt9)
     have S9' := Lib.hid S9
     have S6' := Lib.hid (S6.out.keep T9'.out)
     have H69 : Hid (b6 < b9 /\ b9 < wz.heap.size) := ⟨h69, by
      obtain ⟨A, z1, z2, _⟩ := S9.ex
      exact blk_lt z2⟩
     have HPT := Lib.hid hPA
     clear hR hlist hK K e6 e7 r6 r6' hb9 S9 T9 hPA h69 hlt9
     subst e7v
     subst hvs
     have hfr2 := hfr.out
     subst hfr2
     simp only [putAll, Act.put, List.setIfInBounds_toArray, List.set_cons_succ, List.set_cons_zero]
     have HG := Lib.hid (grew_apply st rc)
     obtain ⟨t, ht⟩ : ∃ x, applyM st rc = x := ⟨_, rfl⟩
     rw [ht] at S9' HPT HG
     clear ht
     obtain ⟨lg, Ag, hg⟩ := HG.out
     have HGR := Lib.hid hg
     have hnid : t.nid = st.nid + (lg.length : Int) := hg.nid
     have hbr9 : st.broker = br := HBRK.out
     have HTB : Hid (t.broker = br) := hg.br.trans hbr9
     obtain ⟨na, hna⟩ : ∃ n, Ag.length = n := ⟨_, rfl⟩
     have HNA := Lib.hid hna
     obtain ⟨nt, hnt⟩ : ∃ n, t.ms.length = n := ⟨_, rfl⟩
     have HNT := Lib.hid hnt
     have HNTG : Hid (nt = na + lg.length) := by rw [Hid, <- hnt, hg.ms, List.length_append, putsM_len, hna]
     have htn := HPT.out.1.nid
     have hsn := HP.out.1.nid
     have hsq := HP.out.1.nseq
     have htq := HPT.out.1.nseq
     have htqe : t.nseq = st.nseq + (lg.length : Int) := hg.nseq
     have hbrk : 1 <= br /\ br <= 8 := by have h1 := HP.out.1.br; omega
     obtain ⟨sn, hsn2⟩ : ∃ x, st.nid = x := ⟨_, rfl⟩
     obtain ⟨sq, hsq2⟩ : ∃ x, st.nseq = x := ⟨_, rfl⟩
     obtain ⟨tn, htn2⟩ : ∃ x, t.nid = x := ⟨_, rfl⟩
     have HSN := Lib.hid hsn2
     have HSQ := Lib.hid hsq2
     have HTN := Lib.hid htn2
     rw [hsn2] at hnid hsn ⊢
     rw [htn2] at hnid htn
     rw [hsq2] at hsq htqe
     rw [htqe] at htq
     clear hg hna hnt hsn2 hsq2 htn2 htqe hbr9
     have hnt2 : nt <= 72 := by have h1 := HPT.out.1.lms; rw [HNT.out] at h1; exact h1
     obtain ⟨am0, cm0, hm0⟩ := sx_ms0 S9'.out HNT.out
     go_wp2_with fail
     go_loopg [7, 10] nt (fun ky s7 s10 wq => ∃ k : Nat, s10 = .int .i64 (k : Nat) /\ s7 = .int .i64 (sn - 1 + ((k - na : Nat) : Int)) /\ k <= nt /\ nt - k <= ky /\ Hid (Tch No wz wq))
     case atStart => exact ⟨0, rfl, by simp, Nat.zero_le _, by omega, Tch.refl _ _⟩
     case round =>
      clear hm0
      obtain ⟨k, rfl, rfl, hk, hgk, TQ⟩ := hrel
      have S9q := Lib.hid (S9'.out.keep TQ.out)
      have S6q := Lib.hid (S6'.out.keep TQ.out)
      by_cases hlt : k < nt
      ·have hkl : k < t.ms.length := by rw [HNT.out]; exact hlt
       obtain ⟨mb, mo, cmq, e4, e0, _, _, e3, _, _⟩ := S9q.out.msAt hkl
       rw [HNT.out] at e4
       have HMK := Lib.hid (rfl : t.ms[k] = t.ms[k])
       obtain ⟨m, hm⟩ : ∃ m, t.ms[k] = m := ⟨_, rfl⟩
       rw [hm] at e0 e3
       have HM9 := Lib.hid hm
       obtain ⟨id, hid⟩ : ∃ x, m.id = x := ⟨_, rfl⟩
       obtain ⟨qs, hqs⟩ : ∃ x, m.seq = x := ⟨_, rfl⟩
       rw [hid] at e0
       rw [hqs] at e3
       have HID := Lib.hid hid
       have HQS := Lib.hid hqs
       clear hid hqs hm HMK
       obtain ⟨ai, hai⟩ : ∃ x, atI (fun x : MsgM => x.id) st.ms id = x := ⟨_, rfl⟩
       have HAI := Lib.hid hai
       have HAM : Hid (∀ W A, IsSt W (.agg A) st -> Calls Tryz.prog 30 #[.agg A, .int .i64 id] W fun e w' => e = .returned (.int .i64 ai) /\ Tch No W w') := fun W A h => by rw [<- hai]; exact atms_any st id _ W h
       clear hai
       by_cases hka : k < na
       ·have hneg : ¬ (ai < 0) := by
         have h1 := atI_lt (fun x : MsgM => x.id) st.ms id
         have h2 : hasP (fun x : MsgM => x.id) st.ms id = true := by
          have h3 := HGR.out.old m (by
           have h4 : t.ms[k] = Ag[k]'(by rw [HNA.out]; exact hka) := by
            have h5 := HGR.out.ms
            simp only [h5]
            rw [List.getElem_append_left]
           rw [<- HM9.out, h4]
           exact List.getElem_mem _)
          rw [HID.out] at h3
          exact h3
         rw [h2, HAI.out] at h1
         simpa using h1
        have hz : k - na = 0 /\ k + 1 - na = 0 := by omega
        go_wp2_with (first | (refine SX.load S6q.out rfl ?_; intro A1 HA1) | (go_at_call 30; refine (HAM.out _ _ (HA1.out.is (Tch.refl _ _))).mono ?_; rintro e wu ⟨rfl, tu⟩; have TU := Lib.hid tu; clear tu HA1))
        go_roundg (nt - (k + 1))
        case measure => omega
        case rel => exact ⟨k + 1, by go_num, by rw [hz.2]; simp, by omega, by omega, TQ.out.trans0 TU.out⟩
       ·obtain ⟨j, hj⟩ : ∃ j, k = na + j := ⟨k - na, by omega⟩
        subst hj
        have hjl : j < lg.length := by have h1 := HNTG.out; omega
        have hkk : na + j - na = j /\ na + j + 1 - na = j + 1 := by omega
        rw [hkk.1]
        have HPA := Lib.hid (puts_at st.broker lg st.nid st.nseq j (by rw [putsM_len]; exact hjl))
        have HMP : Hid (m = (putsM st.broker st.nid st.nseq lg)[j]'(by rw [putsM_len]; exact hjl)) := by
         rw [Hid, <- HM9.out]
         have h5 := HGR.out.ms
         simp only [h5]
         rw [List.getElem_append_right (by rw [HNA.out]; omega)]
         simp [HNA.out]
        have hidv : Hid (id = makeM br (sn + (j : Int)) /\ qs = sq + (j : Int)) := by
         have h1 := HPA.out
         rw [<- HMP.out, HID.out, HQS.out, HBRK.out, HSN.out, HSQ.out] at h1
         exact h1
        have hneg : ai < 0 := by
         have h1 := atI_lt (fun x : MsgM => x.id) st.ms id
         have h2 := new_not HP.out.1 j (by rw [HSN.out]; omega)
         rw [HBRK.out, HSN.out, <- hidv.out.1] at h2
         rw [h2, HAI.out] at h1
         simpa using h1
        have hsnj : 1 <= sn + (j : Int) /\ sn + (j : Int) < 4294967296 := by omega
        have HMA : Hid (makeM br (sn + (j : Int)) = br * 4294967296 + (sn + (j : Int)) /\ makeM br sn = br * 4294967296 + sn) := ⟨by unfold makeM; rw [if_pos ⟨hbrk.1, hbrk.2, hsnj.1, hsnj.2⟩], by unfold makeM; rw [if_pos ⟨hbrk.1, hbrk.2, hsn.1, by omega⟩]⟩
        have hidn : id = br * 4294967296 + (sn + (j : Int)) := by rw [hidv.out.1, HMA.out.1]
        have hqsn : qs = sq + (j : Int) := hidv.out.2
        have HMK1 : Hid (∀ W, Calls Tryz.prog 31 #[.int .i64 br, .int .i64 (sn - 1 + (j : Int) + 1)] W fun e w' => e = .returned (.int .i64 id) /\ W = w') := fun W => by
         have e : sn - 1 + (j : Int) + 1 = sn + (j : Int) := by omega
         rw [e, hidv.out.1]
         exact rmake_any br _ (by unfold I64; omega) (by unfold I64; omega) W
        obtain ⟨y, hy⟩ : ∃ y, makeM br sn = y := ⟨_, rfl⟩
        have hyn : y = br * 4294967296 + sn := by rw [<- hy]; exact HMA.out.2
        have HMK2 : Hid (∀ W, Calls Tryz.prog 31 #[.int .i64 br, .int .i64 sn] W fun e w' => e = .returned (.int .i64 y) /\ W = w') := fun W => by
         rw [<- hy]
         exact rmake_any br _ (by unfold I64; omega) (by unfold I64; omega) W
        have hidb : 0 <= id /\ id < 1099511627776 := by omega
        have hyb : 0 <= y /\ y < 1099511627776 := by omega
        have HYN := Lib.hid hyn
        have HIDN := Lib.hid hidn
        have HQSN := Lib.hid hqsn
        clear hy hyn hidn hqsn
        go_upto_region 16 with (first | (refine SX.load S6q.out rfl ?_; intro A1 HA1) | (go_at_call 30; refine (HAM.out _ _ (HA1.out.is (Tch.refl _ _))).mono ?_; rintro e wu ⟨rfl, tu⟩; have TU := Lib.hid tu; clear tu HA1))
        obtain ⟨am6, cm6, aw6, cw6, ae6, ce6, ao6, co6, an6, cn6, hc6, _⟩ := (S6q.out.keep TU.out).cells
        have b61 := fun (p : TchW wu) => p.cell ((blk_cell hc6 1).trans rfl : wu.cell? ⟨b6, 1, none⟩ = some (.int .i64 st.nid))
        have b62 := fun (p : TchW wu) => p.cell ((blk_cell hc6 2).trans rfl : wu.cell? ⟨b6, 2, none⟩ = some (.int .i64 st.nseq))
        rw [HSN.out] at b61
        rw [HSQ.out] at b62
        have e4' := fun (p : TchW wu) => p.cell (TU.out.cell e4 (fun h => h))
        have e3' := fun (p : TchW wu) => p.cell (TU.out.cell e3 (fun h => h))
        have d1 : (id != id) = false := by simp
        have dq : (qs != sq + id - y) = false := by
         have h1 := HYN.out
         have h2 := HIDN.out
         have h3 := HQSN.out
         have : qs = sq + id - y := by omega
         simp [this]
        clear hc6 e4 e3 e0
        refine wp_region_qt (by kernel_rfl) (by kernel_rfl) ?_
        repeat (go_big_quiet_step (first | (go_at_call 31; with_reducible exact qt_w (HMK1.out _)) | (go_at_call 31; with_reducible exact qt_w (HMK2.out _))))
        with_reducible refine wpQuiet_nil ?_
        rintro _ ⟨pq, rfl⟩
        go_wp2_with fail
        go_roundg (nt - (na + j + 1))
        case measure => omega
        case rel => exact ⟨na + j + 1, by go_num, by rw [hkk.2]; go_num, by omega, by omega, (TQ.out.trans0 TU.out).trans0 pq.t⟩
      ·obtain rfl : k = nt := by omega
       have hse : sn - 1 + ((k - na : Nat) : Int) = tn - 1 := by have h1 := HNTG.out; omega
       rw [hse]
       obtain ⟨am9, cm9, aw9, cw9, ae9, ce9, ao9, co9, an9, cn9, hc9, _⟩ := S9q.out.cells
       obtain ⟨am6, cm6, aw6, cw6, ae6, ce6, ao6, co6, an6, cn6, hc6, _⟩ := S6q.out.cells
       have x4 := cell_at (i := 4) (v := .slice am9 t.ms.length cm9) hc9 rfl
       have x1 := cell_at (i := 1) (v := .int .i64 t.nid) hc9 rfl
       have y1 := cell_at (i := 1) (v := .int .i64 st.nid) hc6 rfl
       rw [HNT.out] at x4
       rw [HTN.out] at x1
       rw [HSN.out] at y1
       clear hc9 hc6
       have hl1 : ¬ (tn < sn) := by omega
       go_wp2_with (first | (refine SX.load S9q.out rfl ?_; intro A2 HA2) | (refine SX0.store S6q.out.zero (HA2.out.mono (fun X tx => tx.mono (fun q _ e => .inl e))) rfl rfl ?_; intro wn S6n TN))
       go_roundg (40 - i)
       case measure => omega
       case rel =>
        have T1 := ((T9'.out.trans0 TQ.out).no (F := fun q => q = b6)).trans TN.out (fun _ _ e => e)
        exact ⟨i + 1, t, by go_num, by rw [HTN.out, hnid], by omega, by omega, HPT, HTB, S6n, ⟨TW.out.fresh T1 (fun q e => by have z := HBS0.out; omega), by have z1 := T1.size; have z2 := TWb.out.2; omega⟩⟩
   ·go_wp2_with fail
    go_ret
    exact ⟨rfl, TW.out.below0⟩
  ·go_wp2_with fail
   go_ret
   exact ⟨rfl, TW.out.below0⟩

/-! ### THE ROW's STEP -/
set_option maxRecDepth 100000 in
theorem lifted (os : Os) (started : os.Started) (H : Type) (enc : TypeId × Value → H) :
    ReturnsInHanded {} Tryz.checked os 7 .any (Rows.storeIdsSpec.pre6 enc Tryz.prog Tryz.f7 Rows.storeIdsRow.domain false) (Rows.storeIdsSpec.post enc Tryz.prog Tryz.f7 false true false false) := by
  refine returnsInHanded_of_change_sized (C := Tryz.checked) own started (by kernel_rfl) Tryz.func7
    (ChangeSpec.witness6 (enc := enc) (C := Tryz.checked) false ⟨#[], #[.int .i64 0, .slice none 0 0], []⟩ 8 (by kernel_rfl) (by kernel_rfl) (by kernel_rfl) (by kernel_rfl)) ?_
  intro W base args ds gs before hval0 hW hcnd hsz0 _
  have hval : ∀ (j : Nat) t v, Tryz.f7.params[j]? = some t → args[j]? = some v → Value.okWide Tryz.prog W .any base t v := hval0
  have hW' := hW
  obtain ⟨p, q, hA0, hV, rfl, hfz, hnd⟩ := hW
  have hA : DataW.TrodAll enc Tryz.prog W 0 (fun _ => true) true Tryz.f7.params.toList args.toList ds p := hA0
  have hsz : (DataW.weightsEach Tryz.prog (Tryz.f7.params.toList ++ Rows.storeIdsSpec.plain.varTypes Tryz.prog) (ds ++ gs)).all (· ≤ reachBytes) = true := hsz0
  rw [Tryz.params7] at hA hval hsz
  obtain ⟨v0, vs0, d0, ds0, p0, q0, hargs, rfl, rfl, h0, r0⟩ := trodAll_cons hA
  obtain ⟨v1, vs1, d1, ds1, p1, q1, rfl, rfl, rfl, h1, r1⟩ := trodAll_cons r0
  obtain ⟨rfl, rfl, rfl⟩ := trodAll_nil r1
  obtain rfl : args = #[v0, v1] := by cases args; simp_all
  obtain ⟨rfl, rfl⟩ := trodVars_none hV
  obtain ⟨a0, rfl, rfl, rfl, w0⟩ := open_int Tryz.underlying3 (hval 0 3 v0 rfl rfl) h0
  have k1 := h1
  have lt1 : ∀ x ∈ p1, x.block < W.heap.size := by obtain ⟨m, hm⟩ := k1; exact DataW.trod_lt m _ _ _ hm
  obtain ⟨a1, len1, cap1, rfl⟩ := okWide_slice Tryz.underlying22 (hval 1 22 v1 rfl rfl)
  obtain ⟨l1, w1⟩ : ∃ l, ArgRs W (.slice a1 len1 cap1) l := by
    obtain ⟨fuel, hf⟩ := h1
    obtain ⟨v, l, hcs, hr⟩ := open_recs hf (fun n hn => by have := List.all_eq_true.1 hsz n (DataW.weights_mem_each (j := 1) (t := 22) (d := d1) rfl rfl n hn); simpa using this)
    simp [Value.cells] at hcs
    subst hcs
    exact ⟨l, hr⟩
  clear hA0 hval0
  refine (walk a0 (.slice a1 len1 cap1) l1 W w0 w1).mono fun e W' ⟨he, bel⟩ => ?_
  subst he
  exact ⟨_, rfl, _, _, _, [], _, [], hW', trodAll_mk1 (shut_bool Tryz.underlying4 _), (trodAll_cons_mk (shut_int Tryz.underlying3 w0) (trodAll_cons_mk (Below.trod laidOut (by kernel_rfl) (of_decide_eq_true (by kernel_rfl)) k1 bel lt1) trodAll_mk0)), rfl, bel.frame _, fun h => by cases h⟩

theorem clo0 : Tryz.prog.mayEnter = true := by kernel_rfl
theorem clo1 : (Rows.storeIdsRow.lifted == Tryz.prog.liftsFinal) = true := by kernel_rfl
theorem clo2 : (Tryz.prog.make == some Rows.storeIdsRow.make) = true := by kernel_rfl
theorem clo3 : (Rows.storeIdsRow.inPlace == Tryz.prog.inPlace 7) = true := by kernel_rfl
theorem clo4 : (Rows.storeIdsRow.unfollowed == Tryz.prog.unfollowed 7) = true := by kernel_rfl
theorem clo5 : (Rows.storeIdsRow.recurses == Tryz.prog.recurses 7) = true := by kernel_rfl
theorem clo6 : (Rows.storeIdsRow.named == Tryz.prog.varsNamed 7) = true := by kernel_rfl
theorem clo7 : laidOutB Tryz.prog = true := by kernel_rfl
theorem clo8 : mapsRowed Tryz.prog = true := by kernel_rfl
theorem clo9 : Tryz.prog.stopsHeard = true := by kernel_rfl
theorem clo10 : (Rows.storeIdsRow.plainKeys == Tryz.prog.plainKeys) = true := by kernel_rfl
set_option maxRecDepth 100000 in
theorem closed : joinedFacts Tryz.prog 7 Tryz.f7 Rows.storeIdsSpec Rows.storeIdsRow = true := by
  unfold joinedFacts
  rw [clo0, clo1, clo2, clo3, clo4, clo5, clo6, clo7, clo8, clo9, clo10]
  kernel_rfl
theorem over : Rows.storeIdsRow.holds Tryz.pinned (OpenSpec.ofChange Rows.storeIdsSpec) :=
  OpenClaim.holds_of_wide 7 Tryz.f7 rfl rfl rfl rfl rfl rfl rfl ⟨rfl, rfl, rfl, rfl, rfl⟩ rfl rfl rfl rfl rfl (by kernel_rfl) Tryz.func7 closed
    (of_decide_eq_true (by kernel_rfl)) (by unfold Func.isWrapper; first | (rw [if_pos (by decide +kernel)]; kernel_rfl) | (rw [if_neg (by decide +kernel)]; exact ⟨rfl, rfl⟩))
    (fun os started H enc _ => lifted os started H enc)

/--  THE STATEMENT  -/
theorem proved : Rows.StoreIdsSaid := over
#print axioms proved
end Go.Proofs.YtafndmnbnmlklaaGreat.storeIds
