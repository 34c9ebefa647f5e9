/- SegFrom: the law SegFrom returns true for every input, and each argument reads behind the call as it read before. No condition. The frame is the kit's proof-skeleton. -/
import Derived.Test.YtcjlgdldhcbcjaaRows
import Derived.WalkKit
import Derived.ProofKit
import Derived.OpenShut
import Derived.ShutString
import Derived.ChangeOld
import Derived.Below
import Derived.Test.YtcjlgdldhcbcjaaBeg3
import Derived.Test.YtcjlgdldhcbcjaaFrom1
import Derived.Test.YtcjlgdldhcbcjaaMake
import Derived.Deep.DeepCutAuto
import Derived.Deep.CutBlock
namespace Go.Proofs.Ytcjlgdldhcbcjaa.segFrom
open Go.ChangeShapes Go.WideShapes Go.ChangeAt Go.RowKit Go.Maps
open Go.ChangeMaps (open_string shut_string)
set_option linter.unusedVariables false
set_option linter.unusedSimpArgs false

theorem own : ownKnob Try.prog.godebug = none := by kernel_rfl
theorem laidOut : laidOutB Try.prog = true := by kernel_rfl

theorem wf_bounds {n : Int} (h : (Lit.int .i64 n).wf = true) : -9223372036854775808 ≤ n ∧ n ≤ 9223372036854775807 := by
  simp only [Lit.wf, IntKind.min, IntKind.max, IntKind.signed, IntKind.bits] at h
  simp at h; omega
theorem ints_at {w : World} {a : Option Addr} {len cap : Nat} {zs : List Int} (h : IsRow .i64 w a len cap zs) {j : Nat} (hj : j < len) : ∃ x z, a = some x ∧ w.cell? (x.add j) = some (.int .i64 z) ∧ -9223372036854775808 ≤ z ∧ z ≤ 9223372036854775807 := by
  rcases h with ⟨_, h, _⟩ | ⟨x, h1, h2, h3, h4, h5, h6⟩
  · omega
  · refine ⟨x, _, h1, h5 j (by omega), ?_⟩
    exact wf_bounds (h6 _ (by rw [List.getD, List.getElem?_eq_getElem (show j < zs.length by omega)]; exact List.getElem_mem _))
theorem txt_cells (j : Nat) (h : j < 256) : (#[.int .u8 (j : Int), .int .u8 1] : Array Value) = (u8s (txt j)).toArray := by
  have : (UInt8.ofNat j).toNat = j := by simp; omega
  simp [u8s, txt]; omega
theorem own_some {w : World} {e : TypeId} {a : Option Addr} {m n c : Nat} {xs : List Value} (h : w.ownsRow 0 e 1 (.slice a m c) n xs) (hb : 0 < n) : ∃ g, a = some ⟨g, 0, none⟩ ∧ m = n := by
  rcases h.2 with ⟨_, e⟩ | ⟨g, c', cur, e, _⟩
  · omega
  · injection e with e1 e2 _; exact ⟨g, e1, e2⟩
theorem forgets_nat (f : Nat) (h : f ≤ 1000) : forgets (f : Int) = f := by unfold forgets; omega
set_option maxRecDepth 100000 in
set_option maxHeartbeats 4000000 in
theorem walk (a0 : Option Addr) (len0 cap0 : Nat) (z0 : List Int) (a1 : Int) (w : World) (w0 : IsRow .i64 w a0 len0 cap0 z0) (w1 : (Lit.int .i64 a1).wf = true) :
    Calls Try.prog 14 #[.slice a0 len0 cap0, .int .i64 a1] w fun e w' => e = .returned (.bool true) ∧ Below w.heap.size w w' := by
  have hbd := wf_bounds w1
  have W0 := Lib.hid w0
  obtain ⟨hl0, hl1, _⟩ := w0.lens
  clear w0 w1
  go_enter Try.func14, Try.ntmps14
  go_wp2_with fail
  refine (begun4_any w).mono ?_
  rintro e w1 ⟨rfl, t1⟩
  have T1 := Lib.hid t1; clear t1
  go_wp2_with fail
  refine (dk_new (K := K0 w1) 1048576 w1 (fun k hk => hk)).mono ?_
  rintro e w2 ⟨db, mb, rfl, d2, t2⟩
  rw [show roomOf 1048576 = 1048576 by rfl] at d2
  have D2 := Lib.hid d2; have T2 := Lib.hid t2; clear d2 t2
  go_wp2_with fail
  refine (open_ok D2.out 0 (by omega) (by simp) e0 rfl).mono ?_
  rintro e w3 ⟨lb, rfl, l3, k3⟩
  have B3 : Hid (FromS w1 w3 lb db mb [] 0 (fun _ => []) [] (.slice none 0 0) 0 0) := by
    refine ⟨LSt.less (K := K0 w1) l3 (fun k hk => ?_), World.ownsRow_nil _ _ _ _, Tells.empty, Segs.empty, by simp, by simp [mUsed, framed], fun k hk => by simp [Value.ownBlock] at hk, k3.noK (w := w1) T2.out, by simp⟩
    rcases hk with hk | hk
    · exact hk
    · simp [Value.ownBlock] at hk
  clear l3 k3 D2 T2
  go_upto_block 0 with fail
  go_cut [9] from 10 to 56 (fun s9 wx => ∃ (M : List FE) (last : Nat) (S : Nat → List (List UInt8)) (T : List Nat) (va : Value) (j : Nat), s9 = va ∧ j ≤ 20 ∧ Hid (FromS w1 wx lb db mb M last S T va j j))
  case first =>
    go_wp2_with fail
    go_loopw [9, 10] (fun s i wr => ∃ (j : Nat) (M : List FE) (last : Nat) (S : Nat → List (List UInt8)) (T : List Nat) (va : Value), j ≤ len0 ∧ j ≤ 20 ∧ i = .int .i64 j ∧ s = va ∧ Hid (FromS w1 wr lb db mb M last S T va j j)) (fun _ i _ => 20 - (intOf i).toNat)
    case atStart => exact ⟨0, [], 0, _, [], _, by omega, by omega, rfl, rfl, B3⟩
    case round =>
      clear B3
      obtain ⟨j, M, last, S, T, va, hj1, hj2, rfl, rfl, HB⟩ := hrel
      obtain ⟨av, mv, cv, rfl, hmv⟩ := own_shape' HB.out.ats
      by_cases gg : j < len0 ∧ j < 20
      · obtain ⟨g1, g2⟩ := gg
        obtain ⟨x, z, ha, hcx, hz1, hz2⟩ := ints_at W0.out g1
        subst ha
        have hl9 : last ≤ 20 := by have := HB.out.cnt; omega
        have hu8 : IntKind.u8.wrap (j : Int) = (j : Int) := IntWalk.u8_in _ ⟨by omega, by omega⟩
        have hsl := SlB.lit wr #[.int .u8 (j : Int), .int .u8 1] (txt j) 2 5 (0, 0) rfl (txt_cells j (by omega)) (by decide)
        have L5 : Hid (LSt (wr.alloc (.cells #[.int .u8 (j : Int), .int .u8 1] 5)) lb db mb 1048576 M last (flatS S (last + 1)) (fun k => (K0 w1 k ∨ (Value.slice av mv cv).ownBlock = some k) ∨ k = wr.heap.size)) := HB.out.log.more (Tch.alloc _ _) (fun k hk => by
          rcases hk with hk | rfl
          · exact .inl hk
          · exact .inr ⟨Nat.le_refl _, by simp⟩)
        have hsa := HB.out.segs.add (by omega) (flatS S (last + 1)) (txt j) ⟨by simp [txt], by simp [txt]⟩ (by have := HB.out.used.2 last; omega) (by have := HB.out.used.1; have : (txt j).length = 2 := rfl; omega)
        have hadd := Lib.hid (lst_add L5.out (by omega) _ (txt j) hsl (fun k hk => by simp [Value.ownBlock] at hk; exact .inr hk.symm) (by have := HB.out.cnt; omega) (by
          have h1 := HB.out.tells 0
          have h2 := wantK_len T 0 T.length
          have h3 : flatS S (last + 1) = (List.range' 0 (last + 1 - 0)).flatMap S := by unfold flatS; rw [List.range_eq_range']; rfl
          rw [h3, h1]; have := HB.out.cnt; omega))
        rw [hsa.1] at hadd
        have HSG := Lib.hid hsa.2
        have hTl : Hid (T.length + 1 ≤ 2000000000) := by rw [Hid]; have := HB.out.cnt; omega
        clear hsa hsl hmv
        go_wp2_with fail
        refine hadd.out.mono ?_
        rintro e w6 ⟨he, l6, k6⟩
        have he' : e = .returned (.int .i64 0) := he
        clear he
        subst he'
        have L6 : Hid (LSt w6 lb db mb 1048576 (mAppL M (segNm last) (frameM (txt j))) last (flatS S (last + 1) ++ [txt j]) (fun k => (K0 w1 k ∨ (Value.slice av mv cv).ownBlock = some k) ∨ k = wr.heap.size)) := l6
        have K6 := Lib.hid k6
        have A6 : Hid (w6.ownsRow 0 3 1 (.slice av mv cv) T.length (ints T)) := k6.own (own_tch HB.out.ats (Tch.alloc _ _) (fun _ _ h => h)) (fun k hk => .inl (.inr hk))
        clear l6 k6 hadd L5
        go_wp2_with fail
        refine (lst_at L6.out).mono ?_
        rintro e w6' ⟨rfl, rfl⟩
        by_cases hb : bits .and .i64 z 1 = 1
        · have hbb : (bits .and .i64 z 1 == 1) = true := by simp [hb]
          go_wp2_with (at_builtin; go_must (refine wpList_appI rfl _ _ rfl (.slice av mv cv) T rfl (own_tch A6.out (Tch.alloc _ _) (fun _ _ h => h)) ⟨w6.heap.size, 0, none⟩ 1 last rfl (by simp) hTl.out ?_); intro aN nN cN w7 hA hnN; subst hnN; have H7 := Lib.hid (HB.out.add (Tch.alloc wr _) L6.out K6.out (Tch.alloc w6 _) hA HSG.out); have hc7 := (T1.out.trans0 H7.out.tch).cell hcx (fun h => h); clear hA HB)
          refine (lst_next H7.out.log (by omega)).mono ?_
          rintro e w8 ⟨he, l8, k8⟩
          rw [if_neg (by omega)] at he l8
          subst he
          have H8 := Lib.hid (H7.out.next (by omega) l8 k8)
          clear l8 k8 H7
          go_wp2_with fail
          exact ⟨⟨j + 1, _, _, _, _, _, by omega, by omega, by go_num, rfl, H8⟩, by simp [intOf]; omega⟩
        · have hbb : (bits .and .i64 z 1 == 1) = false := by simp [hb]
          go_wp2_with (at_builtin; go_must (refine wpList_appI rfl _ _ rfl (.slice av mv cv) T rfl (own_tch A6.out (Tch.alloc _ _) (fun _ _ h => h)) ⟨w6.heap.size, 0, none⟩ 1 last rfl (by simp) hTl.out ?_); intro aN nN cN w7 hA hnN; subst hnN; have H7 := Lib.hid (HB.out.add (Tch.alloc wr _) L6.out K6.out (Tch.alloc w6 _) hA HSG.out); have hc7 := (T1.out.trans0 H7.out.tch).cell hcx (fun h => h); clear hA HB)
          exact ⟨⟨j + 1, _, _, _, _, _, by omega, by omega, by go_num, rfl, Lib.hid (H7.out.more (Tch.refl _ _) (by omega))⟩, by simp [intOf]; omega⟩
      · by_cases g1 : j < len0
        · have g2 : ¬ j < 20 := fun h => gg ⟨g1, h⟩
          clear gg
          go_wp2_with fail
          go_meet
          exact ⟨M, last, S, T, _, j, rfl, hj2, HB⟩
        · clear gg
          go_wp2_with fail
          go_meet
          exact ⟨M, last, S, T, _, j, rfl, hj2, HB⟩
  case rest =>
    clear B3
    obtain ⟨M, last, S, T, va, j, rfl, hj, HB⟩ := hcut
    obtain ⟨wa, hwa⟩ : ∃ x, x = wc := ⟨_, rfl⟩
    subst hwa
    obtain ⟨av, mv, cv, rfl, hmv⟩ := own_shape' HB.out.ats
    obtain ⟨nT, hnT⟩ : ∃ n, T.length = n := ⟨_, rfl⟩
    have hmn : mv = nT := hmv.out.trans hnT
    subst hmn
    have HNT := Lib.hid hnT
    have hl9 : last ≤ 20 := by have := HB.out.cnt; omega
    have hn9 : mv ≤ 20 := by have := HB.out.cnt; omega
    clear hmv hnT
    by_cases hneg : a1 < 0
    · clear hbd
      go_wp2_with fail
      go_ret
      exact ⟨rfl, (T1.out.trans0 HB.out.tch).below0⟩
    go_wp2_with fail
    refine (lst_at HB.out.log).mono ?_
    rintro e w4 ⟨rfl, rfl⟩
    by_cases hgt : (last : Int) < a1
    · clear hbd
      go_wp2_with fail
      go_ret
      exact ⟨rfl, (T1.out.trans0 HB.out.tch).below0⟩
    obtain ⟨f, rfl⟩ : ∃ r : Nat, a1 = (r : Int) := ⟨a1.toNat, by omega⟩
    have hfl : f ≤ last := by omega
    clear hbd hneg
    go_wp2_with fail
    go_loopw [11, 12] (fun s i wr => ∃ (k : Nat) (vw : Value) (RW : List BE), k ≤ mv ∧ i = .int .i64 k ∧ s = vw ∧ Hid (IsRows wr vw RW) ∧ Hid (RW.map (·.b) = wantK T f k) ∧ Hid (∀ q, RowsF vw RW q → wa.heap.size ≤ q) ∧ Hid (Tch No wa wr)) (fun _ i _ => mv - (intOf i).toNat)
    case atStart => exact ⟨0, _, [], by omega, rfl, rfl, IsRows.nil _, by simp [Hid, wantK], fun q hq => by
      rcases hq with hq | ⟨x, hx, _⟩
      · simp [Value.ownBlock] at hq
      · simp at hx, Tch.refl _ _⟩
    case round =>
      obtain ⟨k, vw, RW, hk, rfl, rfl, HR, HW, HF, HT⟩ := hrel
      obtain ⟨aw, mw, cw, rfl, hmw⟩ := own_shape' HR.out.row
      by_cases hlt : k < mv
      · obtain ⟨ga, hga, _⟩ := own_some HB.out.ats (by rw [HNT.out]; omega)
        subst hga
        have hat := HB.out.ats
        rw [HNT.out] at hat
        have hcell := hat.cellAt k (by omega)
        have hTk : k < T.length := by rw [HNT.out]; exact hlt
        obtain ⟨y, hy⟩ : ∃ y, T[k] = y := ⟨_, rfl⟩
        have hgd : Hid (T.getD k 0 = y) := by rw [Hid, List.getD, List.getElem?_eq_getElem hTk, hy]; rfl
        rw [ints, List.getElem?_map, List.getElem?_eq_getElem hTk, hy] at hcell
        have hcell2 : wa.cell? ⟨ga, k, none⟩ = some (.int .i64 (y : Nat)) := hcell
        have hcell3 := HT.out.cell hcell2 (fun h => h)
        have hwl := Lib.hid (wantK_len T f k)
        clear hcell hcell2 hat hy hTk
        by_cases hfy : f ≤ y
        · have hu8 : IntKind.u8.wrap (k : Int) = (k : Int) := IntWalk.u8_in _ ⟨by omega, by omega⟩
          have hRl : Hid (RW.length + 1 ≤ 2000000000) := by rw [Hid]; have h1 := congrArg List.length HW.out; rw [List.length_map] at h1; have := hwl.out; omega
          have t1 := Tch.alloc wr (.cells #[.int .u8 (k : Int), .int .u8 1] 5)
          have t2 := Tch.alloc (wr.alloc (.cells #[.int .u8 (k : Int), .int .u8 1] 5)) (.cells #[.slice (some ⟨wr.heap.size, 0, none⟩) 2 2] 22)
          have T12 := Lib.hid (t1.trans0 t2)
          have SL : Hid (SlB ((wr.alloc (.cells #[.int .u8 (k : Int), .int .u8 1] 5)).alloc (.cells #[.slice (some ⟨wr.heap.size, 0, none⟩) 2 2] 22)) (.slice (some ⟨wr.heap.size, 0, none⟩) 2 2) (txt k)) := (SlB.lit wr #[.int .u8 (k : Int), .int .u8 1] (txt k) 2 5 (0, 0) rfl (txt_cells k (by omega)) (by decide)).tch0 t2
          have hsz : (wr.alloc (.cells #[.int .u8 (k : Int), .int .u8 1] 5)).heap.size = wr.heap.size + 1 := by simp
          clear t1 t2
          go_wp2_with (at_builtin; go_must (refine wpList_appR rfl _ _ rfl (.slice aw mw cw) RW.length (RW.map (·.v)) rfl (own_tch HR.out.row T12.out (fun _ _ h => h)) ⟨wr.heap.size + 1, 0, none⟩ 1 (.slice (some ⟨wr.heap.size, 0, none⟩) 2 2) (by simp [Act.eval, Act.put]) (by simp) rfl hRl.out ?_); intro aN nN cN w7 hA; have H7 := Lib.hid ((HR.out.tch0 T12.out).app (x := ⟨txt k, .slice (some ⟨wr.heap.size, 0, none⟩) 2 2⟩) hA SL.out (fun q hq e => by simp [Value.ownBlock] at hq; subst hq; have := (HR.out.row.lt _ e).2; omega)); clear hA)
          have HF2 : Hid (∀ q, RowsF (.slice aN nN cN) (RW ++ [⟨txt k, .slice (some ⟨wr.heap.size, 0, none⟩) 2 2⟩]) q → wa.heap.size ≤ q) := fun q hq => by
            have hsT := HT.out.size
            have hs12 := T12.out.size
            rcases H7.out.2.2 q hq with q1 | q1 | q1
            · exact HF.out q q1
            · simp [Value.ownBlock] at q1; omega
            · omega
          have HT2 : Hid (Tch No wa w7) := (HT.out.trans0 T12.out).fresh H7.out.2.1 (fun q hq => HF.out q (.inl hq))
          have HW2 : Hid ((RW ++ [⟨txt k, .slice (some ⟨wr.heap.size, 0, none⟩) 2 2⟩] : List BE).map (·.b) = wantK T f (k + 1)) := by rw [Hid, List.map_append, HW.out, wantK_succ, hgd.out, if_pos hfy]; rfl
          have HR2 := Lib.hid H7.out.1
          first
          | exact ⟨⟨k + 1, _, RW ++ [⟨txt k, .slice (some ⟨wr.heap.size, 0, none⟩) 2 2⟩], by omega, by go_num, rfl, HR2, HW2, HF2, HT2⟩, by simp [intOf]; omega⟩
          | exact ⟨⟨k + 1, by omega, by go_num, RW ++ [⟨txt k, .slice (some ⟨wr.heap.size, 0, none⟩) 2 2⟩], HR2, HW2, HF2, HT2⟩, by simp [intOf]; omega⟩
          | (trace_state; exact ⟨⟨k + 1, by omega, by omega, RW ++ [⟨txt k, .slice (some ⟨wr.heap.size, 0, none⟩) 2 2⟩], HR2, HW2, HF2, HT2⟩, by simp [intOf]; omega⟩)
        · go_wp2_with fail
          exact ⟨⟨k + 1, _, RW, by omega, by go_num, rfl, HR, by rw [Hid, HW.out, wantK_succ, hgd.out, if_neg hfy, List.append_nil], HF, HT⟩, by simp [intOf]; omega⟩
      · have hkm : k = mv := by omega
        subst hkm
        have LW : Hid (LSt wr lb db mb 1048576 M last (flatS S (last + 1)) (fun q => (K0 w1 q ∨ (Value.slice av k cv).ownBlock = some q) ∨ RowsF (.slice aw mw cw) RW q)) := HB.out.log.more HT.out (fun q hq => by
          rcases hq with hq | hq
          · exact .inl hq
          · exact .inr ⟨HF.out q hq, RowsF.lt HR.out q hq⟩)
        obtain ⟨t, hop⟩ := HB.out.open_ f hfl (by omega)
        obtain ⟨M3, hM3⟩ : ∃ M3, mForget f (mSync M (segNm last)) = M3 := ⟨_, rfl⟩
        have hleft := fun h => HB.out.left f hfl (by omega) h
        rw [hM3] at hop hleft
        have HOP := Lib.hid hop
        have HLEFT := Lib.hid hleft
        have HM3 := Lib.hid hM3
        have hTW := Lib.hid (wantK_len T f T.length)
        have HWW : Hid (RW.map (·.b) = wantK T f T.length) := by rw [HNT.out]; exact HW.out
        have TB := Lib.hid (T1.out.trans0 (HB.out.tch.trans0 HT.out))
        have TB1 := Lib.hid (HB.out.tch.trans0 HT.out)
        clear hop hleft hM3 HB
        go_wp2_with fail
        refine (lst_force LW.out (by omega)).mono ?_
        rintro e w20 ⟨rfl, l20, k20⟩
        have L20 := Lib.hid l20; have K20 := Lib.hid k20
        clear l20 k20 LW
        go_wp2_with fail
        refine (lst_forget L20.out (f : Int)).mono ?_
        rintro e w21 ⟨rfl, l21, k21⟩
        rw [forgets_nat f (by omega), HM3.out] at l21
        have L21 := Lib.hid l21; have K21 := Lib.hid (KT.trans K20.out k21)
        have hcnt := HLEFT.out l21.dk.nodup
        obtain ⟨m3, hm3⟩ : ∃ m, M3.length = m := ⟨_, rfl⟩
        rw [hm3] at hcnt
        have HM := Lib.hid hm3
        have hob := Lib.hid (open_beside l21 f (by omega) (by omega) HOP.out rfl)
        clear l21 k21 L20 hm3
        go_wp2_with fail
        refine hob.out.mono ?_
        rintro e w22 ⟨lm, rfl, l22, k22, c22⟩
        have L22 : Hid (LSt w22 lm db mb 1048576 M3 t (wantK T f T.length) (fun q => (K0 w1 q ∨ (Value.slice av k cv).ownBlock = some q) ∨ RowsF (.slice aw mw cw) RW q)) := l22
        have K22 := Lib.hid (KT.trans K21.out k22)
        have C22 := Lib.hid c22
        have R22 : Hid (IsRows w22 (.slice aw mw cw) RW) := HR.out.tch K22.out (fun q hq hn => hn (.inr hq))
        clear l22 k22 c22 hob L21
        go_wp2_with fail
        refine (lst_all L22.out (by have := hTW.out; rw [HNT.out] at this ⊢; omega)).mono ?_
        rintro e w23 ⟨vA, RA, rfl, rA, iA, _, tA⟩
        have RAll := Lib.hid rA; have IAll := Lib.hid iA; have TA := Lib.hid tA; clear rA iA tA
        go_wp2_with fail
        refine (eq_any RAll.out (R22.out.tch0 TA.out) (IAll.out.trans HWW.out.symm) (by have h1 := congrArg List.length IAll.out; rw [List.length_map] at h1; have := hTW.out; rw [HNT.out] at this h1; omega)).mono ?_
        rintro e w24 ⟨rfl, tE⟩
        have TE := Lib.hid (TA.out.trans0 tE); clear tE
        go_wp2_with fail
        refine (dk_names (L22.out.dk.keep TE.out) (by rw [HM.out]; omega)).mono ?_
        rintro e w25 ⟨an, cn, rfl, tN⟩
        rw [HM.out]
        have TN := Lib.hid (TE.out.trans0 tN); clear tN
        go_wp2_with fail
        refine (at_cell (TN.out.cell C22.out (fun h => h))).mono ?_
        rintro e w26 ⟨rfl, rfl⟩
        have hle : (m3 : Int) ≤ (last : Int) - (f : Int) + 1 := by omega
        have TZ : Hid (Tch No w1 w22) := TB1.out.fresh (F := fun q => ¬ ((K0 w1 q ∨ (Value.slice av k cv).ownBlock = some q) ∨ RowsF (.slice aw mw cw) RW q)) K22.out (fun q hq => by
          rcases Nat.lt_or_ge q w1.heap.size with p | p
          · exact absurd (.inl (.inl p)) hq
          · exact p)
        have TY := Lib.hid ((T1.out.trans0 TZ.out).trans0 TN.out)
        clear L22 R22 RAll IAll C22
        go_wp2_with fail
        go_ret
        exact ⟨rfl, TY.out.below0⟩

/-! ### THE ROW's STEP: WRITTEN OUT: LEAVE IT -/
set_option maxRecDepth 100000 in
theorem lifted (os : Os) (started : os.Started) (H : Type) (enc : TypeId × Value → H) :
    ReturnsInHanded {} Try.checked os 14 .any (Rows.segFromSpec.pre6 enc Try.prog Try.f14 Rows.segFromRow.domain false) (Rows.segFromSpec.post enc Try.prog Try.f14 false true false false) := by
  refine returnsInHanded_of_change (C := Try.checked) own started (by kernel_rfl) Try.func14
    (ChangeSpec.witness6 (enc := enc) (C := Try.checked) false ⟨#[], #[.slice none 0 0, .int .i64 0], []⟩ 8 (by kernel_rfl) (by kernel_rfl) (by kernel_rfl) (by kernel_rfl)) ?_
  intro W base args ds gs before hval0 hW hcnd _
  have hval : ∀ (j : Nat) t v, Try.f14.params[j]? = some t → args[j]? = some v → Value.okWide Try.prog W .any base t v := hval0
  have hW' := hW
  obtain ⟨p, q, hA0, hV, rfl, hfz, hnd⟩ := hW
  have hA : DataW.TrodAll enc Try.prog W 0 (fun _ => true) true Try.f14.params.toList args.toList ds p := hA0
  rw [Try.params14] at hA hval
  obtain ⟨v0, vs0, d0, ds0, p0, q0, hargs, rfl, rfl, h0, r0⟩ := trodAll_cons hA
  obtain ⟨v1, vs1, d1, ds1, p1, q1, rfl, rfl, rfl, h1, r1⟩ := trodAll_cons r0
  obtain ⟨rfl, rfl, rfl⟩ := trodAll_nil r1
  obtain rfl : args = #[v0, v1] := by cases args; simp_all
  obtain ⟨rfl, rfl⟩ := trodVars_none hV
  obtain ⟨a0, len0, cap0, rfl⟩ := okWide_slice Try.underlying34 (hval 0 34 v0 rfl rfl)
  have k0 := h0
  have lt0 : ∀ x ∈ p0, x.block < W.heap.size := by obtain ⟨m, hm⟩ := k0; exact DataW.trod_lt m _ _ _ hm
  obtain ⟨z0, w0⟩ : ∃ zs, IsRow .i64 W a0 len0 cap0 zs := by
    obtain ⟨fuel, hf⟩ := h0
    rcases open_ints Try.underlying34 Try.underlying3 (by kernel_rfl) hf with ⟨hcs, _⟩ | ⟨x, l, c, zs, hcs, _, hl, hm, hz, _, hcell, hwz⟩
    · simp [Value.cells] at hcs
      obtain ⟨rfl, rfl, rfl⟩ := hcs
      exact ⟨[], .inl ⟨rfl, rfl, rfl, rfl⟩⟩
    · simp [Value.cells] at hcs
      obtain ⟨rfl, rfl, rfl⟩ := hcs
      exact ⟨zs, .inr ⟨_, rfl, hl, hm, by simpa using hz, hcell, hwz⟩⟩
  obtain ⟨a1, rfl, rfl, rfl, w1⟩ := open_int Try.underlying3 (hval 1 3 v1 rfl rfl) h1
  clear hA0 hval0
  refine (walk a0 len0 cap0 z0 a1 W w0 w1).mono fun e W' ⟨he, bel⟩ => ?_
  subst he
  exact ⟨_, rfl, _, _, _, [], _, [], hW', trodAll_mk1 (shut_bool Try.underlying4 _), (trodAll_cons_mk (Below.trod laidOut (by kernel_rfl) (of_decide_eq_true (by kernel_rfl)) k0 bel lt0) (trodAll_cons_mk (shut_int Try.underlying3 w1) trodAll_mk0)), rfl, bel.frame _, fun h => by cases h⟩

theorem over : Rows.segFromRow.holds Try.pinned (OpenSpec.ofChange Rows.segFromSpec) :=
  OpenClaim.holds_of_wide 14 Try.f14 rfl rfl rfl rfl rfl rfl rfl ⟨rfl, rfl, rfl, rfl, rfl⟩ rfl rfl rfl rfl rfl (by kernel_rfl) Try.func14 (by kernel_rfl)
    (of_decide_eq_true (by kernel_rfl)) (by unfold Func.isWrapper; first | (rw [if_pos (by decide +kernel)]; kernel_rfl) | (rw [if_neg (by decide +kernel)]; exact ⟨rfl, rfl⟩))
    (fun os started H enc _ => lifted os started H enc)

/--  THE STATEMENT  -/
theorem proved : Rows.SegFromSaid := over
#print axioms proved
end Go.Proofs.Ytcjlgdldhcbcjaa.segFrom
