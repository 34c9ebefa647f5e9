/- SegOwn: the law SegOwn returns true for every input, and each argument reads behind the call as it read before. No condition. The frame is the kit's proof-skeleton. -/
import Derived.Test.YtcjlgdldhcbcjaaRows
import Derived.WalkKit
import Derived.ProofKit
import Derived.OpenShut
import Derived.ShutString
import Derived.ChangeOld
import Derived.Below
import Derived.Test.YtcjlgdldhcbcjaaBeg3
import Derived.Test.YtcjlgdldhcbcjaaOwn4
import Derived.BigQuiet
namespace Go.Proofs.Ytcjlgdldhcbcjaa.segOwn
open Go.ChangeShapes Go.WideShapes Go.ChangeAt Go.RowKit Go.Maps
open Go.ChangeMaps (open_string shut_string)
set_option linter.unusedVariables false
set_option linter.unusedSimpArgs false

theorem own : ownKnob Try.prog.godebug = none := by kernel_rfl
theorem laidOut : laidOutB Try.prog = true := by kernel_rfl

theorem add_own (l0 : List UInt8) (h : l0.length ≤ 50) : addM 1000 (oneM []) 0 [] (l0 ++ [1]) = ⟨0, oneM [l0 ++ [1]], 0, [l0 ++ [1]]⟩ := by
  have hl : (l0 ++ [1]).length = l0.length + 1 := by simp
  rw [addM_one 1000 [] (l0 ++ [1]) (by unfold fits; omega) (by simp [framed]), if_neg (by rw [hl, framed_nil]; simp; omega)]
  rfl
theorem rows_oneO {w : World} {v : Value} {R : List BE} {b : List UInt8} (h : IsRows w v R) (hb : R.map (·.b) = [b]) (ho : ∀ x ∈ R, w.ownsRow 0 5 1 x.v x.b.length (u8s x.b)) : ∃ g cap ax mx cx, v = .slice (some ⟨g, 0, none⟩) 1 cap ∧ 1 ≤ cap ∧ w.cell? ⟨g, 0, none⟩ = some (.slice ax mx cx) ∧ mx = b.length ∧ w.ownsRow 0 5 1 (.slice ax mx cx) b.length (u8s b) ∧ (Value.slice ax mx cx).ownBlock ≠ some g ∧ RowsF v R g ∧ ∀ k, (Value.slice ax mx cx).ownBlock = some k → RowsF v R k := by
  match R, hb with
  | [x], hb =>
    simp at hb
    obtain ⟨g, cap, e, hc⟩ := h.at_ (i := 0) (by simp)
    obtain ⟨a, c', e', h1, _⟩ := own_shape h.row
    have hx := ho x (by simp)
    obtain ⟨ax, mx, cx, hv, hm⟩ := own_shape' hx
    simp at hc
    rw [e] at e'
    injection e' with _ _ e3
    have hne := h.ne x (by simp)
    rw [hv] at hc hx hne
    rw [hb] at hx hm
    refine ⟨g, cap, ax, mx, cx, e, by rw [e3]; exact h1, hc, hm, hx, fun q => hne g q (by rw [e]; rfl), .inl (by rw [e]; rfl), fun k hk => .inr ⟨x, by simp, by rw [hv]; exact hk⟩⟩
set_option maxRecDepth 100000 in
set_option maxHeartbeats 4000000 in
theorem walk (a0 : Option Addr) (len0 cap0 : Nat) (z0 : List Int) (w : World) (w0 : IsRow .u8 w a0 len0 cap0 z0) :
    Calls Try.prog 13 #[.slice a0 len0 cap0] w fun e w' => e = .returned (.bool true) ∧ Below w.heap.size w w' := by
  obtain ⟨i0, hi0, hz0, hz1, hz2⟩ := info_parts infoB
  obtain ⟨l0, hl0⟩ : ∃ l0, bytesOf (z0.take (min len0 50)) = l0 := ⟨_, rfl⟩
  have b0 : l0.length ≤ 50 := by rw [← hl0]; simp [bytesOf]; omega
  have W0 := Lib.hid w0
  have HL0 := Lib.hid hl0
  have HADD := Lib.hid (add_own l0 b0)
  obtain ⟨l1, hl1⟩ : ∃ l1, l0 ++ [1] = l1 := ⟨_, rfl⟩
  have hn1' : l1.length = l0.length + 1 := by rw [← hl1]; simp
  have HL1 := Lib.hid hl1
  rw [hl1] at HADD
  obtain ⟨n1, hn1⟩ : ∃ n1, l1.length = n1 := ⟨_, rfl⟩
  have N1 := Lib.hid hn1
  have hn51 : 1 ≤ n1 ∧ n1 ≤ 51 := by omega
  clear w0 hl0 hl1 hn1 hn1'
  go_enter Try.func13, Try.ntmps13
  go_wp2_with fail
  refine (begun4_any w).mono ?_
  rintro e w1 ⟨rfl, t1⟩
  have T1 := Lib.hid t1; clear t1
  go_wp2_with fail
  refine (short_own a0 len0 cap0 z0 50 w1 (W0.out.tch0 T1.out) (by omega)).mono ?_
  rintro e w2 ⟨v0, rfl, s2, f2, t2, o2⟩
  rw [HL0.out] at s2 o2
  have T2 := Lib.hid (T1.out.trans0 t2)
  have O2 := Lib.hid o2
  have F2 := Lib.hid (fun k (hk : v0.ownBlock = some k) => Nat.le_trans T1.out.size (f2 k hk))
  obtain ⟨c0, m0, d0, rfl, hm0⟩ := s2.shape'
  clear t2 s2 f2 o2 W0 HL0 hm0
  go_wp2_with (at_builtin; first
    | (refine wpList_app _ rfl _ _ 22 rfl 5 i0 Try.underlying22 hi0 hz0 hz1 hz2 (.slice c0 m0 d0) l0 rfl (own_tch O2.out (Tch.alloc _ _) (fun _ _ h => h)) _ [1] rfl (SlB.lit w2 #[.int .u8 1] [1] 1 5 (0, 0) rfl rfl (by decide)) (by unfold lim; simp; omega) l1 HL1.out.symm ?_; intro aB nB capB w3 hA hnB; have HA := Lib.hid hA; have HB := Lib.hid (SlB.ofRow hA.own (by have := N1.out; unfold lim; omega)); have HNB : Hid (nB = n1) := hnB.out.trans N1.out; clear hA hnB)
    | (refine wpList_app _ rfl _ _ 22 rfl 5 i0 Try.underlying22 hi0 hz0 hz1 hz2 (.slice none 0 0) [] rfl (World.ownsRow_nil _ _ _ _) (.slice aB nB capB) l1 rfl HB.out (by have := N1.out; unfold lim; simp; omega) l1 (by simp [Hid]) ?_; intro aC nC capC w4 hC hnC; have HC := Lib.hid hC; have HNC : Hid (nC = n1) := hnC.out.trans N1.out; clear hC hnC))
  have eB := HNB.out
  subst eB
  have eC := HNC.out
  subst eC
  have T3 : Hid (Tch No w w3) := (T2.out.trans0 (Tch.alloc _ _)).fresh (Tch.grown HA.out.grow (F := fun k => (Value.slice c0 m0 d0).ownBlock = some k) (fun k hk _ => hk)) (fun k hk => by have := F2.out k hk; have := T1.out.size; omega)
  have T34 : Hid (Tch No w3 w4) := Tch.grown HC.out.grow (fun q hq _ => by simp [Value.ownBlock] at hq)
  have LC : Hid (∀ k, (Value.slice aC nC capC).ownBlock = some k → k = w3.heap.size) := fun k hk => by
    rcases HC.out.loc with e | e
    · rw [e] at hk; simp [Value.ownBlock] at hk
    · rw [e] at hk; simp at hk; omega
  have CB : Hid (SlB w4 (.slice aC nC capC) l1) := SlB.ofRow HC.out.own (by have := N1.out; unfold lim; omega)
  have VC : Hid (OwnV w4 (.slice aC nC capC) nC) := by have h := OwnV.of HC.out.own; rw [N1.out] at h; exact h
  have HB4 : Hid (SlB w4 (.slice aB nC capB) l1) := HB.out.tch0 T34.out
  have SEP : Hid (∀ k, (Value.slice aB nC capB).ownBlock = some k → ¬ (Value.slice aC nC capC).ownBlock = some k) := fun k h1 h2 => by have := HB.out.blt k h1; have := LC.out k h2; omega
  have T4 := Lib.hid (T3.out.trans0 T34.out)
  have FC : Hid (∀ k, (Value.slice aC nC capC).ownBlock = some k → w.heap.size ≤ k) := fun k hk => by have := LC.out k hk; have := T3.out.size; omega
  clear HA HB HC T2 O2 F2 T3 T34 LC HNB HNC HL1
  refine (dk_new (K := K0 w4) 1000 w4 (fun k hk => hk)).mono ?_
  rintro e w5 ⟨db, mb, rfl, d5, t5⟩
  rw [show roomOf 1000 = 1000 by rfl] at d5
  have D5 := Lib.hid d5; have T5 := Lib.hid t5; clear d5 t5
  have e0 : openM 1000 [] 0 = ⟨0, [], 0, []⟩ := by
    unfold openM
    rw [show mDel [] newK = [] by rfl, topF_none (fun n _ _ => rfl) 999 (by omega) (by omega)]
    rfl
  go_wp2_with fail
  refine (open_ok D5.out 0 (by omega) (by simp) e0 rfl).mono ?_
  rintro e w6 ⟨lb, rfl, l6, k6⟩
  have L6 : Hid (LSt w6 lb db mb 1000 (oneM []) 0 [] (K0 w4)) := l6
  have T6 : Hid (Tch No w4 w6) := k6.noK (w := w4) T5.out
  clear l6 k6 D5 T5 e0
  go_wp2_with fail
  have hadd := Lib.hid (lst_add L6.out (by omega) (.slice aC nC capC) l1 (CB.out.tch0 T6.out) (fun k hk => CB.out.blt k hk) (by simp [oneM]) (by simp))
  rw [HADD.out] at hadd
  refine hadd.out.mono ?_
  rintro e w7 ⟨rfl, l7, k7⟩
  have L7 : Hid (LSt w7 lb db mb 1000 (oneM [l1]) 0 [l1] (K0 w4)) := l7
  have T7 : Hid (Tch No w4 w7) := k7.noK (w := w4) T6.out
  have V7 : Hid (OwnV w7 (.slice aC nC capC) nC) := VC.out.keep (fun k hk => T7.out.block k (CB.out.blt k hk) (fun h => h))
  clear l7 k7 L6 T6 hadd HADD VC
  go_wp2_with fail
  go_loopw [35] (fun i wr => ∃ j : Nat, j ≤ nC ∧ i = .int .i64 j ∧ Hid (OwnV wr (.slice aC nC capC) nC) ∧ Hid (Tch (fun k => (Value.slice aC nC capC).ownBlock = some k) w7 wr)) (fun i _ => nC - (intOf i).toNat)
  case atStart => exact ⟨0, by omega, rfl, V7, Tch.refl _ _⟩
  case round =>
    obtain ⟨j, hj, rfl, hV, hT⟩ := hrel
    by_cases hlt : j < nC
    · rcases hV.out with h0 | ⟨g, cap, hs, hU⟩
      · omega
      · simp only [Value.slice.injEq] at hs
        obtain ⟨rfl, _, rfl⟩ := hs
        obtain ⟨z, hc, hf⟩ := hU.get hlt
        have hfin : Hid (∀ z', OwnV (wr.setCell ⟨g, j, none⟩ (.int .u8 z')) (.slice (some ⟨g, 0, none⟩) nC capC) nC ∧ Tch (fun k => (Value.slice (some ⟨g, 0, none⟩) nC capC).ownBlock = some k) w7 (wr.setCell ⟨g, j, none⟩ (.int .u8 z'))) := fun z' =>
          ⟨.inr ⟨g, capC, rfl, hU.set j z'⟩, hT.out.trans (Tch.setCell (F := fun k => k = g) wr ⟨g, j, none⟩ (.int .u8 z') (fun _ => rfl)) (fun i _ hi => by subst hi; rfl)⟩
        clear hU hV hT V7
        go_wp2
        exact ⟨⟨j + 1, by omega, by go_num, (hfin.out _).1, (hfin.out _).2⟩, by simp [intOf]; omega⟩
    · have L8 := Lib.hid (L7.out.beside hT.out (fun k hk => CB.out.blt k hk))
      have B8 : Hid (SlB wr (.slice aB nC capB) l1) := (HB4.out.tch0 T7.out).tch hT.out (fun k hk e => SEP.out k hk e)
      have T8 : Hid (Tch No w wr) := (T4.out.trans0 T7.out).fresh hT.out FC.out
      clear hV hT V7 L7 CB HB4 SEP FC T4 T7
      go_wp2_with fail
      refine (lst_allO L8.out (by simp)).mono ?_
      rintro e w9 ⟨v9, R9, rfl, r9, m9, f9, t9, o9⟩
      obtain ⟨g9, c9, ax, mx, cx, rfl, h9, k9, hmx, q9, ne9, _, fe9⟩ := rows_oneO r9 m9 o9
      rw [N1.out] at hmx
      subst hmx
      have V9 : Hid (OwnV w9 (.slice ax mx cx) mx) := by have h := OwnV.of q9; rw [N1.out] at h; exact h
      have FE : Hid (∀ k, (Value.slice ax mx cx).ownBlock = some k → wr.heap.size ≤ k ∧ k < w9.heap.size) := fun k hk => ⟨f9 k (fe9 k hk), RowsF.lt r9 k (fe9 k hk)⟩
      have NE9 := Lib.hid ne9
      have L9 : Hid (LSt w9 lb db mb 1000 (oneM [l1]) 0 [l1] (fun k => K0 w4 k ∨ (Value.slice ax mx cx).ownBlock = some k)) := L8.out.more t9 (fun k hk => by
        rcases hk with hk | hk
        · exact .inl hk
        · exact .inr (FE.out k hk))
      have B9 : Hid (SlB w9 (.slice aB mx capB) l1) := B8.out.tch0 t9
      have SE : Hid (∀ k, (Value.slice aB mx capB).ownBlock = some k → ¬ (Value.slice ax mx cx).ownBlock = some k) := fun k h1 h2 => by have := B8.out.blt k h1; have := (FE.out k h2).1; omega
      have T9 := Lib.hid (T8.out.trans0 t9)
      clear r9 m9 f9 t9 o9 q9 ne9 fe9 L8 B8
      go_wp2_with fail
      obtain ⟨wp, hwp⟩ : ∃ wp, wp = wr := ⟨_, rfl⟩
      subst hwp
      go_loopw [49] (fun i wr => ∃ j : Nat, j ≤ 1 ∧ i = .int .i64 j ∧ wr.cell? ⟨g9, 0, none⟩ = some (.slice ax mx cx) ∧ Hid (OwnV wr (.slice ax mx cx) mx) ∧ Hid (Tch (fun k => (Value.slice ax mx cx).ownBlock = some k) w9 wr)) (fun i _ => 1 - (intOf i).toNat)
      case atStart => exact ⟨0, by omega, rfl, k9, V9, Tch.refl _ _⟩
      case round =>
        clear k9 V9
        obtain ⟨i, hi, rfl, hk, hV, hT⟩ := hrel
        by_cases hlt2 : i < 1
        · have hi0 : i = 0 := by omega
          subst hi0
          rcases hV.out with h0 | ⟨ge, cap, hs, hU⟩
          · omega
          · simp only [Value.slice.injEq] at hs
            obtain ⟨rfl, _, rfl⟩ := hs
            obtain ⟨z, hc, hf⟩ := hU.get (j := 0) (by omega)
            have hge : g9 ≠ ge := fun e => NE9.out (by rw [e]; rfl)
            have hfin : Hid (∀ z', OwnV (wr.setCell ⟨ge, 0, none⟩ (.int .u8 z')) (.slice (some ⟨ge, 0, none⟩) mx cx) mx ∧ Tch (fun k => (Value.slice (some ⟨ge, 0, none⟩) mx cx).ownBlock = some k) w9 (wr.setCell ⟨ge, 0, none⟩ (.int .u8 z')) ∧ (wr.setCell ⟨ge, 0, none⟩ (.int .u8 z')).cell? ⟨g9, 0, none⟩ = some (.slice (some ⟨ge, 0, none⟩) mx cx)) := fun z' =>
              ⟨.inr ⟨ge, cx, rfl, hU.set 0 z'⟩, hT.out.trans (Tch.setCell (F := fun k => k = ge) wr ⟨ge, 0, none⟩ (.int .u8 z') (fun _ => rfl)) (fun i _ hi => by subst hi; rfl), (Tch.setCell (F := fun k => k = ge) wr ⟨ge, 0, none⟩ (.int .u8 z') (fun _ => rfl)).cell hk (fun e => hge e)⟩
            clear hU hV hT
            go_wp2
            exact ⟨⟨1, by omega, by go_num, (hfin.out _).2.2, (hfin.out _).1, (hfin.out _).2.1⟩, by simp [intOf]⟩
        · have L10 := Lib.hid (L9.out.beside hT.out (fun k hk => .inr hk))
          have B10 : Hid (SlB wr (.slice aB mx capB) l1) := B9.out.tch hT.out (fun k hk e => SE.out k hk e)
          have T10 : Hid (Tch No w wr) := T9.out.fresh hT.out (fun k hk => by have := (FE.out k hk).1; have := T8.out.size; omega)
          clear hV hT hk L9 B9 T9 T8 FE SE NE9
          go_wp2_with fail
          refine (lst_all L10.out (by simp)).mono ?_
          rintro e w11 ⟨v11, R11, rfl, r11, m11, _, t11⟩
          obtain ⟨g11, c11, a11, l11, d11, rfl, h11, k11, s11⟩ := rows_one r11 m11
          have T11 := Lib.hid (T10.out.trans0 t11)
          obtain ⟨S, hS⟩ : ∃ S : ByteArray, (⟨l1.toArray⟩ : ByteArray) = S := ⟨_, rfl⟩
          have y1 : ∀ n, (convert 22 9 (.slice a11 l11 d11)).run Try.prog (w11.drewN n) = .ok (.string S) (w11.drewN n) := fun n => by rw [← hS]; exact str_of (s11.tch0 (tch_drewN _ _))
          have y2 : ∀ n, (convert 22 9 (.slice aB mx capB)).run Try.prog (w11.drewN n) = .ok (.string S) (w11.drewN n) := fun n => by rw [← hS]; exact str_of ((B10.out.tch0 t11).tch0 (tch_drewN _ _))
          clear r11 m11 t11 s11 L10 B10 T10 hS
          go_wp2_with fail
          go_quiet (fail)
          go_wp2_with fail
          go_ret
          exact ⟨rfl, (T11.out.trans0 (tch_drewN _ _)).below0⟩

/-! ### THE ROW's STEP: WRITTEN OUT: LEAVE IT -/
set_option maxRecDepth 100000 in
theorem lifted (os : Os) (started : os.Started) (H : Type) (enc : TypeId × Value → H) :
    ReturnsInHanded {} Try.checked os 13 .any (Rows.segOwnSpec.pre6 enc Try.prog Try.f13 Rows.segOwnRow.domain false) (Rows.segOwnSpec.post enc Try.prog Try.f13 false true false false) := by
  refine returnsInHanded_of_change (C := Try.checked) own started (by kernel_rfl) Try.func13
    (ChangeSpec.witness6 (enc := enc) (C := Try.checked) false ⟨#[], #[.slice none 0 0], []⟩ 8 (by kernel_rfl) (by kernel_rfl) (by kernel_rfl) (by kernel_rfl)) ?_
  intro W base args ds gs before hval0 hW hcnd _
  have hval : ∀ (j : Nat) t v, Try.f13.params[j]? = some t → args[j]? = some v → Value.okWide Try.prog W .any base t v := hval0
  have hW' := hW
  obtain ⟨p, q, hA0, hV, rfl, hfz, hnd⟩ := hW
  have hA : DataW.TrodAll enc Try.prog W 0 (fun _ => true) true Try.f13.params.toList args.toList ds p := hA0
  rw [Try.params13] at hA hval
  obtain ⟨v0, vs0, d0, ds0, p0, q0, hargs, rfl, rfl, h0, r0⟩ := trodAll_cons hA
  obtain ⟨rfl, rfl, rfl⟩ := trodAll_nil r0
  obtain rfl : args = #[v0] := by cases args; simp_all
  obtain ⟨rfl, rfl⟩ := trodVars_none hV
  obtain ⟨a0, len0, cap0, rfl⟩ := okWide_slice Try.underlying22 (hval 0 22 v0 rfl rfl)
  have k0 := h0
  have lt0 : ∀ x ∈ p0, x.block < W.heap.size := by obtain ⟨m, hm⟩ := k0; exact DataW.trod_lt m _ _ _ hm
  obtain ⟨z0, w0⟩ : ∃ zs, IsRow .u8 W a0 len0 cap0 zs := by
    obtain ⟨fuel, hf⟩ := h0
    rcases open_ints Try.underlying22 Try.underlying5 (by kernel_rfl) hf with ⟨hcs, _⟩ | ⟨x, l, c, zs, hcs, _, hl, hm, hz, _, hcell, hwz⟩
    · simp [Value.cells] at hcs
      obtain ⟨rfl, rfl, rfl⟩ := hcs
      exact ⟨[], .inl ⟨rfl, rfl, rfl, rfl⟩⟩
    · simp [Value.cells] at hcs
      obtain ⟨rfl, rfl, rfl⟩ := hcs
      exact ⟨zs, .inr ⟨_, rfl, hl, hm, by simpa using hz, hcell, hwz⟩⟩
  clear hA0 hval0
  refine (walk a0 len0 cap0 z0 W w0).mono fun e W' ⟨he, bel⟩ => ?_
  subst he
  exact ⟨_, rfl, _, _, _, [], _, [], hW', trodAll_mk1 (shut_bool Try.underlying4 _), (trodAll_cons_mk (Below.trod laidOut (by kernel_rfl) (of_decide_eq_true (by kernel_rfl)) k0 bel lt0) trodAll_mk0), rfl, bel.frame _, fun h => by cases h⟩

theorem over : Rows.segOwnRow.holds Try.pinned (OpenSpec.ofChange Rows.segOwnSpec) :=
  OpenClaim.holds_of_wide 13 Try.f13 rfl rfl rfl rfl rfl rfl rfl ⟨rfl, rfl, rfl, rfl, rfl⟩ rfl rfl rfl rfl rfl (by kernel_rfl) Try.func13 (by kernel_rfl)
    (of_decide_eq_true (by kernel_rfl)) (by unfold Func.isWrapper; first | (rw [if_pos (by decide +kernel)]; kernel_rfl) | (rw [if_neg (by decide +kernel)]; exact ⟨rfl, rfl⟩))
    (fun os started H enc _ => lifted os started H enc)

/--  THE STATEMENT  -/
theorem proved : Rows.SegOwnSaid := over
#print axioms proved
end Go.Proofs.Ytcjlgdldhcbcjaa.segOwn
