/- FileOwn: the law FileOwn returns true for every input, and each argument reads behind the call as it read before. No condition. The frame is the kit's proof-skeleton. -/
import Derived.Test.YtbhemlddncmmfaaRows
import Derived.WalkKit
import Derived.ProofKit
import Derived.OpenShut
import Derived.ShutString
import Derived.ChangeOld
import Derived.Below
import Derived.Test.YtbhemlddncmmfaaBeg3
import Derived.Test.YtbhemlddncmmfaaRead
namespace Go.Proofs.Ytbhemlddncmmfaa.fileOwn
open Go.ChangeShapes Go.WideShapes Go.ChangeAt Go.RowKit Go.Maps
open Go.ChangeMaps (open_string shut_string)
set_option linter.unusedVariables false

theorem own : ownKnob Try.prog.godebug = none := by kernel_rfl
theorem laidOut : laidOutB Try.prog = true := by kernel_rfl

theorem fo1 {A : List UInt8} (hA : A.length ≤ 60) : mAppend [] (roomOf 100) [97] A = (0, [⟨[97], A, 0, false⟩]) := by
  have : roomOf 100 = 100 := rfl
  have h2 : goodB [97] = true := rfl
  simp [mAppend, mAppL, mGet, mUsed, h2, this]; omega
set_option maxRecDepth 100000 in
set_option maxHeartbeats 4000000 in
theorem walk (a0 : Option Addr) (len0 cap0 : Nat) (z0 : List Int) (w : World) (w0 : IsRow .u8 w a0 len0 cap0 z0) :
    Calls Try.prog 7 #[.slice a0 len0 cap0] w fun e w' => e = .returned (.bool true) ∧ Below w.heap.size w w' := by
  obtain ⟨i0, hi0, hz0, hz1, hz2⟩ := info_parts infoB
  obtain ⟨l0, hl0⟩ : ∃ l0, bytesOf (z0.take (min len0 60)) = l0 := ⟨_, rfl⟩
  have b0 : l0.length ≤ 60 := by rw [← hl0]; simp [bytesOf]; omega
  have F1 := Lib.hid (fo1 b0)
  have W0 := Lib.hid w0
  have HL0 := Lib.hid hl0
  have blim : ([] : List UInt8).length + l0.length ≤ lim := by simp [lim]; omega
  clear w0 hl0
  go_enter Try.func7, Try.ntmps7
  go_wp2_with fail
  refine (begun3_any w).mono ?_
  rintro e w1 ⟨rfl, t1⟩
  go_wp2_with fail
  refine (short_row a0 len0 cap0 z0 60 w1 (W0.out.tch0 t1) (by omega)).mono ?_
  rintro e w2 ⟨v0, rfl, s2, f2, t2⟩
  rw [HL0.out] at s2
  have T2 := Lib.hid (t1.trans0 t2)
  have S0 := Lib.hid s2
  have FR0 := Lib.hid f2
  clear t1 t2 s2 f2 W0 HL0
  obtain ⟨c0, m0, d0, rfl, hm0⟩ := S0.out.shape'
  obtain rfl : m0 = l0.length := hm0
  go_wp2_with (at_builtin; go_must (refine wpList_app _ rfl _ _ 30 rfl 5 i0 Try.underlying30 hi0 hz0 hz1 hz2 (.slice none 0 0) [] rfl (World.ownsRow_nil _ _ _ _) (.slice c0 l0.length d0) l0 rfl S0.out blim l0 (by simp [Hid]) ?_); intro a1 n1 cap1 w3 hA hn1)
  obtain rfl : n1 = l0.length := hn1
  have T3 : Hid (Tch No w2 w3) := Tch.grown hA.grow (fun q hq _ => by simp [Value.ownBlock] at hq)
  have C3 := Lib.hid (SlB.ofRow hA.own (by simpa using blim))
  have V3 : Hid (OwnV w3 (.slice a1 l0.length cap1) l0.length) := OwnV.of hA.own
  have L3 : Hid (∀ k, (Value.slice a1 l0.length cap1).ownBlock = some k → k = w2.heap.size) := fun k hk => by
    rcases hA.loc with e | e
    · rw [e] at hk; simp [Value.ownBlock] at hk
    · rw [e] at hk; simp at hk; omega
  have S3 : Hid (SlB w3 (.slice c0 l0.length d0) l0) := S0.out.tch0 T3.out
  have N3 : Hid (∀ k, (Value.slice c0 l0.length d0).ownBlock = some k → k < w2.heap.size) := S0.out.blt
  clear hA S0
  refine (dst_newH 100 w3 [(.slice a1 l0.length cap1, l0), (.slice c0 l0.length d0, l0)] (by simp only [List.mem_cons, List.mem_nil_iff, or_false]; rintro p (rfl | rfl); exact C3.out; exact S3.out)).mono ?_
  rintro e w4 ⟨db, mb, rfl, h4⟩
  have V4 : Hid (OwnV w4 (.slice a1 l0.length cap1) l0.length) := V3.out.keep fun k hk => h4.base.block k (C3.out.blt k hk) (fun h => h)
  have H4 := Lib.hid (h4.rebase (T2.out.trans0 T3.out)); clear h4 C3 S3 V3
  go_wp2_with fail
  refine (dst_appendK H4.out ⟨#[97]⟩ (.slice a1 l0.length cap1) l0 (by simp) (by decide) (by simp) (by omega)).mono ?_
  rintro e w5 ⟨rfl, h5, k5⟩
  have e5 : mAppend [] (roomOf 100) (ByteArray.mk #[97]).data.toList l0 = _ := F1.out
  rw [e5] at h5 ⊢
  have H5 := Lib.hid h5
  have V5 : Hid (OwnV w5 (.slice a1 l0.length cap1) l0.length) := V4.out.keep fun k hk => k5 (.slice a1 l0.length cap1, l0) (by simp) k hk
  clear h5 k5 V4 H4 e5
  have LC : Hid (∀ k, (Value.slice a1 l0.length cap1).ownBlock = some k → w.heap.size ≤ k) := fun k hk => by have := L3.out k hk; have := T2.out.size; omega
  have SEP : Hid (∀ k, (Value.slice c0 l0.length d0).ownBlock = some k → ¬ (Value.slice a1 l0.length cap1).ownBlock = some k) := fun k h1 h2 => by have := N3.out k h1; have := L3.out k h2; omega
  clear L3 N3 T3 T2 FR0 F1 blim
  go_wp2_with fail
  go_loopw [26] (fun i wr => ∃ j : Nat, j ≤ l0.length ∧ i = .int .i64 j ∧ Hid (OwnV wr (.slice a1 l0.length cap1) l0.length) ∧ Hid (Tch (fun k => (Value.slice a1 l0.length cap1).ownBlock = some k) w5 wr)) (fun i _ => l0.length - (intOf i).toNat)
  case atStart => exact ⟨0, by omega, rfl, V5, Tch.refl _ _⟩
  case round =>
    obtain ⟨j, hj, rfl, hV, hT⟩ := hrel
    by_cases hlt : j < l0.length
    · rcases hV.out with h0 | ⟨g, cap, hs, hU⟩
      · omega
      · simp only [Value.slice.injEq] at hs
        obtain ⟨rfl, _, rfl⟩ := hs
        obtain ⟨z, hc, hf⟩ := hU.get hlt
        have hfin : Hid (∀ z', OwnV (wr.setCell ⟨g, j, none⟩ (.int .u8 z')) (.slice (some ⟨g, 0, none⟩) l0.length cap1) l0.length ∧ Tch (fun k => (Value.slice (some ⟨g, 0, none⟩) l0.length cap1).ownBlock = some k) w5 (wr.setCell ⟨g, j, none⟩ (.int .u8 z'))) := fun z' =>
          ⟨.inr ⟨g, cap1, rfl, hU.set j z'⟩, hT.out.trans (Tch.setCell (F := fun k => k = g) wr ⟨g, j, none⟩ (.int .u8 z') (fun _ => rfl)) (fun i _ hi => by subst hi; rfl)⟩
        clear hU hV hT V5
        go_wp2
        exact ⟨⟨j + 1, by omega, by go_num, (hfin.out _).1, (hfin.out _).2⟩, by simp [intOf]; omega⟩
    · have hjn : j = l0.length := by omega
      subst hjn
      have H6 := Lib.hid (H5.out.write hT.out LC.out (by simpa using SEP.out))
      clear hV hT V5 H5 LC SEP
      go_wp2_with fail
      refine (dst_readO H6.out ⟨#[97]⟩ (by decide)).mono ?_
      rintro e w7 ⟨x, rfl, h7, f7, o7⟩
      have e7 : mGet [⟨[97], l0, 0, false⟩] (ByteArray.mk #[97]).data.toList = some ⟨[97], l0, 0, false⟩ := rfl
      try dsimp only at h7
      rw [e7] at h7 o7 ⊢
      have H7 := Lib.hid h7
      have V7 : Hid (OwnV w7 x l0.length) := OwnV.of o7
      have F7 : Hid (∀ k, x.ownBlock = some k → w.heap.size ≤ k) := fun k hk => by have := f7 k hk; have := H6.out.base.size; omega
      have S7 : Hid (∀ k, (Value.slice c0 l0.length d0).ownBlock = some k → ¬ x.ownBlock = some k) := fun k h1 h2 => by
        have := (H6.out.held (v := .slice c0 l0.length d0) (bs := l0) (by simp)).blt k h1
        have := f7 k h2
        omega
      obtain ⟨ax, mx, capx, hx, hmx⟩ := own_shape' o7
      obtain rfl : mx = l0.length := hmx
      subst hx
      clear h7 f7 o7 e7 H6
      go_wp2_with fail
      go_loopw [43] (fun i wr => ∃ j : Nat, j ≤ l0.length ∧ i = .int .i64 j ∧ Hid (OwnV wr (.slice ax l0.length capx) l0.length) ∧ Hid (Tch (fun k => (Value.slice ax l0.length capx).ownBlock = some k) w7 wr)) (fun i _ => l0.length - (intOf i).toNat)
      case atStart => exact ⟨0, by omega, rfl, V7, Tch.refl _ _⟩
      case round =>
        obtain ⟨j, hj, rfl, hV, hT⟩ := hrel
        by_cases hlt : j < l0.length
        · rcases hV.out with h0 | ⟨g, cap, hs, hU⟩
          · omega
          · simp only [Value.slice.injEq] at hs
            obtain ⟨rfl, _, rfl⟩ := hs
            obtain ⟨z, hc, hf⟩ := hU.get hlt
            have hfin : Hid (∀ z', OwnV (wr.setCell ⟨g, j, none⟩ (.int .u8 z')) (.slice (some ⟨g, 0, none⟩) l0.length capx) l0.length ∧ Tch (fun k => (Value.slice (some ⟨g, 0, none⟩) l0.length capx).ownBlock = some k) w7 (wr.setCell ⟨g, j, none⟩ (.int .u8 z'))) := fun z' =>
              ⟨.inr ⟨g, capx, rfl, hU.set j z'⟩, hT.out.trans (Tch.setCell (F := fun k => k = g) wr ⟨g, j, none⟩ (.int .u8 z') (fun _ => rfl)) (fun i _ hi => by subst hi; rfl)⟩
            clear hU hV hT V7
            go_wp2
            exact ⟨⟨j + 1, by omega, by go_num, (hfin.out _).1, (hfin.out _).2⟩, by simp [intOf]; omega⟩
        · have hjn : j = l0.length := by omega
          subst hjn
          have H8 := Lib.hid (H7.out.write hT.out F7.out (by simpa using S7.out))
          clear hV hT V7 H7 F7 S7
          go_wp2_with fail
          refine (dst_read H8.out ⟨#[97]⟩ (by decide)).mono ?_
          rintro e w9 ⟨y, rfl, h9⟩
          have e9 : mGet [⟨[97], l0, 0, false⟩] (ByteArray.mk #[97]).data.toList = some ⟨[97], l0, 0, false⟩ := rfl
          try dsimp only at h9
          rw [e9] at h9 ⊢
          have hy := (h9.held (v := y) (bs := l0) (by simp)).str (P := Try.prog) Try.underlying30 Try.underlying5 Try.underlying9
          have hb := (h9.held (v := .slice c0 l0.length d0) (bs := l0) (by simp)).str (P := Try.prog) Try.underlying30 Try.underlying5 Try.underlying9
          have HF := Lib.hid h9.base
          obtain ⟨sy, hsy⟩ : ∃ sy : ByteArray, ⟨l0.toArray⟩ = sy := ⟨_, rfl⟩
          rw [hsy] at hy hb
          clear hsy h9 e9 H8
          go_wp2
          go_ret
          exact ⟨rfl, HF.out.below0⟩

/-! ### THE ROW's STEP: WRITTEN OUT: LEAVE IT -/
set_option maxRecDepth 100000 in
theorem lifted (os : Os) (started : os.Started) (H : Type) (enc : TypeId × Value → H) :
    ReturnsInHanded {} Try.checked os 7 .any (Rows.fileOwnSpec.pre6 enc Try.prog Try.f7 Rows.fileOwnRow.domain false) (Rows.fileOwnSpec.post enc Try.prog Try.f7 false true false false) := by
  refine returnsInHanded_of_change (C := Try.checked) own started (by kernel_rfl) Try.func7
    (ChangeSpec.witness6 (enc := enc) (C := Try.checked) false ⟨#[], #[.slice none 0 0], []⟩ 8 (by kernel_rfl) (by kernel_rfl) (by kernel_rfl) (by kernel_rfl)) ?_
  intro W base args ds gs before hval0 hW hcnd _
  have hval : ∀ (j : Nat) t v, Try.f7.params[j]? = some t → args[j]? = some v → Value.okWide Try.prog W .any base t v := hval0
  have hW' := hW
  obtain ⟨p, q, hA0, hV, rfl, hfz, hnd⟩ := hW
  have hA : DataW.TrodAll enc Try.prog W 0 (fun _ => true) true Try.f7.params.toList args.toList ds p := hA0
  rw [Try.params7] at hA hval
  obtain ⟨v0, vs0, d0, ds0, p0, q0, hargs, rfl, rfl, h0, r0⟩ := trodAll_cons hA
  obtain ⟨rfl, rfl, rfl⟩ := trodAll_nil r0
  obtain rfl : args = #[v0] := by cases args; simp_all
  obtain ⟨rfl, rfl⟩ := trodVars_none hV
  obtain ⟨a0, len0, cap0, rfl⟩ := okWide_slice Try.underlying30 (hval 0 30 v0 rfl rfl)
  have k0 := h0
  have lt0 : ∀ x ∈ p0, x.block < W.heap.size := by obtain ⟨m, hm⟩ := k0; exact DataW.trod_lt m _ _ _ hm
  obtain ⟨z0, w0⟩ : ∃ zs, IsRow .u8 W a0 len0 cap0 zs := by
    obtain ⟨fuel, hf⟩ := h0
    rcases open_ints Try.underlying30 Try.underlying5 (by kernel_rfl) hf with ⟨hcs, _⟩ | ⟨x, l, c, zs, hcs, _, hl, hm, hz, _, hcell, hwz⟩
    · simp [Value.cells] at hcs
      obtain ⟨rfl, rfl, rfl⟩ := hcs
      exact ⟨[], .inl ⟨rfl, rfl, rfl, rfl⟩⟩
    · simp [Value.cells] at hcs
      obtain ⟨rfl, rfl, rfl⟩ := hcs
      exact ⟨zs, .inr ⟨_, rfl, hl, hm, by simpa using hz, hcell, hwz⟩⟩
  clear hA0 hval0
  refine (walk a0 len0 cap0 z0 W w0).mono fun e W' ⟨he, bel⟩ => ?_
  subst he
  exact ⟨_, rfl, _, _, _, [], _, [], hW', trodAll_mk1 (shut_bool Try.underlying4 _), (trodAll_cons_mk (Below.trod laidOut (by kernel_rfl) (of_decide_eq_true (by kernel_rfl)) k0 bel lt0) trodAll_mk0), rfl, bel.frame _, fun h => by cases h⟩

theorem over : Rows.fileOwnRow.holds Try.pinned (OpenSpec.ofChange Rows.fileOwnSpec) :=
  OpenClaim.holds_of_wide 7 Try.f7 rfl rfl rfl rfl rfl rfl rfl ⟨rfl, rfl, rfl, rfl, rfl⟩ rfl rfl rfl rfl rfl (by kernel_rfl) Try.func7 (by kernel_rfl)
    (of_decide_eq_true (by kernel_rfl)) (by unfold Func.isWrapper; first | (rw [if_pos (by decide +kernel)]; kernel_rfl) | (rw [if_neg (by decide +kernel)]; exact ⟨rfl, rfl⟩))
    (fun os started H enc _ => lifted os started H enc)

/--  THE STATEMENT  -/
theorem proved : Rows.FileOwnSaid := over
#print axioms proved
end Go.Proofs.Ytbhemlddncmmfaa.fileOwn
