/- SegRolls: the law SegRolls returns true for every input, and each argument reads behind the call as it read before. No condition. The frame is the kit's proof-skeleton. -/
import Derived.Test.YtcjlgdldhcbcjaaRows
import Derived.WalkKit
import Derived.ProofKit
import Derived.OpenShut
import Derived.ShutString
import Derived.ChangeOld
import Derived.Below
import Derived.Test.YtcjlgdldhcbcjaaBeg3
import Derived.Test.YtcjlgdldhcbcjaaSegP
import Derived.Test.YtcjlgdldhcbcjaaMake
namespace Go.Proofs.Ytcjlgdldhcbcjaa.segRolls
open Go.ChangeShapes Go.WideShapes Go.ChangeAt Go.RowKit Go.Maps
open Go.ChangeMaps (open_string shut_string)
set_option linter.unusedVariables false
set_option linter.unusedSimpArgs false

theorem own : ownKnob Try.prog.godebug = none := by kernel_rfl
theorem laidOut : laidOutB Try.prog = true := by kernel_rfl

/-- The segment that is written, its bytes so far; none stands above it. -/
structure Roll (M : List FE) (at_ size : Nat) : Prop where
  none : ∀ n, at_ < n → n ≤ 999 → mGet M (segNm n) = none
  size : (segB M at_).length = size
theorem fits_zero9 {k : Nat} (h1 : 1 ≤ k) (h2 : k ≤ 900) : fits (List.replicate k 0) := by unfold fits; rw [List.length_replicate]; omega
theorem put_ok {M : List FE} {at_ : Nat} (hat : at_ ≤ 999) (A : List (List UInt8)) (z : List UInt8) (hu : mUsed M + (6 + z.length) ≤ 1048576) : putM 1048576 M at_ A z = ⟨0, mAppL M (segNm at_) (frameM z), at_, A ++ [z]⟩ := by
  have e : mAppend M 1048576 (segNm at_) (frameM z) = (0, mAppL M (segNm at_) (frameM z)) := by
    unfold mAppend
    rw [good_seg at_ hat, if_neg (by simp), if_neg (by rw [frameM_length]; omega)]
  unfold putM
  rw [e]
  rfl
theorem segB_app {M : List FE} {n : Nat} (bs : List UInt8) : segB (mAppL M (segNm n) bs) n = segB M n ++ bs := by
  unfold segB
  rw [get_appL_eq]
  cases mGet M (segNm n) <;> simp
theorem roll_low {M : List FE} {at_ size : Nat} (h : Roll M at_ size) (hat : at_ ≤ 900) (A : List (List UInt8)) {n : Nat} (h1 : 1 ≤ n) (h2 : n ≤ 900) (hu : mUsed M + (6 + n) ≤ 1048576) (hs : size < 2000) :
    addM 1048576 M at_ A (List.replicate n 0) = ⟨0, mAppL M (segNm at_) (frameM (List.replicate n 0)), at_, A ++ [List.replicate n 0]⟩ ∧ Roll (mAppL M (segNm at_) (frameM (List.replicate n 0))) at_ (size + (6 + n)) := by
  have hb := h.size
  unfold segB at hb
  refine ⟨?_, fun m hm1 hm2 => ?_, ?_⟩
  · unfold addM
    rw [if_neg (fun h => h (fits_zero9 h1 h2)), hb, if_neg (by omega)]
    exact put_ok (by omega) A _ (by rw [List.length_replicate]; exact hu)
  · rw [get_appL_ne _ _ _ _ (fun e => by have := segNm_inj hm2 (by omega) e; omega)]
    exact h.none m hm1 hm2
  · rw [segB_app, List.length_append, h.size, frameM_length, List.length_replicate]
theorem roll_high {M : List FE} {at_ size : Nat} (h : Roll M at_ size) (hat : at_ ≤ 900) (A : List (List UInt8)) {n : Nat} (h1 : 1 ≤ n) (h2 : n ≤ 900) (hu : mUsed M + (6 + n) ≤ 1048576) (hs : 2000 ≤ size) :
    addM 1048576 M at_ A (List.replicate n 0) = ⟨0, mAppL (mSync M (segNm at_)) (segNm (at_ + 1)) (frameM (List.replicate n 0)), at_ + 1, A ++ [List.replicate n 0]⟩ ∧ Roll (mAppL (mSync M (segNm at_)) (segNm (at_ + 1)) (frameM (List.replicate n 0))) (at_ + 1) (6 + n) ∧
      (mGet (mAppL (mSync M (segNm at_)) (segNm (at_ + 1)) (frameM (List.replicate n 0))) (segNm at_)).isSome = true ∧ (segB (mAppL (mSync M (segNm at_)) (segNm (at_ + 1)) (frameM (List.replicate n 0))) at_).length = size ∧ mSure (mAppL (mSync M (segNm at_)) (segNm (at_ + 1)) (frameM (List.replicate n 0))) (segNm at_) = size := by
  have hb := h.size
  unfold segB at hb
  have hne : segNm at_ ≠ segNm (at_ + 1) := fun e => by have := segNm_inj (by omega) (by omega) e; omega
  obtain ⟨x, hx⟩ : ∃ x, mGet M (segNm at_) = some x := by
    cases hg : mGet M (segNm at_) with
    | none => rw [hg] at hb; simp at hb; omega
    | some x => exact ⟨x, rfl⟩
  have hxb : x.b.length = size := by rw [hx] at hb; exact hb
  have hgx : mGet (mAppL (mSync M (segNm at_)) (segNm (at_ + 1)) (frameM (List.replicate n 0))) (segNm at_) = some { x with sure := x.b.length, named := true } := by
    rw [get_appL_ne _ _ _ _ hne, get_sync, hx]; simp
  have hn1 : mGet (mSync M (segNm at_)) (segNm (at_ + 1)) = none := by rw [get_sync, h.none (at_ + 1) (by omega) (by omega)]; rfl
  refine ⟨?_, ⟨fun m hm1 hm2 => ?_, ?_⟩, ?_, ?_, ?_⟩
  · unfold addM
    rw [if_neg (fun h => h (fits_zero9 h1 h2)), hb, if_pos hs, if_neg (by omega)]
    exact put_ok (by omega) A _ (by rw [used_sync, List.length_replicate]; exact hu)
  · rw [get_appL_ne _ _ _ _ (fun e => by have := segNm_inj hm2 (by omega) e; omega), get_sync, h.none m (by omega) hm2]; rfl
  · rw [segB_app, List.length_append, frameM_length, List.length_replicate]
    unfold segB
    rw [hn1]; simp
  · rw [hgx]; rfl
  · unfold segB; rw [hgx]; exact hxb
  · unfold mSure; rw [hgx]; exact hxb
theorem names_sync (M : List FE) (n : Key) : names (mSync M n) = names M := by
  unfold names mSync
  rw [List.map_map]
  refine List.map_congr_left fun x _ => ?_
  simp only [Function.comp]
  split <;> rfl
/-- make's row is added. -/
theorem lst_addMk {K : Nat → Prop} {w : World} {db mb room lb last : Nat} {M : List FE} {A : List (List UInt8)} (h : LSt w lb db mb room M last A K) (hl : last ≤ 999) (n : Nat) (hn : n ≤ 1000) (hM : M.length ≤ 1000) (hAl : A.length ≤ 1000) {q : ARes} (hq : addM room M last A (List.replicate n 0) = q) :
    Calls Try.prog 25 #[.pointer (some ⟨lb, 0, none⟩), .slice (some ⟨w.heap.size, 0, none⟩) n n] (w.alloc (zrow n)) (AddPost K w lb db mb room q) := by
  subst hq
  have hs := (make_at w n (by omega)).2
  have h1 : LSt (w.alloc (zrow n)) lb db mb room M last A (fun k => K k ∨ k = w.heap.size) := h.more (Tch.alloc _ _) (fun k hk => by
    rcases hk with hk | rfl
    · exact .inl hk
    · exact .inr ⟨Nat.le_refl _, by simp⟩)
  refine (lst_add h1 hl _ _ hs (fun k hk => by simp [Value.ownBlock] at hk; exact .inr hk.symm) (by omega) (by omega)).mono ?_
  rintro e w' ⟨rfl, q1, q2⟩
  exact ⟨rfl, q1.less (fun k hk => .inl hk), (KT.of0 (Tch.alloc _ _)).trans (q2.mono (fun k _ hk => .inl hk))⟩
set_option maxRecDepth 100000 in
set_option maxHeartbeats 4000000 in
theorem walk (a0 : Option Addr) (len0 cap0 : Nat) (z0 : List Int) (w : World) (w0 : IsRow .i64 w a0 len0 cap0 z0) :
    Calls Try.prog 6 #[.slice a0 len0 cap0] w fun e w' => e = .returned (.bool true) ∧ Below w.heap.size w w' := by
  obtain ⟨hl1, hl2, hl3⟩ := w0.lens
  have Hcell : Hid (∀ j, j < len0 → ∃ x z, a0 = some x ∧ w.cell? (x.add j) = some (.int .i64 z)) := fun j hj => by
    rcases w0 with ⟨_, h, _⟩ | ⟨x, h1, h2, h3, h4, h5, h6⟩
    · omega
    · exact ⟨x, _, h1, h5 j (by omega)⟩
  clear w0 hl2 hl3
  have hmk := Lib.hid make_at
  go_enter Try.func6, Try.ntmps6
  go_wp2_with fail
  refine (begun4_any w).mono ?_
  rintro e w1 ⟨rfl, t1⟩
  have T1 := Lib.hid t1; clear t1
  go_wp2_with fail
  refine (dk_new (K := K0 w1) 1048576 w1 (fun k hk => hk)).mono ?_
  rintro e w2 ⟨db, mb, rfl, d2, t2⟩
  rw [show roomOf 1048576 = 1048576 by rfl] at d2
  have D2 := Lib.hid d2; have T2 := Lib.hid t2; clear d2 t2
  go_wp2_with fail
  refine (open_ok D2.out 0 (by omega) (by simp) e0 rfl).mono ?_
  rintro e w3 ⟨lb, rfl, l3, k3⟩
  have L3 : Hid (LSt w3 lb db mb 1048576 [] 0 [] (K0 w1)) := l3
  have T3 : Hid (Tch No w1 w3) := k3.noK (w := w1) T2.out
  clear l3 k3 D2 T2
  go_wp2_with fail
  go_loopw [7, 8, 9] (fun u n i wr => ∃ (j at_ size : Nat) (M : List FE) (A : List (List UInt8)), j ≤ len0 ∧ j ≤ 20 ∧ at_ ≤ j ∧ size ≤ 906 * j ∧ i = .int .i64 j ∧ u = .int .i64 at_ ∧ n = .int .i64 size ∧ M.length ≤ j ∧ A.length ≤ j ∧ Hid (mUsed M ≤ 906 * j) ∧ Hid (Roll M at_ size) ∧ Hid (LSt wr lb db mb 1048576 M at_ A (K0 w1)) ∧ Hid (Tch No w1 wr)) (fun _ _ i _ => 20 - (intOf i).toNat)
  case atStart => exact ⟨0, 0, 0, [], [], by omega, by omega, by omega, by omega, rfl, rfl, rfl, by simp, by simp, by simp [Hid, mUsed], ⟨fun _ _ _ => rfl, rfl⟩, L3, T3⟩
  case round =>
    clear L3 T3
    obtain ⟨j, at_, size, M, A, hj1, hj2, haj, hsj, rfl, rfl, rfl, hMl, hAl, hU, hR, HL, HT⟩ := hrel
    by_cases gg : j < len0 ∧ j < 20
    · obtain ⟨g1, g2⟩ := gg
      obtain ⟨x, z, hx, hcx⟩ := Hcell.out j g1
      subst hx
      have hc' := (T1.out.trans0 HT.out).cell hcx (fun h => h)
      obtain ⟨t, ht, ht1, ht2⟩ : ∃ t, z.tmod 900 = t ∧ -900 < t ∧ t < 900 := ⟨_, rfl, tmod_lt z 900 (by omega)⟩
      obtain ⟨nn, hnn, hn7⟩ : ∃ nn : Nat, (t + 900).tmod 900 = (nn : Int) ∧ nn < 900 := by
        rw [Int.tmod_eq_emod_of_nonneg (by omega)]
        exact ⟨((t + 900) % 900).toNat, by omega, by omega⟩
      have hmk1 : ∀ W : World, (Instr.makeSlice 22 (.int .i64 (1 + (nn : Int))) (.int .i64 (1 + (nn : Int)))).run Try.prog W = .ok (.slice (some ⟨W.heap.size, 0, none⟩) (nn + 1) (nn + 1)) (W.alloc (zrow (nn + 1))) := fun W => by
        have := (hmk.out W (nn + 1) (by omega)).1
        rwa [show ((nn + 1 : Nat) : Int) = 1 + (nn : Int) by omega] at this
      have hu' : mUsed M + (6 + (nn + 1)) ≤ 1048576 := by have := hU.out; omega
      have hnd := Lib.hid HL.out.dk.nodup
      clear hcx
      by_cases hs : size < 2000
      · obtain ⟨r1, r2⟩ := roll_low hR.out (by omega) A (n := nn + 1) (by omega) (by omega) hu' hs
        have HAD := Lib.hid (lst_addMk HL.out (by omega) (nn + 1) (by omega) (by omega) (by omega) r1)
        have hUn : Hid (mUsed (mAppL M (segNm at_) (frameM (List.replicate (nn + 1) 0))) ≤ 906 * (j + 1)) := by
          rw [Hid, used_appL _ _ _ hnd.out, frameM_length, List.length_replicate]; have := hU.out; omega
        have hln := lenAL M (segNm at_) (frameM (List.replicate (nn + 1) 0))
        obtain ⟨M', hM'⟩ : ∃ M', mAppL M (segNm at_) (frameM (List.replicate (nn + 1) 0)) = M' := ⟨_, rfl⟩
        have hAn : (A ++ [List.replicate (nn + 1) (0 : UInt8)]).length ≤ j + 1 := by rw [List.length_append]; simp; omega
        obtain ⟨A', hA'⟩ : ∃ A', A ++ [List.replicate (nn + 1) (0 : UInt8)] = A' := ⟨_, rfl⟩
        obtain ⟨Z, hZ⟩ : ∃ Z, zrow (nn + 1) = Z := ⟨_, rfl⟩
        rw [hM'] at r2 hln hUn HAD
        rw [hA'] at hAn HAD
        rw [hZ] at hmk1 HAD
        have R2 := Lib.hid r2
        have q1 : ¬ 2000 ≤ (size : Int) := by omega
        clear r1 r2 hM' hA' hZ hu' hU
        go_wp2_with fail
        refine HAD.out.mono ?_
        rintro e w5 ⟨rfl, l5, k5⟩
        have L5 : Hid (LSt w5 lb db mb 1048576 M' at_ A' (K0 w1)) := l5
        have T5 : Hid (Tch No w1 w5) := k5.noK (w := w1) HT.out
        clear l5 k5 HAD HL HT hR
        go_wp2_with fail
        refine (lst_at L5.out).mono ?_
        rintro e w6 ⟨rfl, rfl⟩
        go_wp2_with fail
        refine (name_any at_ (by omega) w5).mono ?_
        rintro e w6 ⟨rfl, t6⟩
        have T6 := Lib.hid t6; clear t6
        go_wp2_with fail
        have hex : (mGet M' (segNm at_)).isSome = true := by
          cases hg : mGet M' (segNm at_) with
          | none => have := R2.out.size; unfold segB at this; rw [hg] at this; simp at this
          | some _ => rfl
        refine (dk_read (L5.out.dk.keep T6.out) (nameB at_) (nm_max at_)).mono ?_
        rintro e w7 ⟨v7, he, b7, _, t7, _⟩
        rw [nameB_list, hex] at he
        subst he
        rw [nameB_list] at b7
        obtain ⟨a7, m7, c7, rfl, hm7⟩ := b7.shape'
        have hm8 : m7 = size + (6 + (nn + 1)) := hm7.out.trans R2.out.size
        subst hm8
        have T7 := Lib.hid (T6.out.trans0 t7)
        clear b7 t7 hm7 T6 hex
        go_wp2_with fail
        exact ⟨⟨j + 1, at_, size + (6 + (nn + 1)), M', A', by omega, by omega, by omega, by omega, by go_num, rfl, by go_num, by omega, hAn, hUn, R2, L5.out.keep T7.out, T5.out.trans0 T7.out⟩, by simp [intOf]; omega⟩
      · obtain ⟨r1, r2, r3, r4, r5⟩ := roll_high hR.out (by omega) A (n := nn + 1) (by omega) (by omega) hu' (by omega)
        have HAD := Lib.hid (lst_addMk HL.out (by omega) (nn + 1) (by omega) (by omega) (by omega) r1)
        have hUn : Hid (mUsed (mAppL (mSync M (segNm at_)) (segNm (at_ + 1)) (frameM (List.replicate (nn + 1) 0))) ≤ 906 * (j + 1)) := by
          rw [Hid, used_appL _ _ _ (by rw [names_sync]; exact hnd.out), frameM_length, List.length_replicate, used_sync]; have := hU.out; omega
        have hln := lenAL (mSync M (segNm at_)) (segNm (at_ + 1)) (frameM (List.replicate (nn + 1) 0))
        rw [lenSy] at hln
        obtain ⟨M', hM'⟩ : ∃ M', mAppL (mSync M (segNm at_)) (segNm (at_ + 1)) (frameM (List.replicate (nn + 1) 0)) = M' := ⟨_, rfl⟩
        have hAn : (A ++ [List.replicate (nn + 1) (0 : UInt8)]).length ≤ j + 1 := by rw [List.length_append]; simp; omega
        obtain ⟨A', hA'⟩ : ∃ A', A ++ [List.replicate (nn + 1) (0 : UInt8)] = A' := ⟨_, rfl⟩
        obtain ⟨Z, hZ⟩ : ∃ Z, zrow (nn + 1) = Z := ⟨_, rfl⟩
        rw [hM'] at r2 r3 r4 r5 hln hUn HAD
        rw [hA'] at hAn HAD
        rw [hZ] at hmk1 HAD
        have R2 := Lib.hid r2
        have R3 := Lib.hid r3
        have R4 := Lib.hid r4
        have R5 := Lib.hid r5
        have q1 : 2000 ≤ (size : Int) := by omega
        clear r1 r2 r3 r4 r5 hM' hA' hZ hu' hU
        go_wp2_with fail
        refine HAD.out.mono ?_
        rintro e w5 ⟨rfl, l5, k5⟩
        have L5 : Hid (LSt w5 lb db mb 1048576 M' (at_ + 1) A' (K0 w1)) := l5
        have T5 : Hid (Tch No w1 w5) := k5.noK (w := w1) HT.out
        clear l5 k5 HAD HL HT hR
        go_wp2_with fail
        refine (name_any at_ (by omega) w5).mono ?_
        rintro e w6 ⟨rfl, t6⟩
        have T6 := Lib.hid t6; clear t6
        go_wp2_with fail
        refine (dk_read (L5.out.dk.keep T6.out) (nameB at_) (nm_max at_)).mono ?_
        rintro e w7 ⟨v7, he, b7, _, t7, _⟩
        rw [nameB_list, R3.out] at he
        subst he
        rw [nameB_list] at b7
        obtain ⟨a7, m7, c7, rfl, hm7⟩ := b7.shape'
        have hm8 : m7 = size := hm7.out.trans R4.out
        subst hm8
        have T7 := Lib.hid (T6.out.trans0 t7)
        clear b7 t7 hm7 T6 R3 R4
        go_wp2_with fail
        refine (name_any at_ (by omega) w7).mono ?_
        rintro e w8 ⟨rfl, t8⟩
        have T8 := Lib.hid (T7.out.trans0 t8); clear t8 T7
        go_wp2_with fail
        refine (dk_sure (L5.out.dk.keep T8.out) (nameB at_) (nm_max at_)).mono ?_
        rw [nameB_list, R5.out]
        rintro e w9 ⟨rfl, rfl⟩
        clear R5
        go_wp2_with fail
        refine (lst_at (L5.out.keep T8.out)).mono ?_
        rintro e w9 ⟨rfl, rfl⟩
        have p5 : ((at_ + 1 : Nat) : Int) = (at_ : Int) + 1 := by omega
        go_wp2_with fail
        have hnm := Lib.hid (name_any (at_ + 1) (by omega) w8)
        rw [p5] at hnm
        refine hnm.out.mono ?_
        rintro e w10 ⟨rfl, t10⟩
        have T10 := Lib.hid (T8.out.trans0 t10); clear t10 T8 hnm
        go_wp2_with fail
        have hex : (mGet M' (segNm (at_ + 1))).isSome = true := by
          cases hg : mGet M' (segNm (at_ + 1)) with
          | none => have := R2.out.size; unfold segB at this; rw [hg] at this; simp at this
          | some _ => rfl
        refine (dk_read (L5.out.dk.keep T10.out) (nameB (at_ + 1)) (nm_max _)).mono ?_
        rintro e w11 ⟨v7, he, b7, _, t7, _⟩
        rw [nameB_list, hex] at he
        subst he
        rw [nameB_list] at b7
        obtain ⟨a7, m7, c7, rfl, hm7⟩ := b7.shape'
        have hm8 : m7 = 6 + (nn + 1) := hm7.out.trans R2.out.size
        subst hm8
        have T11 := Lib.hid (T10.out.trans0 t7)
        clear b7 t7 hm7 T10 hex
        go_wp2_with fail
        exact ⟨⟨j + 1, at_ + 1, 6 + (nn + 1), M', A', by omega, by omega, by omega, by omega, by go_num, by go_num, by go_num, by omega, hAn, hUn, R2, L5.out.keep T11.out, T5.out.trans0 T11.out⟩, by simp [intOf]; omega⟩
    · by_cases g1 : j < len0
      · have g2 : ¬ j < 20 := fun h => gg ⟨g1, h⟩
        clear gg
        go_wp2_with fail
        go_ret
        exact ⟨rfl, (T1.out.trans0 HT.out).below0⟩
      · clear gg
        go_wp2_with fail
        go_ret
        exact ⟨rfl, (T1.out.trans0 HT.out).below0⟩

/-! ### THE ROW's STEP: WRITTEN OUT: LEAVE IT -/
set_option maxRecDepth 100000 in
theorem lifted (os : Os) (started : os.Started) (H : Type) (enc : TypeId × Value → H) :
    ReturnsInHanded {} Try.checked os 6 .any (Rows.segRollsSpec.pre6 enc Try.prog Try.f6 Rows.segRollsRow.domain false) (Rows.segRollsSpec.post enc Try.prog Try.f6 false true false false) := by
  refine returnsInHanded_of_change (C := Try.checked) own started (by kernel_rfl) Try.func6
    (ChangeSpec.witness6 (enc := enc) (C := Try.checked) false ⟨#[], #[.slice none 0 0], []⟩ 8 (by kernel_rfl) (by kernel_rfl) (by kernel_rfl) (by kernel_rfl)) ?_
  intro W base args ds gs before hval0 hW hcnd _
  have hval : ∀ (j : Nat) t v, Try.f6.params[j]? = some t → args[j]? = some v → Value.okWide Try.prog W .any base t v := hval0
  have hW' := hW
  obtain ⟨p, q, hA0, hV, rfl, hfz, hnd⟩ := hW
  have hA : DataW.TrodAll enc Try.prog W 0 (fun _ => true) true Try.f6.params.toList args.toList ds p := hA0
  rw [Try.params6] at hA hval
  obtain ⟨v0, vs0, d0, ds0, p0, q0, hargs, rfl, rfl, h0, r0⟩ := trodAll_cons hA
  obtain ⟨rfl, rfl, rfl⟩ := trodAll_nil r0
  obtain rfl : args = #[v0] := by cases args; simp_all
  obtain ⟨rfl, rfl⟩ := trodVars_none hV
  obtain ⟨a0, len0, cap0, rfl⟩ := okWide_slice Try.underlying34 (hval 0 34 v0 rfl rfl)
  have k0 := h0
  have lt0 : ∀ x ∈ p0, x.block < W.heap.size := by obtain ⟨m, hm⟩ := k0; exact DataW.trod_lt m _ _ _ hm
  obtain ⟨z0, w0⟩ : ∃ zs, IsRow .i64 W a0 len0 cap0 zs := by
    obtain ⟨fuel, hf⟩ := h0
    rcases open_ints Try.underlying34 Try.underlying3 (by kernel_rfl) hf with ⟨hcs, _⟩ | ⟨x, l, c, zs, hcs, _, hl, hm, hz, _, hcell, hwz⟩
    · simp [Value.cells] at hcs
      obtain ⟨rfl, rfl, rfl⟩ := hcs
      exact ⟨[], .inl ⟨rfl, rfl, rfl, rfl⟩⟩
    · simp [Value.cells] at hcs
      obtain ⟨rfl, rfl, rfl⟩ := hcs
      exact ⟨zs, .inr ⟨_, rfl, hl, hm, by simpa using hz, hcell, hwz⟩⟩
  clear hA0 hval0
  refine (walk a0 len0 cap0 z0 W w0).mono fun e W' ⟨he, bel⟩ => ?_
  subst he
  exact ⟨_, rfl, _, _, _, [], _, [], hW', trodAll_mk1 (shut_bool Try.underlying4 _), (trodAll_cons_mk (Below.trod laidOut (by kernel_rfl) (of_decide_eq_true (by kernel_rfl)) k0 bel lt0) trodAll_mk0), rfl, bel.frame _, fun h => by cases h⟩

theorem over : Rows.segRollsRow.holds Try.pinned (OpenSpec.ofChange Rows.segRollsSpec) :=
  OpenClaim.holds_of_wide 6 Try.f6 rfl rfl rfl rfl rfl rfl rfl ⟨rfl, rfl, rfl, rfl, rfl⟩ rfl rfl rfl rfl rfl (by kernel_rfl) Try.func6 (by kernel_rfl)
    (of_decide_eq_true (by kernel_rfl)) (by unfold Func.isWrapper; first | (rw [if_pos (by decide +kernel)]; kernel_rfl) | (rw [if_neg (by decide +kernel)]; exact ⟨rfl, rfl⟩))
    (fun os started H enc _ => lifted os started H enc)

/--  THE STATEMENT  -/
theorem proved : Rows.SegRollsSaid := over
#print axioms proved
end Go.Proofs.Ytcjlgdldhcbcjaa.segRolls
