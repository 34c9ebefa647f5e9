/- SegRoom: the law SegRoom returns true for every input, and each argument reads behind the call as it read before. No condition. The frame is the kit's proof-skeleton. -/
import Derived.Test.YtcjlgdldhcbcjaaRows
import Derived.WalkKit
import Derived.ProofKit
import Derived.OpenShut
import Derived.ShutString
import Derived.ChangeOld
import Derived.Below
import Derived.Test.YtcjlgdldhcbcjaaBeg3
import Derived.Test.YtcjlgdldhcbcjaaSegO
import Derived.Test.YtcjlgdldhcbcjaaMake
namespace Go.Proofs.Ytcjlgdldhcbcjaa.segRoom
open Go.ChangeShapes Go.WideShapes Go.ChangeAt Go.RowKit Go.Maps
open Go.ChangeMaps (open_string shut_string)
set_option linter.unusedVariables false
set_option linter.unusedSimpArgs false

theorem own : ownKnob Try.prog.godebug = none := by kernel_rfl
theorem laidOut : laidOutB Try.prog = true := by kernel_rfl

theorem wf_bounds {n : Int} (h : (Lit.int .i64 n).wf = true) : -9223372036854775808 ≤ n ∧ n ≤ 9223372036854775807 := by
  simp only [Lit.wf, IntKind.min, IntKind.max, IntKind.signed, IntKind.bits] at h
  simp at h; omega
theorem fits_zero {k : Nat} (h1 : 1 ≤ k) (h2 : k ≤ 60) : fits (List.replicate k 0) := by unfold fits; rw [List.length_replicate]; omega
/-- make's row is added. -/
theorem lst_addMake {K : Nat → Prop} {w : World} {db mb room lb : Nat} {A : List (List UInt8)} (h : LSt w lb db mb room (oneM A) 0 A K) (n : Nat) (hn1 : 1 ≤ n) (hn : n ≤ 60) (hA : (framed A).length < 2000) (hAl : A.length ≤ 1000) :
    Calls Try.prog 25 #[.pointer (some ⟨lb, 0, none⟩), .slice (some ⟨w.heap.size, 0, none⟩) n n] (w.alloc (zrow n)) (AddPost K w lb db mb room (if room < (framed A).length + (6 + n) then ⟨5, oneM A, 0, A⟩ else ⟨0, oneM (A ++ [List.replicate n 0]), 0, A ++ [List.replicate n 0]⟩)) := by
  have hs := (make_at w n (by omega)).2
  have h1 : LSt (w.alloc (zrow n)) lb db mb room (oneM A) 0 A (fun k => K k ∨ k = w.heap.size) := h.more (Tch.alloc _ _) (fun k hk => by
    rcases hk with hk | rfl
    · exact .inl hk
    · exact .inr ⟨Nat.le_refl _, by simp⟩)
  have hadd := addM_one room A (List.replicate n 0) (fits_zero hn1 hn) hA
  rw [List.length_replicate] at hadd
  rw [← hadd]
  refine (lst_add h1 (by omega) _ _ hs (fun k hk => by simp [Value.ownBlock] at hk; exact .inr hk.symm) (Nat.le_trans (oneM_len A) (by omega)) (by omega)).mono ?_
  rintro e w' ⟨rfl, q1, q2⟩
  exact ⟨rfl, q1.less (fun k hk => .inl hk), (KT.of0 (Tch.alloc _ _)).trans (q2.mono (fun k _ hk => .inl hk))⟩
set_option maxRecDepth 100000 in
set_option maxHeartbeats 4000000 in
theorem walk (a0 : Int) (a1 : Option Addr) (len1 cap1 : Nat) (z1 : List Int) (w : World) (w0 : (Lit.int .i64 a0).wf = true) (w1 : IsRow .i64 w a1 len1 cap1 z1) :
    Calls Try.prog 12 #[.int .i64 a0, .slice a1 len1 cap1] w fun e w' => e = .returned (.bool true) ∧ Below w.heap.size w w' := by
  have hb := wf_bounds w0
  obtain ⟨hl1, hl2, hl3⟩ := w1.lens
  have Hcell : Hid (∀ j, j < len1 → ∃ x z, a1 = some x ∧ w.cell? (x.add j) = some (.int .i64 z)) := fun j hj => by
    rcases w1 with ⟨_, h, _⟩ | ⟨x, h1, h2, h3, h4, h5, h6⟩
    · omega
    · exact ⟨x, _, h1, h5 j (by omega)⟩
  clear w1 w0 hl2 hl3
  by_cases h0 : a0 < 0
  · clear hb
    go_enter Try.func12, Try.ntmps12
    go_wp2_with fail
    refine (begun4_any w).mono ?_
    rintro e w1 ⟨rfl, t1⟩
    have T1 := Lib.hid t1; clear t1
    go_wp2_with fail
    go_ret
    exact ⟨rfl, T1.out.below0⟩
  by_cases h4 : 400 < a0
  · clear hb
    go_enter Try.func12, Try.ntmps12
    go_wp2_with fail
    refine (begun4_any w).mono ?_
    rintro e w1 ⟨rfl, t1⟩
    have T1 := Lib.hid t1; clear t1
    go_wp2_with fail
    go_ret
    exact ⟨rfl, T1.out.below0⟩
  obtain ⟨room, rfl⟩ : ∃ r : Nat, a0 = (r : Int) := ⟨a0.toNat, by omega⟩
  have hr4 : room ≤ 400 := by omega
  have hro : Hid (roomOf (room : Int) = room) := by unfold roomOf; rw [Hid]; omega
  have p0 : ¬ (room : Int) < 0 := by omega
  have p4 : ¬ 400 < (room : Int) := by omega
  clear hb h0 h4
  have hmk := Lib.hid make_at
  go_enter Try.func12, Try.ntmps12
  go_wp2_with fail
  refine (begun4_any w).mono ?_
  rintro e w1 ⟨rfl, t1⟩
  have T1 := Lib.hid t1; clear t1
  go_wp2_with fail
  refine (dk_new (K := K0 w1) (room : Int) w1 (fun k hk => hk)).mono ?_
  rintro e w2 ⟨db, mb, rfl, d2, t2⟩
  rw [hro.out] at d2
  have D2 := Lib.hid d2; have T2 := Lib.hid t2; clear d2 t2
  have e0 : openM room [] 0 = ⟨0, [], 0, []⟩ := by
    unfold openM
    rw [show mDel [] newK = [] by rfl, topF_none (fun n _ _ => rfl) 999 (by omega) (by omega)]
    rfl
  go_wp2_with fail
  refine (open_ok D2.out 0 (by omega) (by simp) e0 rfl).mono ?_
  rintro e w3 ⟨lb, rfl, l3, k3⟩
  have L3 : Hid (LSt w3 lb db mb room (oneM []) 0 [] (K0 w1)) := l3
  have T3 : Hid (Tch No w1 w3) := k3.noK (w := w1) T2.out
  clear l3 k3 D2 T2 e0
  go_wp2_with fail
  go_loopw [9, 10, 11] (fun u n i wr => ∃ (j m c : Nat) (A : List (List UInt8)), j ≤ len1 ∧ j ≤ 20 ∧ i = .int .i64 j ∧ u = .int .i64 m ∧ n = .int .i64 c ∧ Hid (m = (framed A).length) ∧ m ≤ room ∧ c ≤ j ∧ Hid (c = A.length) ∧ Hid (LSt wr lb db mb room (oneM A) 0 A (K0 w1)) ∧ Hid (Tch No w1 wr)) (fun _ _ i _ => 20 - (intOf i).toNat)
  case atStart => exact ⟨0, 0, 0, [], by omega, by omega, rfl, rfl, rfl, rfl, by omega, by omega, rfl, L3, T3⟩
  case round =>
    clear L3 T3
    obtain ⟨j, m, c, A, hj1, hj2, rfl, rfl, rfl, hm, hmr, hcj, hc, HL, HT⟩ := hrel
    by_cases gg : j < len1 ∧ j < 20
    · obtain ⟨g1, g2⟩ := gg
      obtain ⟨x, z, hx, hcx⟩ := Hcell.out j g1
      subst hx
      have hc' := (T1.out.trans0 HT.out).cell hcx (fun h => h)
      obtain ⟨t, ht, ht1, ht2⟩ : ∃ t, z.tmod 60 = t ∧ -60 < t ∧ t < 60 := ⟨_, rfl, tmod_lt z 60 (by omega)⟩
      obtain ⟨nn, hnn, hn7⟩ : ∃ nn : Nat, (t + 60).tmod 60 = (nn : Int) ∧ nn < 60 := by
        rw [Int.tmod_eq_emod_of_nonneg (by omega)]
        exact ⟨((t + 60) % 60).toNat, by omega, by omega⟩
      have HAD := Lib.hid (lst_addMake HL.out (nn + 1) (by omega) (by omega) (by rw [← hm.out]; omega) (by rw [← hc.out]; omega))
      rw [← hm.out] at HAD
      have hmk1 : ∀ W : World, (Instr.makeSlice 22 (.int .i64 (1 + (nn : Int))) (.int .i64 (1 + (nn : Int)))).run Try.prog W = .ok (.slice (some ⟨W.heap.size, 0, none⟩) (nn + 1) (nn + 1)) (W.alloc (zrow (nn + 1))) := fun W => by
        have := (hmk.out W (nn + 1) (by omega)).1
        rwa [show ((nn + 1 : Nat) : Int) = 1 + (nn : Int) by omega] at this
      obtain ⟨Z, hZ⟩ : ∃ Z, zrow (nn + 1) = Z := ⟨_, rfl⟩
      rw [hZ] at hmk1 HAD
      clear hZ
      clear hcx
      by_cases hfull : room < m + (6 + (nn + 1))
      · rw [if_pos hfull] at HAD
        have q1 : ¬ (m : Int) + (1 + (nn : Int)) + 6 ≤ (room : Int) := by omega
        go_wp2_with fail
        refine HAD.out.mono ?_
        rintro e w5 ⟨rfl, l5, k5⟩
        have L5 : Hid (LSt w5 lb db mb room (oneM A) 0 A (K0 w1)) := l5
        have T5 : Hid (Tch No w1 w5) := k5.noK (w := w1) HT.out
        clear l5 k5 HAD HL HT
        go_wp2_with fail
        refine (dk_used L5.out.dk (Nat.le_trans (oneM_len A) (by omega))).mono ?_
        rw [mUsed_one, ← hm.out]
        rintro e w6 ⟨rfl, t6⟩
        have L6 := Lib.hid (L5.out.keep t6); have T6 := Lib.hid (T5.out.trans0 t6); clear t6 L5 T5
        have q2 : ¬ (room : Int) < (m : Int) := by omega
        go_wp2_with fail
        exact ⟨⟨j + 1, m, c, A, by omega, by omega, by go_num, rfl, rfl, hm, hmr, by omega, hc, L6, T6⟩, by simp [intOf]; omega⟩
      · rw [if_neg hfull] at HAD
        have q1 : (m : Int) + (1 + (nn : Int)) + 6 ≤ (room : Int) := by omega
        go_wp2_with fail
        refine HAD.out.mono ?_
        rintro e w5 ⟨rfl, l5, k5⟩
        have L5 : Hid (LSt w5 lb db mb room (oneM (A ++ [List.replicate (nn + 1) 0])) 0 (A ++ [List.replicate (nn + 1) 0]) (K0 w1)) := l5
        have T5 : Hid (Tch No w1 w5) := k5.noK (w := w1) HT.out
        have hm' : Hid (m + nn + 7 = (framed (A ++ [List.replicate (nn + 1) 0])).length) := by rw [Hid, framed_snoc_len, ← hm.out, List.length_replicate]; omega
        have hc' : Hid (c + 1 = (A ++ [List.replicate (nn + 1) (0 : UInt8)]).length) := by rw [Hid, List.length_append, ← hc.out]; rfl
        obtain ⟨A', hA'⟩ : ∃ A', A ++ [List.replicate (nn + 1) (0 : UInt8)] = A' := ⟨_, rfl⟩
        rw [hA'] at L5 hm' hc'
        clear l5 k5 HAD HL HT hA' hm hc
        go_wp2_with fail
        refine (dk_used L5.out.dk (Nat.le_trans (oneM_len A') (by omega))).mono ?_
        rw [mUsed_one, ← hm'.out]
        rintro e w6 ⟨rfl, t6⟩
        have L6 := Lib.hid (L5.out.keep t6); have T6 := Lib.hid (T5.out.trans0 t6); clear t6 L5 T5
        have q2 : ¬ (room : Int) < ((m + nn + 7 : Nat) : Int) := by omega
        go_wp2_with fail
        exact ⟨⟨j + 1, m + nn + 7, c + 1, A', by omega, by omega, by go_num, by go_num, by go_num, hm', by omega, by omega, hc', L6, T6⟩, by simp [intOf]; omega⟩
    · have hend : Hid True := trivial
      by_cases g1 : j < len1
      · have g2 : ¬ j < 20 := fun h => gg ⟨g1, h⟩
        clear gg
        go_wp2_with fail
        refine (lst_all HL.out (by rw [← hc.out]; omega)).mono ?_
        rintro e w9 ⟨v9, R9, rfl, r9, m9, _, t9⟩
        obtain ⟨a9, l9, c9, rfl, hl9, _⟩ := rows_shape r9
        have hlc : l9 = c := by have h1 := hl9.out; have h2 := congrArg List.length m9; rw [List.length_map] at h2; rw [h1, h2, hc.out]
        subst hlc
        have T9 := Lib.hid (T1.out.trans0 (HT.out.trans0 t9)); clear t9 r9 m9 hl9
        go_wp2_with fail
        go_ret
        exact ⟨rfl, T9.out.below0⟩
      · clear gg
        go_wp2_with fail
        refine (lst_all HL.out (by rw [← hc.out]; omega)).mono ?_
        rintro e w9 ⟨v9, R9, rfl, r9, m9, _, t9⟩
        obtain ⟨a9, l9, c9, rfl, hl9, _⟩ := rows_shape r9
        have hlc : l9 = c := by have h1 := hl9.out; have h2 := congrArg List.length m9; rw [List.length_map] at h2; rw [h1, h2, hc.out]
        subst hlc
        have T9 := Lib.hid (T1.out.trans0 (HT.out.trans0 t9)); clear t9 r9 m9 hl9
        go_wp2_with fail
        go_ret
        exact ⟨rfl, T9.out.below0⟩

/-! ### THE ROW's STEP: WRITTEN OUT: LEAVE IT -/
set_option maxRecDepth 100000 in
theorem lifted (os : Os) (started : os.Started) (H : Type) (enc : TypeId × Value → H) :
    ReturnsInHanded {} Try.checked os 12 .any (Rows.segRoomSpec.pre6 enc Try.prog Try.f12 Rows.segRoomRow.domain false) (Rows.segRoomSpec.post enc Try.prog Try.f12 false true false false) := by
  refine returnsInHanded_of_change (C := Try.checked) own started (by kernel_rfl) Try.func12
    (ChangeSpec.witness6 (enc := enc) (C := Try.checked) false ⟨#[], #[.int .i64 0, .slice none 0 0], []⟩ 8 (by kernel_rfl) (by kernel_rfl) (by kernel_rfl) (by kernel_rfl)) ?_
  intro W base args ds gs before hval0 hW hcnd _
  have hval : ∀ (j : Nat) t v, Try.f12.params[j]? = some t → args[j]? = some v → Value.okWide Try.prog W .any base t v := hval0
  have hW' := hW
  obtain ⟨p, q, hA0, hV, rfl, hfz, hnd⟩ := hW
  have hA : DataW.TrodAll enc Try.prog W 0 (fun _ => true) true Try.f12.params.toList args.toList ds p := hA0
  rw [Try.params12] at hA hval
  obtain ⟨v0, vs0, d0, ds0, p0, q0, hargs, rfl, rfl, h0, r0⟩ := trodAll_cons hA
  obtain ⟨v1, vs1, d1, ds1, p1, q1, rfl, rfl, rfl, h1, r1⟩ := trodAll_cons r0
  obtain ⟨rfl, rfl, rfl⟩ := trodAll_nil r1
  obtain rfl : args = #[v0, v1] := by cases args; simp_all
  obtain ⟨rfl, rfl⟩ := trodVars_none hV
  obtain ⟨a0, rfl, rfl, rfl, w0⟩ := open_int Try.underlying3 (hval 0 3 v0 rfl rfl) h0
  obtain ⟨a1, len1, cap1, rfl⟩ := okWide_slice Try.underlying34 (hval 1 34 v1 rfl rfl)
  have k1 := h1
  have lt1 : ∀ x ∈ p1, x.block < W.heap.size := by obtain ⟨m, hm⟩ := k1; exact DataW.trod_lt m _ _ _ hm
  obtain ⟨z1, w1⟩ : ∃ zs, IsRow .i64 W a1 len1 cap1 zs := by
    obtain ⟨fuel, hf⟩ := h1
    rcases open_ints Try.underlying34 Try.underlying3 (by kernel_rfl) hf with ⟨hcs, _⟩ | ⟨x, l, c, zs, hcs, _, hl, hm, hz, _, hcell, hwz⟩
    · simp [Value.cells] at hcs
      obtain ⟨rfl, rfl, rfl⟩ := hcs
      exact ⟨[], .inl ⟨rfl, rfl, rfl, rfl⟩⟩
    · simp [Value.cells] at hcs
      obtain ⟨rfl, rfl, rfl⟩ := hcs
      exact ⟨zs, .inr ⟨_, rfl, hl, hm, by simpa using hz, hcell, hwz⟩⟩
  clear hA0 hval0
  refine (walk a0 a1 len1 cap1 z1 W w0 w1).mono fun e W' ⟨he, bel⟩ => ?_
  subst he
  exact ⟨_, rfl, _, _, _, [], _, [], hW', trodAll_mk1 (shut_bool Try.underlying4 _), (trodAll_cons_mk (shut_int Try.underlying3 w0) (trodAll_cons_mk (Below.trod laidOut (by kernel_rfl) (of_decide_eq_true (by kernel_rfl)) k1 bel lt1) trodAll_mk0)), rfl, bel.frame _, fun h => by cases h⟩

theorem over : Rows.segRoomRow.holds Try.pinned (OpenSpec.ofChange Rows.segRoomSpec) :=
  OpenClaim.holds_of_wide 12 Try.f12 rfl rfl rfl rfl rfl rfl rfl ⟨rfl, rfl, rfl, rfl, rfl⟩ rfl rfl rfl rfl rfl (by kernel_rfl) Try.func12 (by kernel_rfl)
    (of_decide_eq_true (by kernel_rfl)) (by unfold Func.isWrapper; first | (rw [if_pos (by decide +kernel)]; kernel_rfl) | (rw [if_neg (by decide +kernel)]; exact ⟨rfl, rfl⟩))
    (fun os started H enc _ => lifted os started H enc)

/--  THE STATEMENT  -/
theorem proved : Rows.SegRoomSaid := over
#print axioms proved
end Go.Proofs.Ytcjlgdldhcbcjaa.segRoom
