/- OrderRoom: the law OrderRoom returns true for every input, and each argument reads behind the call as it read before. No condition. The frame is the kit's proof-skeleton. -/
import Derived.Test.YtfedhcnmdmhppaaGreatPOrderRoom41
import Derived.Test.YtfedhcnmdmhppaaGreatRows
import Derived.WalkKit
import Derived.ProofKit
import Derived.OpenShut
import Derived.ShutString
namespace Go.Proofs.YtfedhcnmdmhppaaGreat.orderRoom
open Go.ChangeShapes Go.WideShapes Go.ChangeAt Go.RowKit Go.Maps
open Go.ChangeMaps (open_string shut_string)
set_option linter.unusedVariables false      -- a walk need not use every 'w<i>' (that an integer argument fits its kind)

theorem own : ownKnob Tryz.prog.godebug = none := by kernel_rfl

theorem wf_bounds {n : Int} (h : (Lit.int .i64 n).wf = true) : -9223372036854775808 ≤ n ∧ n ≤ 9223372036854775807 := by
  simp only [Lit.wf, IntKind.min, IntKind.max, IntKind.signed, IntKind.bits] at h
  simp at h; omega
def qmore (k : Nat) : List PutM := (List.range k).map fun i => ⟨[113, UInt8.ofNat (97 + i)], []⟩
def qsame (k : Nat) : List PutM := List.replicate k ⟨[113], []⟩
theorem new5 : newM 5 = ⟨5, 1, 1, 0, [], [], [], [], []⟩ := by decide
theorem names5 (more : List PutM) : namesM (newM 5) more = more.map (·.q) := by
  rw [new5]; unfold namesM moreM; simp
theorem sorted_more (k : Nat) (h : k ≤ 8) : sortM ((qmore k).map (·.q)) = (qmore k).map (·.q) := by
  unfold sortM
  refine List.mergeSort_of_pairwise ?_
  obtain rfl | rfl | rfl | rfl | rfl | rfl | rfl | rfl | rfl : k = 0 ∨ k = 1 ∨ k = 2 ∨ k = 3 ∨ k = 4 ∨ k = 5 ∨ k = 6 ∨ k = 7 ∨ k = 8 := by omega
  all_goals decide
theorem room_more (k : Nat) (h : k ≤ 8) : roomM (newM 5) [110, 101, 119] (qmore k) = decide ((k : Int) < 6) := by
  unfold roomM othersM queuesM
  rw [names5, sorted_more k h]
  obtain rfl | rfl | rfl | rfl | rfl | rfl | rfl | rfl | rfl : k = 0 ∨ k = 1 ∨ k = 2 ∨ k = 3 ∨ k = 4 ∨ k = 5 ∨ k = 6 ∨ k = 7 ∨ k = 8 := by omega
  all_goals decide
theorem room_same0 (k : Nat) (h : k ≤ 14) (h1 : 1 ≤ k) : roomM (newM 5) [113] (qsame k) = decide ((k : Int) < 12) := by
  unfold roomM othersM
  rw [names5]
  obtain ⟨j, rfl⟩ : ∃ j, k = j + 1 := ⟨k - 1, by omega⟩
  have e1 : (keptM (fun x : Txt => decide (x = [113])) ((qsame (j + 1)).map (·.q))).length = 0 := by
    unfold keptM qsame; simp
  have e2 : ((qsame (j + 1)).map (·.q)).length = j + 1 := by unfold qsame; simp
  rw [e1, e2, if_pos (by omega)]
  rw [Bool.eq_iff_iff, decide_eq_true_eq, decide_eq_true_eq]
  omega
theorem room_same (k : Nat) (h : k ≤ 14) : roomM (newM 5) [113] (qsame k) = decide ((k : Int) < 12) := by
  by_cases h1 : 1 ≤ k
  · exact room_same0 k h h1
  · obtain rfl : k = 0 := by omega
    unfold roomM othersM queuesM
    rw [names5]
    have e : sortM ((qsame 0).map (·.q)) = [] := by unfold sortM qsame; simp
    rw [e]
    decide
theorem room_any5 (more : List PutM) (h : more.length ≤ 20) (qt : Txt) (v vp : Value) (w : World) (hs : IsSt w v (newM 5)) (hp : IsPuts w vp more) :
    Calls Tryz.prog 31 #[v, strV qt, vp] w fun e w' => e = .returned (.bool (roomM (newM 5) qt more)) ∧ Tch No w w' :=
  oroom_any (newM 5) qt more (by rw [new5]; simp) (by rw [new5]; simp) (by rw [new5]; simp [moreM]; omega) v vp w hs hp
theorem qmore_succ (k : Nat) : (qmore (k + 1)).flatMap encPut = (qmore k).flatMap encPut ++ [.string ⟨[113, UInt8.ofNat (97 + k)].toArray⟩, .string ⟨#[]⟩] := by
  unfold qmore
  rw [List.range_succ, List.map_append, List.flatMap_append]; rfl
theorem qsame_succ (k : Nat) : (qsame (k + 1)).flatMap encPut = (qsame k).flatMap encPut ++ [.string ⟨#[113]⟩, .string ⟨#[]⟩] := by
  unfold qsame
  rw [List.replicate_succ', List.flatMap_append]; rfl
theorem qmore_len (k : Nat) : (qmore k).length = k := by simp [qmore]
theorem qsame_len (k : Nat) : (qsame k).length = k := by simp [qsame]
theorem conv_q (k : Nat) (hk : k ≤ 8) (W : World) : (convert 48 9 (.slice (some ⟨W.heap.size, 0, none⟩) 2 2)).run Tryz.prog (W.alloc (.cells #[.int .u8 113, .int .u8 (97 + (k : Int))] 5)) = .ok (.string ⟨[113, UInt8.ofNat (97 + k)].toArray⟩) (W.alloc (.cells #[.int .u8 113, .int .u8 (97 + (k : Int))] 5)) := by
  have h1 : ((UInt8.ofNat (97 + k)).toNat : Int) = 97 + (k : Int) := by simp; omega
  have hC : (#[.int .u8 113, .int .u8 (97 + (k : Int))] : Array Value) = (u8s [113, UInt8.ofNat (97 + k)]).toArray := by
    simp only [u8s, List.map_cons, List.map_nil, h1]; rfl
  exact (SlB.lit W _ [113, UInt8.ofNat (97 + k)] 2 5 (0, 0) rfl hC (by simp [lim])).str Tryz.underlying48 Tryz.underlying5 Tryz.underlying9
set_option maxRecDepth 100000 in
set_option maxHeartbeats 8000000 in
theorem walk (a0 : Int) (a1 : Int) (w0 : (Lit.int .i64 a0).wf = true) (w1 : (Lit.int .i64 a1).wf = true) (w : World) :
    Calls Tryz.prog 8 #[.int .i64 a0, .int .i64 a1] w fun e w' => e = .returned (.bool true) ∧ Below w.heap.size w w' := by
  have hb0 := wf_bounds w0
  have hb1 := wf_bounds w1
  by_cases p0 : a0 < 0
  · go_enter Tryz.func8, Tryz.ntmps8
    go_wp2_with fail
    refine (begun10_any w).mono ?_
    rintro e w1 ⟨rfl, t1⟩
    go_wp2_with fail
    go_ret
    exact ⟨rfl, t1.below0⟩
  by_cases p1 : 14 < a0
  · go_enter Tryz.func8, Tryz.ntmps8
    go_wp2_with fail
    refine (begun10_any w).mono ?_
    rintro e w1 ⟨rfl, t1⟩
    go_wp2_with fail
    go_ret
    exact ⟨rfl, t1.below0⟩
  by_cases p2 : a1 < 0
  · go_enter Tryz.func8, Tryz.ntmps8
    go_wp2_with fail
    refine (begun10_any w).mono ?_
    rintro e w1 ⟨rfl, t1⟩
    go_wp2_with fail
    go_ret
    exact ⟨rfl, t1.below0⟩
  by_cases p3 : 8 < a1
  · go_enter Tryz.func8, Tryz.ntmps8
    go_wp2_with fail
    refine (begun10_any w).mono ?_
    rintro e w1 ⟨rfl, t1⟩
    go_wp2_with fail
    go_ret
    exact ⟨rfl, t1.below0⟩
  obtain ⟨n, rfl⟩ : ∃ n : Nat, a0 = (n : Int) := ⟨a0.toNat, by omega⟩
  obtain ⟨m, rfl⟩ : ∃ n : Nat, a1 = (n : Int) := ⟨a1.toNat, by omega⟩
  have hn14 : n ≤ 14 := by omega
  have hm8 : m ≤ 8 := by omega
  clear w0 w1 hb0 hb1
  go_enter Tryz.func8, Tryz.ntmps8
  go_wp2_with fail
  refine (begun10_any w).mono ?_
  rintro e w1 ⟨rfl, t1⟩
  have T1 := Lib.hid t1
  clear t1
  go_wp2_with fail
  refine (snew_any 5 _).mono ?_
  rintro e w2 ⟨v2, rfl, i2, t2⟩
  have i2' := i2
  rw [new5] at i2'
  obtain ⟨am, cm, aw, cw, ae, ce, ao, co, an, cn, rfl, _⟩ := i2'.shape
  clear i2'
  simp only [stV, List.length_nil] at i2 ⊢
  obtain ⟨bs, hbs⟩ : ∃ x, w2.heap.size = x := ⟨_, rfl⟩
  obtain ⟨w3, hw3⟩ : ∃ x, w2.alloc (.cells #[.int .i64 5, .int .i64 1, .int .i64 1, .int .i64 0, .slice am 0 cm, .slice aw 0 cw, .slice ae 0 ce, .slice ao 0 co, .slice an 0 cn] 27) = x := ⟨_, rfl⟩
  have I3 : Hid (IsSt w3 (.agg #[.int .i64 5, .int .i64 1, .int .i64 1, .int .i64 0, .slice am 0 cm, .slice aw 0 cw, .slice ae 0 ce, .slice ao 0 co, .slice an 0 cn]) (newM 5)) := by rw [Hid, ← hw3]; exact i2.keep (Tch.alloc _ _)
  have B3 : Hid (w3.heap[bs]? = some (.cells #[.int .i64 5, .int .i64 1, .int .i64 1, .int .i64 0, .slice am 0 cm, .slice aw 0 cw, .slice ae 0 ce, .slice ao 0 co, .slice an 0 cn] 27 (0, 0))) := by rw [Hid, ← hw3, ← hbs]; exact blk_new _ _
  have T3 : Hid (Tch No w w3) := (T1.out.trans0 t2).trans0 (by rw [← hw3]; exact Tch.alloc _ _)
  clear i2 t2 T1
  go_wp2_with fail
  clear hw3 hbs
  go_loopg [7, 8] m (fun kx s7 s8 wr => ∃ k : Nat, s8 = .int .i64 (k : Nat) ∧ k ≤ m ∧ m - k ≤ kx ∧ ∃ va vc, s7 = .slice va k vc ∧ Hid (OwnN w3 45 2 k ((qmore k).flatMap encPut) (.slice va k vc) wr) ∧ Hid (Tch No w3 wr))
  case atStart => exact ⟨0, rfl, Nat.zero_le _, by omega, none, 0, rfl, ⟨own_nil _ _ _, fun b hb => by simp [Value.ownBlock] at hb⟩, Tch.refl _ _⟩
  case round =>
    obtain ⟨k, rfl, hk, hgk, va, vc, rfl, OW, TT⟩ := hrel
    by_cases hlt : k < m
    · obtain ⟨XS, hXS⟩ : ∃ x, (qmore k).flatMap encPut = x := ⟨_, rfl⟩
      have hk8 : k ≤ 8 := by omega
      have E0 : IntKind.i64.wrap (97 + (k : Int)) = 97 + (k : Int) := IntWalk.i64_in _ ⟨by omega, by omega⟩
      have E1 : IntKind.u8.wrap (97 + (k : Int)) = 97 + (k : Int) := IntWalk.u8_in _ ⟨by omega, by omega⟩
      have HSU := Lib.hid (qmore_succ k)
      have hcv := fun W => conv_q k hk8 W
      obtain ⟨q1, hq1⟩ : ∃ x : ByteArray, (⟨[113, UInt8.ofNat (97 + k)].toArray⟩ : ByteArray) = x := ⟨_, rfl⟩
      rw [hq1] at HSU
      simp only [hq1] at hcv
      clear hq1
      obtain ⟨vk, hvk⟩ : ∃ x, Value.slice va k vc = x := ⟨_, rfl⟩
      rw [hXS, hvk] at OW
      have HAP : Hid (∀ W, Tch No wr W → OwnN w3 45 2 k XS vk W) := fun W t => stb_own _ _ _ t OW.out
      have HON : Hid (Ones ([.string q1, .string ⟨#[]⟩] : List Value)) := fun u hu => by
        simp only [List.mem_cons, List.not_mem_nil, or_false] at hu
        rcases hu with rfl | rfl <;> rfl
      have HXX := Lib.hid hXS
      have hk9 : k ≤ 20 := by omega
      rw [hvk]
      clear hXS hvk
      go_wp2_with (at_builtin; refine wpList_appE eltPut _ rfl _ _ rfl _ _ _ rfl (HAP.out _ ((Tch.alloc _ _).trans0 (Tch.alloc _ _))).1 _ 1 [.string q1, .string ⟨#[]⟩] rfl (cells_lit2 (by simp) _ _ 2 _ rfl rfl) HON.out (by omega) ?_; rintro a' n' cap' w' HA hn')
      go_roundg (m - (k + 1))
      case measure => omega
      case rel =>
        have hnn : n' = k + 1 := hn'
        subst hnn
        have hO := HA.on (TT.out.trans0 ((Tch.alloc _ _).trans0 (Tch.alloc _ _))) OW.out.2
        exact ⟨k + 1, by go_num, by omega, by omega, a', cap', rfl, ⟨by rw [HSU.out, HXX.out]; exact HA.own, hO.2⟩, hO.1⟩
    · obtain rfl : k = m := by omega
      clear hlt
      have cB : Hid (wr.heap[bs]? = some (.cells #[.int .i64 5, .int .i64 1, .int .i64 1, .int .i64 0, .slice am 0 cm, .slice aw 0 cw, .slice ae 0 ce, .slice ao 0 co, .slice an 0 cn] 27 (0, 0))) := blk_tch TT.out B3.out (fun h => h)
      have c0 : wr.cell? ⟨bs, 0, none⟩ = some (.int .i64 5) := (blk_cell cB.out 0).trans rfl
      have c1 : wr.cell? ⟨bs, 1, none⟩ = some (.int .i64 1) := (blk_cell cB.out 1).trans rfl
      have c2 : wr.cell? ⟨bs, 2, none⟩ = some (.int .i64 1) := (blk_cell cB.out 2).trans rfl
      have c3 : wr.cell? ⟨bs, 3, none⟩ = some (.int .i64 0) := (blk_cell cB.out 3).trans rfl
      have c4 : wr.cell? ⟨bs, 4, none⟩ = some (.slice am 0 cm) := (blk_cell cB.out 4).trans rfl
      have c5 : wr.cell? ⟨bs, 5, none⟩ = some (.slice aw 0 cw) := (blk_cell cB.out 5).trans rfl
      have c6 : wr.cell? ⟨bs, 6, none⟩ = some (.slice ae 0 ce) := (blk_cell cB.out 6).trans rfl
      have c7 : wr.cell? ⟨bs, 7, none⟩ = some (.slice ao 0 co) := (blk_cell cB.out 7).trans rfl
      have c8 : wr.cell? ⟨bs, 8, none⟩ = some (.slice an 0 cn) := (blk_cell cB.out 8).trans rfl
      have HRM := Lib.hid (room_any5 (qmore k) (by rw [qmore_len]; omega) [110, 101, 119] _ (.slice va k vc) wr (I3.out.keep TT.out) (by unfold IsPuts; rw [qmore_len]; exact CellsAt.ofRow OW.out.1))
      rw [room_more k hm8] at HRM
      go_wp2_with fail
      refine HRM.out.mono ?_
      rintro e w4 ⟨rfl, t4⟩
      have T4 := Lib.hid (TT.out.trans0 t4)
      clear t4 cB c0 c1 c2 c3 c4 c5 c6 c7 c8 OW TT HRM
      go_wp2_with fail
      go_loopg [10, 11] n (fun kx s7 s8 wr => ∃ j : Nat, s8 = .int .i64 (j : Nat) ∧ j ≤ n ∧ n - j ≤ kx ∧ ∃ va vc, s7 = .slice va j vc ∧ Hid (OwnN w4 45 2 j ((qsame j).flatMap encPut) (.slice va j vc) wr) ∧ Hid (Tch No w4 wr))
      case atStart => exact ⟨0, rfl, Nat.zero_le _, by omega, none, 0, rfl, ⟨own_nil _ _ _, fun b hb => by simp [Value.ownBlock] at hb⟩, Tch.refl _ _⟩
      case round =>
        obtain ⟨j, rfl, hj, hgj, va, vc, rfl, OW, TT⟩ := hrel
        by_cases hlt : j < n
        · obtain ⟨XS, hXS⟩ : ∃ x, (qsame j).flatMap encPut = x := ⟨_, rfl⟩
          have HSU := Lib.hid (qsame_succ j)
          obtain ⟨vk, hvk⟩ : ∃ x, Value.slice va j vc = x := ⟨_, rfl⟩
          rw [hXS, hvk] at OW
          have HAP : Hid (∀ W, Tch No wr W → OwnN w4 45 2 j XS vk W) := fun W t => stb_own _ _ _ t OW.out
          have HON : Hid (Ones ([.string ⟨#[113]⟩, .string ⟨#[]⟩] : List Value)) := fun u hu => by
            simp only [List.mem_cons, List.not_mem_nil, or_false] at hu
            rcases hu with rfl | rfl <;> rfl
          have HXX := Lib.hid hXS
          have hk9 : j ≤ 20 := by omega
          rw [hvk]
          clear hXS hvk
          go_wp2_with (at_builtin; refine wpList_appE eltPut _ rfl _ _ rfl _ _ _ rfl (HAP.out _ (Tch.alloc _ _)).1 _ 1 [.string ⟨#[113]⟩, .string ⟨#[]⟩] rfl (cells_lit2 (by simp) _ _ 2 _ rfl rfl) HON.out (by omega) ?_; rintro a' n' cap' w' HA hn')
          go_roundg (n - (j + 1))
          case measure => omega
          case rel =>
            have hnn : n' = j + 1 := hn'
            subst hnn
            have hO := HA.on (TT.out.trans0 (Tch.alloc _ _)) OW.out.2
            exact ⟨j + 1, by go_num, by omega, by omega, a', cap', rfl, ⟨by rw [HSU.out, HXX.out]; exact HA.own, hO.2⟩, hO.1⟩
        · obtain rfl : j = n := by omega
          clear hlt
          have cB : Hid (wr.heap[bs]? = some (.cells #[.int .i64 5, .int .i64 1, .int .i64 1, .int .i64 0, .slice am 0 cm, .slice aw 0 cw, .slice ae 0 ce, .slice ao 0 co, .slice an 0 cn] 27 (0, 0))) := blk_tch (T4.out.trans0 TT.out) B3.out (fun h => h)
          have c0 : wr.cell? ⟨bs, 0, none⟩ = some (.int .i64 5) := (blk_cell cB.out 0).trans rfl
          have c1 : wr.cell? ⟨bs, 1, none⟩ = some (.int .i64 1) := (blk_cell cB.out 1).trans rfl
          have c2 : wr.cell? ⟨bs, 2, none⟩ = some (.int .i64 1) := (blk_cell cB.out 2).trans rfl
          have c3 : wr.cell? ⟨bs, 3, none⟩ = some (.int .i64 0) := (blk_cell cB.out 3).trans rfl
          have c4 : wr.cell? ⟨bs, 4, none⟩ = some (.slice am 0 cm) := (blk_cell cB.out 4).trans rfl
          have c5 : wr.cell? ⟨bs, 5, none⟩ = some (.slice aw 0 cw) := (blk_cell cB.out 5).trans rfl
          have c6 : wr.cell? ⟨bs, 6, none⟩ = some (.slice ae 0 ce) := (blk_cell cB.out 6).trans rfl
          have c7 : wr.cell? ⟨bs, 7, none⟩ = some (.slice ao 0 co) := (blk_cell cB.out 7).trans rfl
          have c8 : wr.cell? ⟨bs, 8, none⟩ = some (.slice an 0 cn) := (blk_cell cB.out 8).trans rfl
          have HRM := Lib.hid (room_any5 (qsame j) (by rw [qsame_len]; omega) [113] _ (.slice va j vc) wr (I3.out.keep (T4.out.trans0 TT.out)) (by unfold IsPuts; rw [qsame_len]; exact CellsAt.ofRow OW.out.1))
          rw [room_same j hn14] at HRM
          go_wp2_with fail
          refine HRM.out.mono ?_
          rintro e w5 ⟨rfl, t5⟩
          go_wp2_with fail
          go_ret
          exact ⟨rfl, (T3.out.trans0 ((T4.out.trans0 TT.out).trans0 t5)).below0⟩

/-! ### THE ROW's STEP: WRITTEN OUT: LEAVE IT -/
set_option maxRecDepth 100000 in
theorem lifted (os : Os) (started : os.Started) (H : Type) (enc : TypeId × Value → H) :
    ReturnsInHanded {} Tryz.checked os 8 .any (Rows.orderRoomSpec.pre6 enc Tryz.prog Tryz.f8 Rows.orderRoomRow.domain false) (Rows.orderRoomSpec.post enc Tryz.prog Tryz.f8 false true false false) := by
  refine returnsInHanded_of_change (C := Tryz.checked) own started (by kernel_rfl) Tryz.func8
    (ChangeSpec.witness6 (enc := enc) (C := Tryz.checked) false ⟨#[], #[.int .i64 0, .int .i64 0], []⟩ 8 (by kernel_rfl) (by kernel_rfl) (by kernel_rfl) (by kernel_rfl)) ?_
  intro W base args ds gs before hval0 hW hcnd _
  have hval : ∀ (j : Nat) t v, Tryz.f8.params[j]? = some t → args[j]? = some v → Value.okWide Tryz.prog W .any base t v := hval0
  have hW' := hW
  obtain ⟨p, q, hA0, hV, rfl, hfz, hnd⟩ := hW
  have hA : DataW.TrodAll enc Tryz.prog W 0 (fun _ => true) true Tryz.f8.params.toList args.toList ds p := hA0
  rw [Tryz.params8] at hA hval
  obtain ⟨v0, vs0, d0, ds0, p0, q0, hargs, rfl, rfl, h0, r0⟩ := trodAll_cons hA
  obtain ⟨v1, vs1, d1, ds1, p1, q1, rfl, rfl, rfl, h1, r1⟩ := trodAll_cons r0
  obtain ⟨rfl, rfl, rfl⟩ := trodAll_nil r1
  obtain rfl : args = #[v0, v1] := by cases args; simp_all
  obtain ⟨rfl, rfl⟩ := trodVars_none hV
  obtain ⟨a0, rfl, rfl, rfl, w0⟩ := open_int Tryz.underlying3 (hval 0 3 v0 rfl rfl) h0
  obtain ⟨a1, rfl, rfl, rfl, w1⟩ := open_int Tryz.underlying3 (hval 1 3 v1 rfl rfl) h1
  clear hA0 hval0
  simp only [List.append_nil] at hW'
  refine (walk a0 a1 w0 w1 W).mono fun e W' ⟨he, hg⟩ => ?_
  subst he
  exact ⟨_, rfl, _, _, _, [], _, [], hW', trodAll_mk1 (shut_bool Tryz.underlying4 _), (trodAll_cons_mk (shut_int Tryz.underlying3 w0) (trodAll_cons_mk (shut_int Tryz.underlying3 w1) trodAll_mk0)), rfl, hg.frame _, fun h => by cases h⟩

theorem clo0 : Tryz.prog.mayEnter = true := by kernel_rfl
theorem clo1 : (Rows.orderRoomRow.lifted == Tryz.prog.liftsFinal) = true := by kernel_rfl
theorem clo2 : (Tryz.prog.make == some Rows.orderRoomRow.make) = true := by kernel_rfl
theorem clo3 : (Rows.orderRoomRow.inPlace == Tryz.prog.inPlace 8) = true := by kernel_rfl
theorem clo4 : (Rows.orderRoomRow.unfollowed == Tryz.prog.unfollowed 8) = true := by kernel_rfl
theorem clo5 : (Rows.orderRoomRow.recurses == Tryz.prog.recurses 8) = true := by kernel_rfl
theorem clo6 : (Rows.orderRoomRow.named == Tryz.prog.varsNamed 8) = true := by kernel_rfl
theorem clo7 : laidOutB Tryz.prog = true := by kernel_rfl
theorem clo8 : mapsRowed Tryz.prog = true := by kernel_rfl
theorem clo9 : Tryz.prog.stopsHeard = true := by kernel_rfl
theorem clo10 : (Rows.orderRoomRow.plainKeys == Tryz.prog.plainKeys) = true := by kernel_rfl
set_option maxRecDepth 100000 in
theorem closed : joinedFacts Tryz.prog 8 Tryz.f8 Rows.orderRoomSpec Rows.orderRoomRow = true := by
  unfold joinedFacts
  rw [clo0, clo1, clo2, clo3, clo4, clo5, clo6, clo7, clo8, clo9, clo10]
  kernel_rfl
theorem over : Rows.orderRoomRow.holds Tryz.pinned (OpenSpec.ofChange Rows.orderRoomSpec) :=
  OpenClaim.holds_of_wide 8 Tryz.f8 rfl rfl rfl rfl rfl rfl rfl ⟨rfl, rfl, rfl, rfl, rfl⟩ rfl rfl rfl rfl rfl (by kernel_rfl) Tryz.func8 closed
    (of_decide_eq_true (by kernel_rfl)) (by unfold Func.isWrapper; first | (rw [if_pos (by decide +kernel)]; kernel_rfl) | (rw [if_neg (by decide +kernel)]; exact ⟨rfl, rfl⟩))
    (fun os started H enc _ => lifted os started H enc)

/--  THE STATEMENT  -/
theorem proved : Rows.OrderRoomSaid :=
  over
#print axioms proved
end Go.Proofs.YtfedhcnmdmhppaaGreat.orderRoom
