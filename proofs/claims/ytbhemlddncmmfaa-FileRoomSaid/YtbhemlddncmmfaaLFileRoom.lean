/- FileRoom: the law FileRoom returns true for every input, and each argument reads behind the call as it read before. No condition. The frame is the kit's proof-skeleton. -/
import Derived.Test.YtbhemlddncmmfaaRows
import Derived.WalkKit
import Derived.ProofKit
import Derived.OpenShut
import Derived.ShutString
import Derived.ChangeOld
import Derived.Below
import Derived.Test.YtbhemlddncmmfaaBeg3
import Derived.Test.YtbhemlddncmmfaaRead
namespace Go.Proofs.Ytbhemlddncmmfaa.fileRoom
open Go.ChangeShapes Go.WideShapes Go.ChangeAt Go.RowKit Go.Maps
open Go.ChangeMaps (open_string shut_string)
set_option linter.unusedVariables false

theorem own : ownKnob Try.prog.godebug = none := by kernel_rfl
theorem laidOut : laidOutB Try.prog = true := by kernel_rfl

theorem mUsed_app {M : List FE} (hn : (names M).Nodup) (n : Key) (bs : List UInt8) : mUsed (mAppL M n bs) = mUsed M + bs.length := by
  unfold mAppL
  split
  · next h =>
    induction M with
    | nil => simp [mGet] at h
    | cons x r ih =>
      simp only [names, List.map_cons, List.nodup_cons] at hn
      by_cases hx : x.name = n
      · have hr : ∀ y ∈ r, ¬ y.name = n := fun y hy e => hn.1 (by rw [hx, ← e]; exact List.mem_map_of_mem (f := fun x : FE => x.name) hy)
        have e : r.map (fun x => if x.name = n then { x with b := x.b ++ bs } else x) = r := by
          rw [List.map_congr_left (g := id) (fun y hy => by simp [hr y hy])]; simp
        simp only [List.map_cons, hx, if_true, e]
        simp [mUsed]; omega
      · have hg : (mGet r n).isSome = true := by simpa [mGet, hx] using h
        have := ih hn.2 hg
        simp only [List.map_cons, hx, if_false]
        simp only [mUsed, List.map_cons, List.sum_cons] at this ⊢
        omega
  · rw [mUsed_append]; simp [mUsed]
theorem mAppL_len (M : List FE) (n : Key) (bs : List UInt8) : (mAppL M n bs).length ≤ M.length + 1 := by
  unfold mAppL; split <;> simp
theorem goodB_one {q : Nat} (hq : q < 4) : goodB [UInt8.ofNat (97 + q)] = true := by
  have : q = 0 ∨ q = 1 ∨ q = 2 ∨ q = 3 := by omega
  rcases this with rfl | rfl | rfl | rfl <;> rfl
def zrow (n : Nat) : Obj := .cells (madeCells (Value.int .u8 0).cells (n * 1)) 5
theorem make_at (W : World) (n : Nat) (hn : n ≤ 1000000) :
    (Instr.makeSlice 30 (.int .i64 (n : Int)) (.int .i64 (n : Int))).run Try.prog W = .ok (.slice (some ⟨W.heap.size, 0, none⟩) n n) (W.alloc (zrow n)) ∧ SlB (W.alloc (zrow n)) (.slice (some ⟨W.heap.size, 0, none⟩) n n) (List.replicate n 0) := by
  obtain ⟨i0, hi0, hz0, hz1, hz2⟩ := info_parts infoB
  have hr := run_make (P := Try.prog) W 30 5 i0 (.int .u8 0) Try.underlying30 hi0 hz0 .i64 .i64 (n : Int) (n : Int) (by omega) (by omega) (by rw [hz2]; omega) (by omega)
  rw [hz1] at hr
  simp only [Int.toNat_natCast] at hr
  refine ⟨hr, ?_⟩
  have e : (madeCells (Value.int .u8 0).cells (n * 1)).toList = u8s (List.replicate n 0) := by
    have : (Value.int IntKind.u8 0).cells = #[.int .u8 0] := rfl
    rw [this, toList_madeCells_one, Nat.mul_one]
    simp [u8s]
  have := SlB.lit W (madeCells (Value.int .u8 0).cells (n * 1)) (List.replicate n 0) n 5 (0, 0) (by simp) (by rw [← e]) (by unfold lim; omega)
  exact this
theorem room_app {w1 wr : World} {db mb R : Nat} {M : List FE} (H : DSt w1 wr db mb R M []) (q nn : Nat) (hn : nn < 700) (hM : M.length ≤ 30) {W : World} (t : Tch No wr W) {g : Nat} (hs : SlB W (.slice (some ⟨g, 0, none⟩) nn nn) (List.replicate nn 0)) (hg : wr.heap.size ≤ g) :
    Calls Try.prog 21 #[.pointer (some ⟨db, 0, none⟩), .string ⟨#[UInt8.ofNat (97 + q)]⟩, .slice (some ⟨g, 0, none⟩) nn nn] W fun e w' => ∃ r M', e = .returned (.int .i64 r) ∧ Hid (r = ((mAppend M R [UInt8.ofNat (97 + q)] (List.replicate nn 0)).1 : Nat)) ∧ Hid (M' = (mAppend M R [UInt8.ofNat (97 + q)] (List.replicate nn 0)).2) ∧ Hid (DSt w1 w' db mb R M' []) := by
  refine (dst_append (H.keep t) ⟨#[UInt8.ofNat (97 + q)]⟩ (.slice (some ⟨g, 0, none⟩) nn nn) (List.replicate nn 0) hs ?_ (by simp [lim]) (by omega) (by simp; omega)).mono ?_
  · intro k hk e
    obtain ⟨L, _, h2, _⟩ := H
    have := DiskF.lt h2 mb (.inr (.inl rfl))
    simp [Value.ownBlock] at hk
    omega
  · rintro e w' ⟨rfl, h⟩
    exact ⟨_, _, rfl, rfl, rfl, h⟩
theorem one_str (W : World) (q : Nat) (t : TypeId) (hq : q < 4) : SlB (W.alloc (.cells #[.int .u8 (97 + (q : Int))] t)) (.slice (some ⟨W.heap.size, 0, none⟩) 1 1) [UInt8.ofNat (97 + q)] := by
  have := SlB.one W (UInt8.ofNat (97 + q)) t
  have e : ((UInt8.ofNat (97 + q)).toNat : Int) = 97 + (q : Int) := by simp; omega
  rw [e] at this
  exact this
theorem tmod_700 (z : Int) : -700 < z.tmod 700 ∧ z.tmod 700 < 700 := by
  rcases Int.le_total 0 z with h | h
  · rw [Int.tmod_eq_emod_of_nonneg h]; omega
  · have : z = -(-z) := by omega
    rw [this, Int.neg_tmod, Int.tmod_eq_emod_of_nonneg (by omega)]; omega
set_option maxRecDepth 100000 in
set_option maxHeartbeats 4000000 in
theorem walk (a0 : Int) (a1 : Option Addr) (len1 cap1 : Nat) (z1 : List Int) (w : World) (w0 : (Lit.int .i64 a0).wf = true) (w1 : IsRow .i64 w a1 len1 cap1 z1) :
    Calls Try.prog 5 #[.int .i64 a0, .slice a1 len1 cap1] w fun e w' => e = .returned (.bool true) ∧ Below w.heap.size w w' := by
  have hR : Hid (∀ r : Int, r ≤ 5000 → max 0 r = ((roomOf r : Nat) : Int)) := fun r h => by unfold roomOf; omega
  obtain ⟨hl1, hl2, hl3⟩ := w1.lens
  have W1 := Lib.hid w1
  have hmk := Lib.hid make_at
  have Hcell : Hid (∀ j, j < len1 → ∃ x z, a1 = some x ∧ w.cell? (x.add j) = some (.int .i64 z)) := fun j hj => by
    rcases w1 with ⟨_, h, _⟩ | ⟨x, h1, h2, h3, h4, h5, h6⟩
    · omega
    · exact ⟨x, _, h1, h5 j (by omega)⟩
  clear w1 w0 hl2 hl3
  go_enter Try.func5, Try.ntmps5
  go_wp2_with fail
  refine (begun3_any w).mono ?_
  rintro e w1 ⟨rfl, t1⟩
  have T1 := Lib.hid t1; clear t1
  rcases Decidable.em ((5000 : Int) < a0) with h5 | h5
  · have hmax := hR.out (5000) (by omega)
    have hRl : roomOf (5000) ≤ 1048576 := by unfold roomOf; omega
    have hnew := Lib.hid (dst_new (5000) w1)
    obtain ⟨Rn, hRn⟩ : ∃ n, roomOf (5000) = n := ⟨_, rfl⟩
    rw [hRn] at hmax hRl hnew
    clear hRn hR
    go_wp2_with fail
    refine hnew.out.mono ?_
    rintro e w4 ⟨db, mb, rfl, h4⟩
    have H4 := Lib.hid h4; clear h4
    go_wp2_with fail
    go_loopw [7, 8] (fun u i wr => ∃ (j m : Nat) (M : List FE), j ≤ len1 ∧ j ≤ 30 ∧ i = .int .i64 j ∧ u = .int .i64 m ∧ Hid (m = mUsed M) ∧ m ≤ Rn ∧ M.length ≤ j ∧ Hid (DSt w1 wr db mb Rn M [])) (fun _ i _ => 30 - (intOf i).toNat)
    case atStart => exact ⟨0, 0, [], by omega, by omega, rfl, rfl, rfl, by omega, by simp, H4⟩
    case round =>
      obtain ⟨j, m, M, hj1, hj2, rfl, rfl, hm, hmR, hML, HD⟩ := hrel
      by_cases g1 : j < len1
      · by_cases g2 : j < 30
        · obtain ⟨x, z, hx, hc⟩ := Hcell.out j g1
          subst hx
          have hc' := (T1.out.trans0 HD.out.base).cell hc (fun h => h)
          obtain ⟨t, ht, ht1, ht2⟩ : ∃ t, z.tmod 700 = t ∧ -700 < t ∧ t < 700 := ⟨_, rfl, tmod_700 z⟩
          obtain ⟨nn, hnn, hn7⟩ : ∃ nn : Nat, (t + 700).tmod 700 = (nn : Int) ∧ nn < 700 := by
            rw [Int.tmod_eq_emod_of_nonneg (by omega)]
            exact ⟨((t + 700) % 700).toNat, by omega, by omega⟩
          obtain ⟨q, hq, hq4⟩ : ∃ q : Nat, (j : Int).tmod 4 = (q : Int) ∧ q < 4 := by
            rw [Int.tmod_eq_emod_of_nonneg (by omega)]
            exact ⟨j % 4, by omega, by omega⟩
          have hq9 : IntKind.i64.wrap (97 + (q : Int)) = 97 + (q : Int) := IntWalk.i64_in _ (by omega)
          have hq8 : IntKind.u8.wrap (97 + (q : Int)) = 97 + (q : Int) := by rw [IntKind.wrap_u8]; omega
          have HC := Lib.hid hc
          clear hc
          go_wp2_with fail
          have hmk1 := fun W => (hmk.out W nn (by omega)).1
          obtain ⟨Z, hZZ⟩ : ∃ Z : Obj, zrow nn = Z := ⟨_, rfl⟩
          have hmk2 := fun W => (hmk.out W nn (by omega)).2
          rw [hZZ] at hmk1 hmk2
          obtain ⟨c, hcc⟩ : ∃ c, UInt8.ofNat (97 + q) = c := ⟨_, rfl⟩
          obtain ⟨A, hAA⟩ : ∃ A : Obj, (.cells #[.int .u8 (97 + (q : Int))] 5) = A := ⟨_, rfl⟩
          have O := fun W : World => one_str W q 5 hq4
          rw [hcc, hAA] at O
          have hs1 := (O wr).tch0 (Tch.drew _)
          have hs2 := ((O wr).tch0 (Tch.alloc _ Z)).tch0 (Tch.drew _)
          have hs3 := (O (wr.alloc Z)).tch0 (Tch.drew _)
          have hz1 := (hmk2 (wr.alloc A)).tch0 (Tch.drew _)
          have hz2 := ((hmk2 wr).tch0 (Tch.alloc _ A)).tch0 (Tch.drew _)
          have hsz1 : (wr.alloc A).heap.size = wr.heap.size + 1 := by simp
          have hsz2 : (wr.alloc Z).heap.size = wr.heap.size + 1 := by simp
          rw [hsz1] at hz1
          rw [hsz2] at hs3
          have hst1 := hs1.str (P := Try.prog) Try.underlying30 Try.underlying5 Try.underlying9
          have hst2 := hs2.str (P := Try.prog) Try.underlying30 Try.underlying5 Try.underlying9
          have hst3 := hs3.str (P := Try.prog) Try.underlying30 Try.underlying5 Try.underlying9
          have HA := Lib.hid (room_app HD.out q nn hn7 (by omega) (((Tch.alloc wr A).trans0 (Tch.alloc _ Z)).trans0 (Tch.drew _)) hz1 (by omega))
          have HB := Lib.hid (room_app HD.out q nn hn7 (by omega) (((Tch.alloc wr Z).trans0 (Tch.alloc _ A)).trans0 (Tch.drew _)) hz2 (by omega))
          have hgq := Lib.hid (goodB_one hq4)
          rw [hcc] at HA HB hgq
          rw [← hAA] at hst1 hst2 hst3 HA HB
          clear hs1 hs2 hs3 hz1 hz2 hsz1 hsz2 O hcc hAA hmk2 hZZ
          go_region_with ((first | (go_at_call 21; with_reducible refine HA.out.mono ?_; rintro e wq ⟨r, M', rfl, hr1, hr2, hr3⟩) | (go_at_call 21; with_reducible refine HB.out.mono ?_; rintro e wq ⟨r, M', rfl, hr1, hr2, hr3⟩)))
          all_goals
            clear hst1 hst2 hst3 HA HB
            have hnd := Lib.hid HD.out.nodup
            rcases Nat.lt_or_ge Rn (m + nn) with hf | hf
            · have e : mAppend M Rn [c] (List.replicate nn 0) = (5, M) := by rw [mAppend, if_neg (by rw [hgq.out]; simp), if_pos (by rw [List.length_replicate, ← hm.out]; exact hf)]
              obtain rfl : r = 5 := by rw [hr1.out, e]; rfl
              obtain rfl : M' = M := by rw [hr2.out, e]
              clear hr1 hr2 HD e
              have d1 : ¬ ((nn : Int) ≤ (Rn : Int) - (m : Int)) := by omega
              go_wp2
              exact ⟨⟨j + 1, m, M', by omega, by omega, by go_num, rfl, hm, hmR, by omega, hr3⟩, by simp [intOf]; omega⟩
            · have e : mAppend M Rn [c] (List.replicate nn 0) = (0, mAppL M [c] (List.replicate nn 0)) := by rw [mAppend, if_neg (by rw [hgq.out]; simp), if_neg (by rw [List.length_replicate, ← hm.out]; omega)]
              obtain rfl : r = 0 := by rw [hr1.out, e]; rfl
              obtain rfl : M' = mAppL M [c] (List.replicate nn 0) := by rw [hr2.out, e]
              have hm' : Hid (m + nn = mUsed (mAppL M [c] (List.replicate nn 0))) := by rw [Hid, mUsed_app hnd.out, ← hm.out, List.length_replicate]
              have hl' := mAppL_len M [c] (List.replicate nn 0)
              obtain ⟨M', hM'⟩ : ∃ M', mAppL M [c] (List.replicate nn 0) = M' := ⟨_, rfl⟩
              rw [hM'] at hm' hl' hr3
              clear hr1 hr2 HD e hM'
              have d1 : (nn : Int) ≤ (Rn : Int) - (m : Int) := by omega
              go_wp2
              exact ⟨⟨j + 1, m + nn, M', by omega, by omega, by go_num, by go_num, hm', by omega, by omega, hr3⟩, by simp [intOf]; omega⟩
        · go_wp2_with fail
          refine (dst_used HD.out (by omega)).mono ?_
          rintro e w' ⟨rfl, h'⟩
          rw [← hm.out]
          have HF := Lib.hid (T1.out.trans0 h'.base)
          clear h' HD
          go_wp2
          go_ret
          exact ⟨rfl, HF.out.below0⟩
      · go_wp2_with fail
        refine (dst_used HD.out (by omega)).mono ?_
        rintro e w' ⟨rfl, h'⟩
        rw [← hm.out]
        have HF := Lib.hid (T1.out.trans0 h'.base)
        clear h' HD
        go_wp2
        go_ret
        exact ⟨rfl, HF.out.below0⟩
  · have hmax := hR.out (a0) (by omega)
    have hRl : roomOf (a0) ≤ 1048576 := by unfold roomOf; omega
    have hnew := Lib.hid (dst_new (a0) w1)
    obtain ⟨Rn, hRn⟩ : ∃ n, roomOf (a0) = n := ⟨_, rfl⟩
    rw [hRn] at hmax hRl hnew
    clear hRn hR
    go_wp2_with fail
    refine hnew.out.mono ?_
    rintro e w4 ⟨db, mb, rfl, h4⟩
    have H4 := Lib.hid h4; clear h4
    go_wp2_with fail
    go_loopw [7, 8] (fun u i wr => ∃ (j m : Nat) (M : List FE), j ≤ len1 ∧ j ≤ 30 ∧ i = .int .i64 j ∧ u = .int .i64 m ∧ Hid (m = mUsed M) ∧ m ≤ Rn ∧ M.length ≤ j ∧ Hid (DSt w1 wr db mb Rn M [])) (fun _ i _ => 30 - (intOf i).toNat)
    case atStart => exact ⟨0, 0, [], by omega, by omega, rfl, rfl, rfl, by omega, by simp, H4⟩
    case round =>
      obtain ⟨j, m, M, hj1, hj2, rfl, rfl, hm, hmR, hML, HD⟩ := hrel
      by_cases g1 : j < len1
      · by_cases g2 : j < 30
        · obtain ⟨x, z, hx, hc⟩ := Hcell.out j g1
          subst hx
          have hc' := (T1.out.trans0 HD.out.base).cell hc (fun h => h)
          obtain ⟨t, ht, ht1, ht2⟩ : ∃ t, z.tmod 700 = t ∧ -700 < t ∧ t < 700 := ⟨_, rfl, tmod_700 z⟩
          obtain ⟨nn, hnn, hn7⟩ : ∃ nn : Nat, (t + 700).tmod 700 = (nn : Int) ∧ nn < 700 := by
            rw [Int.tmod_eq_emod_of_nonneg (by omega)]
            exact ⟨((t + 700) % 700).toNat, by omega, by omega⟩
          obtain ⟨q, hq, hq4⟩ : ∃ q : Nat, (j : Int).tmod 4 = (q : Int) ∧ q < 4 := by
            rw [Int.tmod_eq_emod_of_nonneg (by omega)]
            exact ⟨j % 4, by omega, by omega⟩
          have hq9 : IntKind.i64.wrap (97 + (q : Int)) = 97 + (q : Int) := IntWalk.i64_in _ (by omega)
          have hq8 : IntKind.u8.wrap (97 + (q : Int)) = 97 + (q : Int) := by rw [IntKind.wrap_u8]; omega
          have HC := Lib.hid hc
          clear hc
          go_wp2_with fail
          have hmk1 := fun W => (hmk.out W nn (by omega)).1
          obtain ⟨Z, hZZ⟩ : ∃ Z : Obj, zrow nn = Z := ⟨_, rfl⟩
          have hmk2 := fun W => (hmk.out W nn (by omega)).2
          rw [hZZ] at hmk1 hmk2
          obtain ⟨c, hcc⟩ : ∃ c, UInt8.ofNat (97 + q) = c := ⟨_, rfl⟩
          obtain ⟨A, hAA⟩ : ∃ A : Obj, (.cells #[.int .u8 (97 + (q : Int))] 5) = A := ⟨_, rfl⟩
          have O := fun W : World => one_str W q 5 hq4
          rw [hcc, hAA] at O
          have hs1 := (O wr).tch0 (Tch.drew _)
          have hs2 := ((O wr).tch0 (Tch.alloc _ Z)).tch0 (Tch.drew _)
          have hs3 := (O (wr.alloc Z)).tch0 (Tch.drew _)
          have hz1 := (hmk2 (wr.alloc A)).tch0 (Tch.drew _)
          have hz2 := ((hmk2 wr).tch0 (Tch.alloc _ A)).tch0 (Tch.drew _)
          have hsz1 : (wr.alloc A).heap.size = wr.heap.size + 1 := by simp
          have hsz2 : (wr.alloc Z).heap.size = wr.heap.size + 1 := by simp
          rw [hsz1] at hz1
          rw [hsz2] at hs3
          have hst1 := hs1.str (P := Try.prog) Try.underlying30 Try.underlying5 Try.underlying9
          have hst2 := hs2.str (P := Try.prog) Try.underlying30 Try.underlying5 Try.underlying9
          have hst3 := hs3.str (P := Try.prog) Try.underlying30 Try.underlying5 Try.underlying9
          have HA := Lib.hid (room_app HD.out q nn hn7 (by omega) (((Tch.alloc wr A).trans0 (Tch.alloc _ Z)).trans0 (Tch.drew _)) hz1 (by omega))
          have HB := Lib.hid (room_app HD.out q nn hn7 (by omega) (((Tch.alloc wr Z).trans0 (Tch.alloc _ A)).trans0 (Tch.drew _)) hz2 (by omega))
          have hgq := Lib.hid (goodB_one hq4)
          rw [hcc] at HA HB hgq
          rw [← hAA] at hst1 hst2 hst3 HA HB
          clear hs1 hs2 hs3 hz1 hz2 hsz1 hsz2 O hcc hAA hmk2 hZZ
          go_region_with ((first | (go_at_call 21; with_reducible refine HA.out.mono ?_; rintro e wq ⟨r, M', rfl, hr1, hr2, hr3⟩) | (go_at_call 21; with_reducible refine HB.out.mono ?_; rintro e wq ⟨r, M', rfl, hr1, hr2, hr3⟩)))
          all_goals
            clear hst1 hst2 hst3 HA HB
            have hnd := Lib.hid HD.out.nodup
            rcases Nat.lt_or_ge Rn (m + nn) with hf | hf
            · have e : mAppend M Rn [c] (List.replicate nn 0) = (5, M) := by rw [mAppend, if_neg (by rw [hgq.out]; simp), if_pos (by rw [List.length_replicate, ← hm.out]; exact hf)]
              obtain rfl : r = 5 := by rw [hr1.out, e]; rfl
              obtain rfl : M' = M := by rw [hr2.out, e]
              clear hr1 hr2 HD e
              have d1 : ¬ ((nn : Int) ≤ (Rn : Int) - (m : Int)) := by omega
              go_wp2
              exact ⟨⟨j + 1, m, M', by omega, by omega, by go_num, rfl, hm, hmR, by omega, hr3⟩, by simp [intOf]; omega⟩
            · have e : mAppend M Rn [c] (List.replicate nn 0) = (0, mAppL M [c] (List.replicate nn 0)) := by rw [mAppend, if_neg (by rw [hgq.out]; simp), if_neg (by rw [List.length_replicate, ← hm.out]; omega)]
              obtain rfl : r = 0 := by rw [hr1.out, e]; rfl
              obtain rfl : M' = mAppL M [c] (List.replicate nn 0) := by rw [hr2.out, e]
              have hm' : Hid (m + nn = mUsed (mAppL M [c] (List.replicate nn 0))) := by rw [Hid, mUsed_app hnd.out, ← hm.out, List.length_replicate]
              have hl' := mAppL_len M [c] (List.replicate nn 0)
              obtain ⟨M', hM'⟩ : ∃ M', mAppL M [c] (List.replicate nn 0) = M' := ⟨_, rfl⟩
              rw [hM'] at hm' hl' hr3
              clear hr1 hr2 HD e hM'
              have d1 : (nn : Int) ≤ (Rn : Int) - (m : Int) := by omega
              go_wp2
              exact ⟨⟨j + 1, m + nn, M', by omega, by omega, by go_num, by go_num, hm', by omega, by omega, hr3⟩, by simp [intOf]; omega⟩
        · go_wp2_with fail
          refine (dst_used HD.out (by omega)).mono ?_
          rintro e w' ⟨rfl, h'⟩
          rw [← hm.out]
          have HF := Lib.hid (T1.out.trans0 h'.base)
          clear h' HD
          go_wp2
          go_ret
          exact ⟨rfl, HF.out.below0⟩
      · go_wp2_with fail
        refine (dst_used HD.out (by omega)).mono ?_
        rintro e w' ⟨rfl, h'⟩
        rw [← hm.out]
        have HF := Lib.hid (T1.out.trans0 h'.base)
        clear h' HD
        go_wp2
        go_ret
        exact ⟨rfl, HF.out.below0⟩

/-! ### THE ROW's STEP: WRITTEN OUT: LEAVE IT -/
set_option maxRecDepth 100000 in
theorem lifted (os : Os) (started : os.Started) (H : Type) (enc : TypeId × Value → H) :
    ReturnsInHanded {} Try.checked os 5 .any (Rows.fileRoomSpec.pre6 enc Try.prog Try.f5 Rows.fileRoomRow.domain false) (Rows.fileRoomSpec.post enc Try.prog Try.f5 false true false false) := by
  refine returnsInHanded_of_change (C := Try.checked) own started (by kernel_rfl) Try.func5
    (ChangeSpec.witness6 (enc := enc) (C := Try.checked) false ⟨#[], #[.int .i64 0, .slice none 0 0], []⟩ 8 (by kernel_rfl) (by kernel_rfl) (by kernel_rfl) (by kernel_rfl)) ?_
  intro W base args ds gs before hval0 hW hcnd _
  have hval : ∀ (j : Nat) t v, Try.f5.params[j]? = some t → args[j]? = some v → Value.okWide Try.prog W .any base t v := hval0
  have hW' := hW
  obtain ⟨p, q, hA0, hV, rfl, hfz, hnd⟩ := hW
  have hA : DataW.TrodAll enc Try.prog W 0 (fun _ => true) true Try.f5.params.toList args.toList ds p := hA0
  rw [Try.params5] at hA hval
  obtain ⟨v0, vs0, d0, ds0, p0, q0, hargs, rfl, rfl, h0, r0⟩ := trodAll_cons hA
  obtain ⟨v1, vs1, d1, ds1, p1, q1, rfl, rfl, rfl, h1, r1⟩ := trodAll_cons r0
  obtain ⟨rfl, rfl, rfl⟩ := trodAll_nil r1
  obtain rfl : args = #[v0, v1] := by cases args; simp_all
  obtain ⟨rfl, rfl⟩ := trodVars_none hV
  obtain ⟨a0, rfl, rfl, rfl, w0⟩ := open_int Try.underlying3 (hval 0 3 v0 rfl rfl) h0
  obtain ⟨a1, len1, cap1, rfl⟩ := okWide_slice Try.underlying36 (hval 1 36 v1 rfl rfl)
  have k1 := h1
  have lt1 : ∀ x ∈ p1, x.block < W.heap.size := by obtain ⟨m, hm⟩ := k1; exact DataW.trod_lt m _ _ _ hm
  obtain ⟨z1, w1⟩ : ∃ zs, IsRow .i64 W a1 len1 cap1 zs := by
    obtain ⟨fuel, hf⟩ := h1
    rcases open_ints Try.underlying36 Try.underlying3 (by kernel_rfl) hf with ⟨hcs, _⟩ | ⟨x, l, c, zs, hcs, _, hl, hm, hz, _, hcell, hwz⟩
    · simp [Value.cells] at hcs
      obtain ⟨rfl, rfl, rfl⟩ := hcs
      exact ⟨[], .inl ⟨rfl, rfl, rfl, rfl⟩⟩
    · simp [Value.cells] at hcs
      obtain ⟨rfl, rfl, rfl⟩ := hcs
      exact ⟨zs, .inr ⟨_, rfl, hl, hm, by simpa using hz, hcell, hwz⟩⟩
  clear hA0 hval0
  refine (walk a0 a1 len1 cap1 z1 W w0 w1).mono fun e W' ⟨he, bel⟩ => ?_
  subst he
  exact ⟨_, rfl, _, _, _, [], _, [], hW', trodAll_mk1 (shut_bool Try.underlying4 _), (trodAll_cons_mk (shut_int Try.underlying3 w0) (trodAll_cons_mk (Below.trod laidOut (by kernel_rfl) (of_decide_eq_true (by kernel_rfl)) k1 bel lt1) trodAll_mk0)), rfl, bel.frame _, fun h => by cases h⟩

theorem over : Rows.fileRoomRow.holds Try.pinned (OpenSpec.ofChange Rows.fileRoomSpec) :=
  OpenClaim.holds_of_wide 5 Try.f5 rfl rfl rfl rfl rfl rfl rfl ⟨rfl, rfl, rfl, rfl, rfl⟩ rfl rfl rfl rfl rfl (by kernel_rfl) Try.func5 (by kernel_rfl)
    (of_decide_eq_true (by kernel_rfl)) (by unfold Func.isWrapper; first | (rw [if_pos (by decide +kernel)]; kernel_rfl) | (rw [if_neg (by decide +kernel)]; exact ⟨rfl, rfl⟩))
    (fun os started H enc _ => lifted os started H enc)

/--  THE STATEMENT  -/
theorem proved : Rows.FileRoomSaid := over
#print axioms proved
end Go.Proofs.Ytbhemlddncmmfaa.fileRoom
