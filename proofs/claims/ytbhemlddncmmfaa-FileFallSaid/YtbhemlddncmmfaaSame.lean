/- same: a disk and the document's disk that hold the same files tell the same. No condition. -/
import Derived.Test.YtbhemlddncmmfaaRef6
import Derived.Test.YtbhemlddncmmfaaDst
import Derived.WalkLawsBesides
import Derived.BigQuiet
import Derived.Deep.DeepCutAuto
namespace Go.Proofs.Ytbhemlddncmmfaa
open Go.RowKit Go.Maps
set_option linter.unusedVariables false
set_option linter.unusedSimpArgs false

theorem quiet_l {P : Program} {f : FuncId} {args : Array Value} {w : World} {n : Nat} {v : Value}
    (h : Calls P f args (w.drewN n) fun e w' => e = .returned v ∧ w.drewN n = w') : Calls P f args (w.drewN n) fun e w'' => e = .returned v ∧ ∃ m, w'' = w.drewN m :=
  h.mono fun _ _ ⟨he, hm⟩ => ⟨he, n, hm.symm⟩

theorem sortN_sorted {l : List Key} (h : l.Nodup) {i : Nat} (hi : i + 1 < (sortN l).length) : ¬ (sortN l)[i + 1] ≤ (sortN l)[i] := by
  have hp : (sortN l).Pairwise (fun x y => decide (x ≤ y) = true) := List.pairwise_mergeSort (fun a b c hab hbc => by simp at *; exact List.le_trans hab hbc) (fun a b => by simp; exact List.le_total a b) l
  have h1 := (List.pairwise_iff_getElem.1 hp) i (i + 1) (by omega) hi (by omega)
  have hn : (sortN l).Nodup := (sortN_perm l).nodup_iff.2 h
  have h2 := (List.pairwise_iff_getElem.1 hn) i (i + 1) (by omega) hi (by omega)
  intro q
  simp at h1
  exact h2 (List.le_antisymm h1 q)

/-- The copy of an entry in a block of its own. -/
def FBlk (w wx : World) (nR : ByteArray) (vb : Value) (s0 : Nat) (bn : Bool) : Prop :=
  wx.heap[w.heap.size]? = some (.cells #[.string nR, vb, .int .i64 (s0 : Int), .bool bn] 63 (0, 0)) ∧ Tch No w wx
theorem FBlk.mk {w wx : World} {nR : ByteArray} {vb : Value} {s0 : Nat} {bn : Bool} (h : Tch No (w.alloc (.cells #[.string nR, vb, .int .i64 (s0 : Int), .bool bn] 63)) wx) : FBlk w wx nR vb s0 bn :=
  ⟨blk_tch h (blk_new w _) (fun h => h), (Tch.alloc w _).trans0 h⟩
/-- What is known of the k-th name. -/
theorem same_at {w : World} {rb room : Nat} {v : Value} {R : List RE} (h : IsRef w rb room v R) {n : Key} (hn : n ∈ names (R.map (·.f))) :
    ∃ p, ∃ hp : p < R.length, atI (R.map (·.f)) n = (p : Int) ∧ R[p].f.name = n ∧ mGet (R.map (·.f)) n = some R[p].f := by
  rcases at_split (R.map (·.f)) n with ⟨i, hi, h1, h2, h3⟩ | ⟨_, h2⟩
  · exact ⟨i, by simpa using hi, h1, by simpa using h2, by simpa using h3⟩
  · exact absurd hn (mGet_none h2)

set_option maxRecDepth 100000 in
set_option maxHeartbeats 4000000 in
theorem same_any (db mb room : Nat) (L : List FL) (rb room2 : Nat) (v : Value) (R : List RE) (w : World) (h : IsDisk w db mb room L) (hr : IsRef w rb room2 v R) (he : R.map (·.f) = L.map (·.f)) (hcnt : L.length ≤ 999999) :
    Calls Try.prog 18 #[.pointer (some ⟨db, 0, none⟩), .pointer (some ⟨rb, 0, none⟩)] w fun e w' => e = .returned (.bool true) ∧ Tch No w w' := by
  have H := Lib.hid h
  have HR := Lib.hid hr
  have HE := Lib.hid he
  have hND := Lib.hid (nd_map hr.nodup)
  have hlen : R.length = L.length := by have := congrArg List.length he; simpa using this
  obtain ⟨aR, mR, cR, hv, hmR⟩ := own_shape' hr.row
  have hcn : Hid (L.length ≤ 1000000) := by rw [Hid]; omega
  have hmc : mR ≤ cR := by
    obtain ⟨a', c', e, h1, h2⟩ := own_shape hr.row
    rw [hv] at e
    injection e with e1 e2 e3
    omega
  obtain ⟨u, hu⟩ : ∃ u, Hid (mUsed (L.map (·.f)) = u) := ⟨_, rfl⟩
  have hUs : Hid (∀ W, Tch No w W → Calls Try.prog 22 #[.pointer (some ⟨db, 0, none⟩)] W fun e w' => e = .returned (.int .i64 (u : Nat)) ∧ Tch No W w') := fun W hW => by
    have := used_any db mb room L W (H.out.tch0 hW) hcn.out
    rw [hu.out] at this; exact this
  have hUr : Hid (∀ W, Tch No w W → Calls Try.prog 36 #[.pointer (some ⟨rb, 0, none⟩)] W fun e w' => e = .returned (.int .i64 (u : Nat)) ∧ W = w') := fun W hW => by
    have := rused_any rb room2 v R W (HR.out.tch0 hW) (by rw [hlen]; exact hcn.out)
    rw [HE.out, hu.out] at this; exact this
  have hnm := Lib.hid (names_any db mb room L w h hcn.out)
  have hml : mR ≤ 999999 := by rw [hmR.out, hlen]; exact hcnt
  have HLEN := Lib.hid hlen
  clear h hr he hlen hcnt
  subst hv
  have c1 := HR.out.cell1
  go_enter Try.func18, Try.ntmps18
  go_wp2_with fail
  refine hnm.out.mono ?_
  rintro e w1 ⟨vn, rfl, q1, q2⟩
  obtain ⟨ks, hks⟩ : ∃ ks, Hid (sortN (names (L.map (·.f))) = ks) := ⟨_, rfl⟩
  rw [hks.out] at q1
  have Q1 := Lib.hid q1
  have Q2 := Lib.hid q2
  have hkl : ks.length = mR := by
    rw [← hks.out, hmR.out, HLEN.out]; simp [sortN, names]
  obtain ⟨an, mn, cn, rfl, hmn⟩ := own_shape' q1
  have hmn' : mn = mR := hmn.out.trans hkl
  subst hmn'
  have HKL := Lib.hid hkl
  have c1' := q2.cell c1 (fun h => h)
  clear q1 q2 c1 hkl
  go_wp2_with (first
    | (go_at_call 22; go_must (refine (hUs.out _ Q2.out).mono ?_); rintro e w2 ⟨rfl, t2⟩; have T2 := Lib.hid (Q2.out.trans0 t2); have T12 := Lib.hid t2; clear t2)
    | (go_at_call 36; go_must (refine (hUr.out _ T2.out).mono ?_); rintro e w3 ⟨rfl, rfl⟩))
  go_loopg [6] mn (fun gk i wr => ∃ k : Nat, k ≤ mn ∧ gk = mn - k ∧ i = .int .i64 k ∧ Hid (Tch No w1 wr))
  case atStart => exact ⟨0, by omega, by omega, rfl, T12⟩
  case round =>
    obtain ⟨k, hk, hgk, rfl, hW⟩ := hrel
    have T := Lib.hid (Q2.out.trans0 hW.out)
    by_cases hlt : k < mn
    · have hkk : k < ks.length := by rw [HKL.out]; exact hlt
      have hnr : Hid (∀ i (hi : i < ks.length), ∃ g cap, Value.slice an mn cn = .slice (some ⟨g, 0, none⟩) ks.length cap ∧ wr.cell? ⟨g, i, none⟩ = some (.string ⟨ks[i].toArray⟩)) := by
        intro i hi
        obtain ⟨g, cap, e, hc⟩ := Q1.out.cell hi
        exact ⟨g, cap, e, hW.out.cell hc (fun h => h)⟩
      obtain ⟨g, cap', hsl, hc⟩ := hnr.out k hkk
      simp only [Value.slice.injEq] at hsl
      obtain ⟨rfl, hq, rfl⟩ := hsl
      clear hq
      have hmem : ks[k] ∈ names (R.map (·.f)) := by rw [HE.out]; exact (sortN_perm _).mem_iff.1 (by rw [hks.out]; exact List.getElem_mem hkk)
      obtain ⟨p, hp, hat, hpn, hpg⟩ := same_at HR.out hmem
      obtain ⟨gR, cR', hsl, k0, k1, k2, k3⟩ := (HR.out.tch0 T.out).at_ hp
      simp only [Value.slice.injEq] at hsl
      obtain ⟨rfl, hq, rfl⟩ := hsl
      clear hq
      have cR1 := (HR.out.tch0 T.out).cell1
      obtain ⟨sk, hsk⟩ : ∃ sk : ByteArray, (⟨ks[k].toArray⟩ : ByteArray) = sk := ⟨_, rfl⟩
      rw [hsk] at hc
      have hskd : Hid (sk.data.toList = ks[k]) := by rw [← hsk]; simp [Hid]
      have hAt : Hid (∀ W, Tch No wr W → Calls Try.prog 37 #[.pointer (some ⟨rb, 0, none⟩), .string sk] W fun e w' => e = .returned (.int .i64 (p : Int)) ∧ W = w') := by
        intro W hWW
        have := at_any rb room2 _ R sk W (HR.out.tch0 (T.out.trans0 hWW)) (by have := hmR.out; omega)
        rw [hskd.out, hat] at this
        exact this
      have hpm : p < mn := by rw [hmR.out]; exact hp
      have p1 : (p : Int) < (mn : Int) := by omega
      have p2 : (0 : Int) ≤ (p : Int) := by omega
      have i1 : (k : Int) < (mn : Int) := by omega
      have i2 : (0 : Int) ≤ (k : Int) := by omega
      have d1 : decide ((p : Int) < 0) = false := by simp
      obtain ⟨f, hf⟩ : ∃ f, R[p].f = f := ⟨R[p].f, rfl⟩
      have hB := (HR.out.tch0 T.out).bts _ (List.getElem_mem hp)
      rw [hf] at k0 k2 k3 hB hpn hpg
      obtain ⟨a0, m0, cap0, hv0, hm0⟩ := hB.shape'
      rw [hv0] at k1 hB
      have HB := Lib.hid hB
      obtain ⟨s0, hs0⟩ : ∃ s0, f.sure = s0 := ⟨f.sure, rfl⟩
      obtain ⟨bn, hbn⟩ : ∃ bn, f.named = bn := ⟨f.named, rfl⟩
      obtain ⟨nR, hnR⟩ : ∃ nR : ByteArray, (⟨f.name.toArray⟩ : ByteArray) = nR := ⟨_, rfl⟩
      rw [hnR] at k0
      rw [hs0] at k2
      rw [hbn] at k3
      have HS0 := Lib.hid hs0
      have HMG : Hid (mGet (L.map (·.f)) sk.data.toList = some f) := by rw [Hid, ← HE.out, hskd.out]; exact hpg
      have hSK : Hid (sk.size ≤ maxLen) := by
        have h1 := HR.out.nlen _ (List.getElem_mem hp)
        rw [hf, hpn, ← hskd.out] at h1
        have h2 : sk.size = sk.data.toList.length := (Array.length_toList (xs := sk.data)).symm
        rw [Hid, h2]; unfold lim at h1; simp only [maxLen]; omega
      have HPG := Lib.hid hpg
      have hSu : Hid (∀ W, Tch No w W → Calls Try.prog 32 #[.pointer (some ⟨db, 0, none⟩), .string sk] W fun e w' => e = .returned (.int .i64 (s0 : Int)) ∧ W = w') := fun W hWW => by
        have h1 := sure_any db mb room L sk W (H.out.tch0 hWW) hSK.out
        have h2 : mSure (L.map (·.f)) sk.data.toList = s0 := by unfold mSure; rw [HMG.out]; exact HS0.out
        rw [h2] at h1; exact h1
      have n1 : wr.heap.size ≠ gR := World.new_ne wr _ k1
      have n2 : wr.heap.size ≠ g := World.new_ne wr _ hc
      have n3 : wr.heap.size ≠ rb := World.new_ne wr _ cR1
      clear hB hv0 hm0 hs0 hbn hnR hat hpn hpg hmem
      go_upto_region 7 with fail
      go_cut [55] from 27 to 97 (fun s55 wx => s55 = .bool false ∧ Hid (Tch No wr wx))
      case first =>
        by_cases hz : k = 0
        · have d0 : decide ((0 : Int) < (k : Int)) = false := by simp [hz]
          have d0' : decide (0 < k) = false := by simp; omega
          clear hz hsk
          go_quiet ((go_at_call 37; exact quiet_l (hAt.out _ (tch_drewN _ _))))
          go_wp2_with fail
          go_meet
          exact ⟨rfl, tch_drewN _ _⟩
        · obtain ⟨j, hj⟩ : ∃ j, k = j + 1 := ⟨k - 1, by omega⟩
          have hjk : j < ks.length := by omega
          obtain ⟨g', cap2, hsl, hcj⟩ := hnr.out j hjk
          simp only [Value.slice.injEq, Option.some.injEq, Addr.mk.injEq, and_true] at hsl
          obtain ⟨rfl, hq, rfl⟩ := hsl
          clear hq
          obtain ⟨sj, hsj⟩ : ∃ sj : ByteArray, (⟨ks[j].toArray⟩ : ByteArray) = sj := ⟨_, rfl⟩
          rw [hsj] at hcj
          have hord : Hid (¬ sk.data.toList ≤ sj.data.toList) := by
            have e1 : sj.data.toList = ks[j] := by rw [← hsj]
            rw [Hid, hskd.out, e1]
            have h5 := sortN_sorted (l := names (L.map (·.f))) (by rw [← HE.out]; exact hND.out) (i := j) (by rw [hks.out]; omega)
            simp only [hks.out] at h5
            subst hj
            exact h5
          have d0 : decide ((0 : Int) < (k : Int)) = true := by simp only [decide_eq_true_eq]; omega
          have d0' : decide (0 < k) = true := by simp only [decide_eq_true_eq]; omega
          have E1 : IntKind.i64.wrap ((k : Int) - 1) = (j : Int) := by rw [IntWalk.i64_in _ ⟨by omega, by omega⟩]; omega
          have j1 : (j : Int) < (mn : Int) := by omega
          have j2 : (0 : Int) ≤ (j : Int) := by omega
          have hb1 : Op.bytesLess sk.toList sj.toList = false := by
            rw [Go.Proofs.bytesLess_eq, ByteArray.toList_eq, ByteArray.toList_eq, decide_eq_false_iff_not]
            exact fun q => hord.out (List.le_of_lt q)
          have hb2 : (sk.toList == sj.toList) = false := by
            rw [beq_eq_false_iff_ne, ByteArray.toList_eq, ByteArray.toList_eq]
            exact fun q => hord.out (by rw [q]; exact List.le_refl _)
          clear hz hsk hsj hj
          go_quiet ((go_at_call 37; exact quiet_l (hAt.out _ (tch_drewN _ _))))
          go_wp2_with fail
          go_meet
          exact ⟨rfl, tch_drewN _ _⟩
      case rest =>
        obtain ⟨rfl, TW⟩ := hcut
        obtain ⟨wd, rfl⟩ : ∃ wd : World, wd = wc := ⟨_, rfl⟩
        have hc' := TW.out.cell hc (fun h => h)
        have k0' := TW.out.cell k0 (fun h => h)
        have k1' := TW.out.cell k1 (fun h => h)
        have k2' := TW.out.cell k2 (fun h => h)
        have k3' := TW.out.cell k3 (fun h => h)
        have cR1' := TW.out.cell cR1 (fun h => h)
        clear hc k0 k1 k2 k3 cR1 n1 n2 n3
        have hcc := cal hc'
        have k0c := cal k0'
        have k1c := cal k1'
        have k2c := cal k2'
        have k3c := cal k3'
        have cRc := cal cR1'
        go_upto_region 9 with fail
        go_cut [7] from 27 to 97 (fun s7 wx => s7 = .pointer (some ⟨wd.heap.size, 0, none⟩) ∧ Hid (FBlk wd wx nR (.slice a0 m0 cap0) s0 bn))
        case first =>
          go_region_with (go_at_call 37; refine (hAt.out _ (TW.out.trans0 (by first | exact ⟨rfl, rfl, rfl, Nat.le_refl _, fun _ _ _ => rfl⟩ | exact (Tch.alloc _ _).trans0 (Tch.drew _) | exact Tch.trans0 (b := _) ⟨rfl, rfl, rfl, Nat.le_refl _, fun _ _ _ => rfl⟩ (Tch.alloc _ _)))).mono ?_; rintro e w9 ⟨rfl, rfl⟩)
          all_goals
            try go_wp2_with fail
            go_meet
            exact ⟨rfl, FBlk.mk ⟨rfl, rfl, rfl, Nat.le_refl _, fun _ _ _ => rfl⟩⟩
        case rest =>
          obtain ⟨rfl, FB⟩ := hcut
          clear hcc k0c k1c k2c k3c cRc
          have g1 := blk_cell FB.out.1 1
          have g2 := blk_cell FB.out.1 2
          simp only [List.getElem?_toArray, List.getElem?_cons_zero, List.getElem?_cons_succ] at g1 g2
          have hcw := FB.out.2.cell hc' (fun h => h)
          have TZ := Lib.hid (TW.out.trans0 FB.out.2)
          have TA := Lib.hid (T.out.trans0 TZ.out)
          clear hc' k0' k1' k2' k3' cR1'
          have hrd := Lib.hid (dread_any db mb room L sk wc (H.out.tch0 TA.out) hSK.out)
          go_wp2_with fail
          refine hrd.out.mono ?_
          rintro e wz ⟨vv, rfl, z1, z2, z3⟩
          rw [HMG.out] at z1 ⊢
          simp only [Option.isSome_some]
          have Z1 : Hid (SlB wz vv f.b) := z1
          obtain ⟨av, mv, cv, rfl, hmv⟩ := Z1.out.shape'
          have g1z := z3.cell g1 (fun h => h)
          have g2z := z3.cell g2 (fun h => h)
          have hcz := z3.cell hcw (fun h => h)
          have Z3 := Lib.hid z3
          have cx := fun n => (Z1.out.tch0 (tch_drewN wz n)).str (P := Try.prog) Try.underlying30 Try.underlying5 Try.underlying9
          have cy := fun n => (HB.out.tch0 ((TZ.out.trans0 z3).trans0 (tch_drewN wz n))).str (P := Try.prog) Try.underlying30 Try.underlying5 Try.underlying9
          obtain ⟨sb, hsb⟩ : ∃ sb : ByteArray, (⟨f.b.toArray⟩ : ByteArray) = sb := ⟨_, rfl⟩
          rw [hsb] at cx cy
          clear z1 z2 z3 g1 g2 hcw hmv hsb
          go_wp2_with fail
          go_quiet ((go_at_call 32; exact quiet_l (hSu.out _ (TA.out.trans0 (Z3.out.trans0 (tch_drewN _ _))))))
          go_wp2_with fail
          go_roundg (mn - (k + 1))
          case measure => omega
          case rel => exact ⟨k + 1, by omega, rfl, by go_num, ((hW.out.trans0 TZ.out).trans0 Z3.out).trans0 (tch_drewN _ _)⟩
    · go_wp2
      go_ret
      exact ⟨rfl, T.out⟩
end Go.Proofs.Ytbhemlddncmmfaa
