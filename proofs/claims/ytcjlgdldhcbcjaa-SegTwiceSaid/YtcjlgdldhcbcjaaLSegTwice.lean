/- SegTwice: the law SegTwice returns true for every input, and each argument reads behind the call as it read before. No condition. The frame is the kit's proof-skeleton. -/
import Derived.Test.YtcjlgdldhcbcjaaRows
import Derived.WalkKit
import Derived.ProofKit
import Derived.OpenShut
import Derived.ShutString
import Derived.ChangeOld
import Derived.Below
import Derived.Test.YtcjlgdldhcbcjaaBeg3
import Derived.Test.YtcjlgdldhcbcjaaSegS
import Derived.Test.YtcjlgdldhcbcjaaBls
namespace Go.Proofs.Ytcjlgdldhcbcjaa.segTwice
open Go.ChangeShapes Go.WideShapes Go.ChangeAt Go.RowKit Go.Maps
open Go.ChangeMaps (open_string shut_string)
set_option linter.unusedVariables false
set_option linter.unusedSimpArgs false

theorem own : ownKnob Try.prog.godebug = none := by kernel_rfl
theorem laidOut : laidOutB Try.prog = true := by kernel_rfl

theorem wf_bounds {n : Int} (h : (Lit.int .i64 n).wf = true) : -9223372036854775808 ≤ n ∧ n ≤ 9223372036854775807 := by
  simp only [Lit.wf, IntKind.min, IntKind.max, IntKind.signed, IntKind.bits] at h
  simp at h; omega
theorem ints_at {w : World} {a : Option Addr} {len cap : Nat} {zs : List Int} (h : IsRow .i64 w a len cap zs) {j : Nat} (hj : j < len) : ∃ x z, a = some x ∧ w.cell? (x.add j) = some (.int .i64 z) ∧ -9223372036854775808 ≤ z ∧ z ≤ 9223372036854775807 := by
  rcases h with ⟨_, h, _⟩ | ⟨x, h1, h2, h3, h4, h5, h6⟩
  · omega
  · refine ⟨x, _, h1, h5 j (by omega), ?_⟩
    exact wf_bounds (h6 _ (by rw [List.getD, List.getElem?_eq_getElem (show j < zs.length by omega)]; exact List.getElem_mem _))
theorem bytes_le60 (zb : List Int) (lb : Nat) : (bytesOf (zb.take (min lb 60))).length ≤ 60 := by
  simp [bytesOf]; omega
/-- A log, and a row of the texts that it was given. -/
structure Both (w1 w : World) (lb db mb : Nat) (M : List FE) (last : Nat) (S : Nat → List (List UInt8)) (v : Value) (R : List BE) (j : Nat) : Prop where
  log : LSt w lb db mb 1048576 M last (flatS S (last + 1)) (fun k => K0 w1 k ∨ RowsF v R k)
  rows : IsRows w v R
  is : R.map (·.b) = flatS S (last + 1)
  fresh : ∀ k, RowsF v R k → w1.heap.size ≤ k
  tch : Tch No w1 w
  segs : Segs M last S
  used : mUsed M ≤ 66 * j
  each : ∀ n, (framed (S n)).length ≤ 66 * j
  cnt : R.length ≤ j ∧ M.length ≤ j ∧ last ≤ j
theorem Both.more {w1 w : World} {lb db mb : Nat} {M : List FE} {last : Nat} {S : Nat → List (List UInt8)} {v : Value} {R : List BE} {j : Nat} (h : Both w1 w lb db mb M last S v R j) {w' : World} (t : Tch No w w') : Both w1 w' lb db mb M last S v R (j + 1) :=
  ⟨h.log.keep t, h.rows.tch0 t, h.is, h.fresh, h.tch.trans0 t, h.segs, by have := h.used; omega, fun n => by have := h.each n; omega, by have := h.cnt; omega⟩
theorem framed_add (S : Nat → List (List UInt8)) (last : Nat) (b : List UInt8) (n : Nat) : (framed (addS S last b n)).length ≤ (framed (S n)).length + (6 + b.length) := by
  unfold addS
  split
  · rw [framed_snoc_len]; omega
  · omega
/-- A text is added to both. -/
theorem Both.add {w1 w : World} {lb db mb : Nat} {M : List FE} {last : Nat} {S : Nat → List (List UInt8)} {v : Value} {R : List BE} {j : Nat} (h : Both w1 w lb db mb M last S v R j) (hj : j ≤ 12) {w5 w6 w7 : World} {x : BE} (hb : fits x.b) (h60 : x.b.length ≤ 60) (t5 : Tch No w w5) (hx5 : SlB w5 x.v x.b) (hf : ∀ k, x.v.ownBlock = some k → w.heap.size ≤ k)
    (l6 : LSt w6 lb db mb 1048576 (mAppL M (segNm last) (frameM x.b)) last (flatS S (last + 1) ++ [x.b]) (fun k => (K0 w1 k ∨ RowsF v R k) ∨ x.v.ownBlock = some k)) (k6 : KT (fun k => (K0 w1 k ∨ RowsF v R k) ∨ x.v.ownBlock = some k) w5 w6)
    {wA : World} (tA : Tch No w6 wA) {v1 : Value} (hA : AppR wA v (R.length + 1) (R.map (·.v) ++ [x.v]) v1 w7) (hsg : Segs (mAppL M (segNm last) (frameM x.b)) last (addS S last x.b)) : Both w1 w7 lb db mb (mAppL M (segNm last) (frameM x.b)) last (addS S last x.b) v1 (R ++ [x]) (j + 1) := by
  have hs5 := t5.size
  have r6 : IsRows w6 v R := (h.rows.tch0 t5).tch k6 (fun k hk hn => hn (.inl (.inr hk)))
  have x6 : SlB w6 x.v x.b := k6.slb hx5 (fun k hk => .inr hk)
  obtain ⟨q1, q2, q3⟩ := (r6.tch0 tA).app hA (x6.tch0 tA) (fun k hk e => by have := hf k hk; have := (h.rows.row.lt k e).2; omega)
  have hw := h.tch.size
  have hs6 := k6.size
  have hsA := tA.size
  have hnd := h.log.dk.nodup
  refine ⟨?_, q1, by rw [List.map_append, h.is, flatS_add]; rfl, fun k hk => ?_, ?_, hsg, ?_, fun n => ?_, ?_⟩
  · rw [flatS_add]
    refine (l6.keep tA).gen q2 (fun k hk => .inl (.inr (.inl hk))) (fun k hk => ?_)
    rcases hk with hk | hk
    · exact .inl (.inl (.inl hk))
    · rcases q3 k hk with q | q | q
      · exact .inl (.inl (.inr q))
      · exact .inl (.inr q)
      · exact .inr ⟨q, RowsF.lt q1 k hk⟩
  · rcases q3 k hk with q | q | q
    · exact h.fresh k q
    · have := hf k q; omega
    · omega
  · have t56 : Tch No w1 w6 := (h.tch.trans0 t5).fresh (F := fun k => ¬ ((K0 w1 k ∨ RowsF v R k) ∨ x.v.ownBlock = some k)) k6 (fun k hk => by
      rcases Nat.lt_or_ge k w1.heap.size with q | q
      · exact absurd (.inl (.inl q)) hk
      · exact q)
    exact (t56.trans0 tA).fresh q2 (fun k hk => h.fresh k (.inl hk))
  · rw [used_appL _ _ _ hnd, frameM_length]; have := h.used; omega
  · have := framed_add S last x.b n; have := h.each n; omega
  · have := h.cnt; have := lenAL M (segNm last) (frameM x.b); rw [List.length_append]; simp; omega
/-- The next segment begins. -/
theorem Both.next {w1 w : World} {lb db mb : Nat} {M : List FE} {last : Nat} {S : Nat → List (List UInt8)} {v : Value} {R : List BE} {j : Nat} (h : Both w1 w lb db mb M last S v R (j + 1)) (hl : last ≤ j) (hj : j ≤ 12) {w' : World} (l : LSt w' lb db mb 1048576 (mSync M (segNm last)) (last + 1) (flatS S (last + 1)) (fun k => K0 w1 k ∨ RowsF v R k)) (k : KT (fun k => K0 w1 k ∨ RowsF v R k) w w') : Both w1 w' lb db mb (mSync M (segNm last)) (last + 1) S v R (j + 1) := by
  have e : flatS S (last + 1 + 1) = flatS S (last + 1) := flatS_more _ (by omega) (fun n h1 h2 => h.segs.above n (by omega))
  refine ⟨by rw [e]; exact l, h.rows.tch k (fun q hq hn => hn (.inr hq)), by rw [e]; exact h.is, h.fresh, h.tch.fresh (F := fun q => ¬ (K0 w1 q ∨ RowsF v R q)) k (fun q hq => ?_), h.segs.next (by omega) _ (.inr rfl), by rw [used_sync]; exact h.used, h.each, by have := h.cnt; rw [lenSy]; omega⟩
  rcases Nat.lt_or_ge q w1.heap.size with p | p
  · exact absurd (.inl p) hq
  · exact p
theorem idx_bool (W : World) (b o n c j : Nat) (h : j < n) : (Instr.indexAt 54 (.slice (some ⟨b, o, none⟩) n c) (.int .i64 (j : Int))).run Try.prog W = .ok (.pointer (some ⟨b, o + j, none⟩)) W := by
  obtain ⟨i, hi⟩ : ∃ i, Try.prog.info? 4 = some i := Option.isSome_iff_exists.1 (by kernel_rfl)
  have h1 : (j : Int) < (n : Int) := by omega
  have hc : Try.prog.cellsOf 4 = 1 := by kernel_rfl
  simp [Instr.indexAt, run_underlying Try.underlying54, asIntOf, run_sizeOf W hi, hc, h1, Addr.add]
  rw [if_pos h]
  by_cases hj : j = 0 <;> simp [hj]
set_option maxRecDepth 100000 in
set_option maxHeartbeats 4000000 in
theorem walk (a0 : Option Addr) (len0 cap0 : Nat) (a1 : Option Addr) (len1 cap1 : Nat) (a2 : Option Addr) (len2 cap2 : Nat) (z2 : List Int) (w : World) (w0 : IsBss w a0 len0 cap0) (w1 : IsBls w a1 len1 cap1) (w2 : IsRow .i64 w a2 len2 cap2 z2) :
    Calls Try.prog 10 #[.slice a0 len0 cap0, .slice a1 len1 cap1, .slice a2 len2 cap2] w fun e w' => e = .returned (.bool true) ∧ Below w.heap.size w w' := by
  have W0 := Lib.hid w0
  have W1 := Lib.hid w1
  have W2 := Lib.hid w2
  have hc1 := w1.1
  obtain ⟨hl2, _, _⟩ := w2.lens
  clear w0 w1 w2
  go_enter Try.func10, Try.ntmps10
  go_wp2_with fail
  refine (begun4_any w).mono ?_
  rintro e w1 ⟨rfl, t1⟩
  have T1 := Lib.hid t1; clear t1
  go_wp2_with fail
  refine (dk_new (K := K0 w1) 1048576 w1 (fun k hk => hk)).mono ?_
  rintro e w2 ⟨db, mb, rfl, d2, t2⟩
  rw [show roomOf 1048576 = 1048576 by rfl] at d2
  have D2 := Lib.hid d2; have T2 := Lib.hid t2; clear d2 t2
  go_wp2_with fail
  refine (open_ok D2.out 0 (by omega) (by simp) e0 rfl).mono ?_
  rintro e w3 ⟨lb, rfl, l3, k3⟩
  have B3 : Hid (Both w1 w3 lb db mb [] 0 (fun _ => []) (.slice none 0 0) [] 0) := by
    have hR : ∀ k, ¬ RowsF (.slice none 0 0) [] k := by
      rintro k (hk | ⟨x, hx, _⟩)
      · simp [Value.ownBlock] at hk
      · simp at hx
    refine ⟨LSt.less (K := K0 w1) l3 (fun k hk => ?_), IsRows.nil _, rfl, fun k hk => absurd hk (hR k), k3.noK (w := w1) T2.out, Segs.empty, by simp [mUsed], fun n => by simp [framed], by simp⟩
    rcases hk with hk | hk
    · exact hk
    · exact absurd hk (hR k)
  clear l3 k3 D2 T2
  go_wp2_with fail
  go_loopw [11, 12] (fun s i wr => ∃ (j last : Nat) (S : Nat → List (List UInt8)) (v : Value) (R : List BE) (M : List FE), j ≤ len0 ∧ j ≤ 12 ∧ last ≤ j ∧ i = .int .i64 j ∧ s = v ∧ Hid (Both w1 wr lb db mb M last S v R j)) (fun _ i _ => 12 - (intOf i).toNat)
  case atStart => exact ⟨0, 0, _, _, _, _, by omega, by omega, by omega, rfl, rfl, B3⟩
  case round =>
    clear B3
    obtain ⟨j, last, S, v, R, M, hj1, hj2, hlj, rfl, rfl, HB⟩ := hrel
    obtain ⟨av, mv, cv, rfl, hmv⟩ := own_shape' HB.out.rows.row
    by_cases gg : j < len0 ∧ j < 12
    · obtain ⟨g1, g2⟩ := gg
      obtain ⟨ob, oo, x, l, c, zs, ha, hcx, hrow⟩ := W0.out.2.2 j g1
      subst ha
      have hc' := (T1.out.trans0 HB.out.tch).cell hcx (fun h => h)
      have HR := Lib.hid (hrow.tch0 (T1.out.trans0 HB.out.tch))
      obtain ⟨bb, hbb⟩ : ∃ bb, bytesOf (zs.take (min l 60)) = bb := ⟨_, rfl⟩
      have hb60 : bb.length ≤ 60 := by rw [← hbb]; exact bytes_le60 zs l
      have HBB := Lib.hid hbb
      have hbl : Hid (∀ k : Nat, j < len1 → ∃ b o y, a1 = some ⟨b, o, none⟩ ∧ w.cell? ⟨b, o + j, none⟩ = some (.bool y)) := fun _ h => W1.out.2.2 j h
      clear hcx hrow hbb
      go_wp2_with fail
      refine (short_own x l c zs 60 wr HR.out (by omega)).mono ?_
      rintro e w5 ⟨vb, rfl, sb, fb, tb, _⟩
      rw [HBB.out] at sb
      obtain ⟨xa, xm, xc, rfl, hxm⟩ := sb.shape'
      have SB := Lib.hid sb; have FB := Lib.hid fb; have TB := Lib.hid tb
      have L5 : Hid (LSt w5 lb db mb 1048576 M last (flatS S (last + 1)) (fun k => (K0 w1 k ∨ RowsF (.slice av mv cv) R k) ∨ (Value.slice xa xm xc).ownBlock = some k)) := HB.out.log.more tb (fun k hk => by
        rcases hk with hk | hk
        · exact .inl hk
        · exact .inr ⟨fb k hk, sb.blt k hk⟩)
      have hadd := Lib.hid (lst_add L5.out (by omega) (.slice xa xm xc) bb sb (fun k hk => .inr hk) (by have := HB.out.cnt; omega) (by have h1 := congrArg List.length HB.out.is; rw [List.length_map] at h1; have := HB.out.cnt; omega))
      have hRl : Hid (R.length + 1 ≤ 2000000000) := by rw [Hid]; have := HB.out.cnt; omega
      clear sb fb tb hxm HBB hmv
      by_cases hfit : fits bb
      · obtain ⟨r1, r2⟩ := HB.out.segs.add (by omega) (flatS S (last + 1)) bb hfit (by have := HB.out.each last; omega) (by have := HB.out.used; omega)
        rw [r1] at hadd
        have R2 := Lib.hid r2
        have HFIT := Lib.hid hfit
        clear r1 r2 hfit
        go_wp2_with fail
        refine hadd.out.mono ?_
        rintro e w6 ⟨rfl, l6, k6⟩
        have L6 := Lib.hid l6
        have K6 := Lib.hid k6
        clear hadd l6 k6
        by_cases hn1 : j < len1
        · obtain ⟨nb, no, y, hna, hnc⟩ := hbl.out 0 hn1
          subst hna
          have n1 : (j : Int) < (len1 : Int) := by omega
          have n0 : (0 : Int) ≤ (j : Int) := by omega
          have hidx := fun W => idx_bool W nb no len1 cap1 j hn1
          cases y
          · go_wp2_with (at_builtin; go_must (refine wpList_appR rfl _ _ rfl (.slice av mv cv) R.length (R.map (·.v)) rfl (own_tch ((HB.out.rows.tch0 TB.out).tch K6.out (fun k hk hn => hn (.inl (.inr hk)))).row (Tch.alloc _ _) (fun _ _ h => h)) ⟨w6.heap.size, 0, none⟩ 1 (.slice xa xm xc) rfl (by simp) rfl hRl.out ?_); intro aN nN cN w7 hA; have H7 := Lib.hid (HB.out.add hj2 (x := ⟨bb, .slice xa xm xc⟩) HFIT.out hb60 TB.out SB.out FB.out L6.out K6.out (Tch.alloc _ _) hA R2.out); clear hA; have hnc' := (T1.out.trans0 H7.out.tch).cell hnc (fun h => h))
            exact ⟨⟨j + 1, last, _, _, _, _, by omega, by omega, by omega, by go_num, rfl, H7⟩, by simp [intOf]; omega⟩
          · go_wp2_with (at_builtin; go_must (refine wpList_appR rfl _ _ rfl (.slice av mv cv) R.length (R.map (·.v)) rfl (own_tch ((HB.out.rows.tch0 TB.out).tch K6.out (fun k hk hn => hn (.inl (.inr hk)))).row (Tch.alloc _ _) (fun _ _ h => h)) ⟨w6.heap.size, 0, none⟩ 1 (.slice xa xm xc) rfl (by simp) rfl hRl.out ?_); intro aN nN cN w7 hA; have H7 := Lib.hid (HB.out.add hj2 (x := ⟨bb, .slice xa xm xc⟩) HFIT.out hb60 TB.out SB.out FB.out L6.out K6.out (Tch.alloc _ _) hA R2.out); clear hA; have hnc' := (T1.out.trans0 H7.out.tch).cell hnc (fun h => h))
            have hnx := Lib.hid (lst_next H7.out.log (by omega))
            rw [if_neg (by omega), if_neg (by omega)] at hnx
            refine hnx.out.mono ?_
            rintro e w8 ⟨rfl, l8, k8⟩
            have H8 := Lib.hid (H7.out.next hlj (by omega) l8 k8)
            clear l8 k8 hnx H7
            go_wp2_with fail
            exact ⟨⟨j + 1, last + 1, _, _, _, _, by omega, by omega, by omega, by go_num, rfl, H8⟩, by simp [intOf]; omega⟩
        · have n1 : ¬ (j : Int) < (len1 : Int) := by omega
          go_wp2_with (at_builtin; go_must (refine wpList_appR rfl _ _ rfl (.slice av mv cv) R.length (R.map (·.v)) rfl (own_tch ((HB.out.rows.tch0 TB.out).tch K6.out (fun k hk hn => hn (.inl (.inr hk)))).row (Tch.alloc _ _) (fun _ _ h => h)) ⟨w6.heap.size, 0, none⟩ 1 (.slice xa xm xc) rfl (by simp) rfl hRl.out ?_); intro aN nN cN w7 hA; have H7 := Lib.hid (HB.out.add hj2 (x := ⟨bb, .slice xa xm xc⟩) HFIT.out hb60 TB.out SB.out FB.out L6.out K6.out (Tch.alloc _ _) hA R2.out); clear hA)
          exact ⟨⟨j + 1, last, _, _, _, _, by omega, by omega, by omega, by go_num, rfl, H7⟩, by simp [intOf]; omega⟩
      · rw [addM_no 1048576 M last (flatS S (last + 1)) bb hfit] at hadd
        clear hfit
        go_wp2_with fail
        refine hadd.out.mono ?_
        rintro e w6 ⟨rfl, l6, k6⟩
        have H7 : Hid (Both w1 w6 lb db mb M last S (.slice av mv cv) R (j + 1)) := by
          have l : LSt w6 lb db mb 1048576 M last (flatS S (last + 1)) (fun k => K0 w1 k ∨ RowsF (.slice av mv cv) R k) := LSt.less l6 (fun k hk => .inl hk)
          have hb5 := HB.out.more TB.out
          refine ⟨l, hb5.rows.tch k6 (fun k hk hn => hn (.inl (.inr hk))), hb5.is, hb5.fresh, hb5.tch.fresh (F := fun k => ¬ ((K0 w1 k ∨ RowsF (.slice av mv cv) R k) ∨ (Value.slice xa xm xc).ownBlock = some k)) k6 (fun k hk => ?_), hb5.segs, hb5.used, hb5.each, hb5.cnt⟩
          rcases Nat.lt_or_ge k w1.heap.size with q | q
          · exact absurd (.inl (.inl q)) hk
          · exact q
        clear hadd l6 k6
        by_cases hn1 : j < len1
        · obtain ⟨nb, no, y, hna, hnc⟩ := hbl.out 0 hn1
          subst hna
          have hnc' := (T1.out.trans0 H7.out.tch).cell hnc (fun h => h)
          have n1 : (j : Int) < (len1 : Int) := by omega
          have n0 : (0 : Int) ≤ (j : Int) := by omega
          have hidx := fun W => idx_bool W nb no len1 cap1 j hn1
          clear hnc
          cases y
          · go_wp2_with fail
            exact ⟨⟨j + 1, last, _, _, _, _, by omega, by omega, by omega, by go_num, rfl, H7⟩, by simp [intOf]; omega⟩
          · have hnx := Lib.hid (lst_next H7.out.log (by omega))
            rw [if_neg (by omega), if_neg (by omega)] at hnx
            go_wp2_with fail
            refine hnx.out.mono ?_
            rintro e w8 ⟨rfl, l8, k8⟩
            have H8 := Lib.hid (H7.out.next hlj (by omega) l8 k8)
            clear l8 k8 hnx H7
            go_wp2_with fail
            exact ⟨⟨j + 1, last + 1, _, _, _, _, by omega, by omega, by omega, by go_num, rfl, H8⟩, by simp [intOf]; omega⟩
        · have n1 : ¬ (j : Int) < (len1 : Int) := by omega
          go_wp2_with fail
          exact ⟨⟨j + 1, last, _, _, _, _, by omega, by omega, by omega, by go_num, rfl, H7⟩, by simp [intOf]; omega⟩
    · by_cases g1 : j < len0
      · have g2 : ¬ j < 12 := fun h => gg ⟨g1, h⟩
        clear gg
        go_wp2_with fail
        refine (lst_force HB.out.log (by omega)).mono ?_
        rintro e w5 ⟨rfl, l5, k5⟩
        have hsu := Lib.hid (HB.out.segs.sure (by omega) HB.out.log.dk.nodup)
        have hsg := HB.out.segs.next (by omega) last (.inl rfl)
        obtain ⟨M2, hM2⟩ : ∃ M2, mSync M (segNm last) = M2 := ⟨_, rfl⟩
        have hML : M2.length ≤ 12 := by rw [← hM2, lenSy]; have := HB.out.cnt; omega
        rw [hM2] at l5 hsu hsg
        obtain ⟨t, ht9, hop⟩ := hsg.open_ (by omega) 1048576
        have HOP := Lib.hid hop
        have D5 := Lib.hid l5.dk
        have R5 : Hid (IsRows w5 (.slice av mv cv) R) := HB.out.rows.tch k5 (fun k hk hn => hn (.inr hk))
        have T5 : Hid (Tch No w1 w5) := HB.out.tch.fresh (F := fun k => ¬ (K0 w1 k ∨ RowsF (.slice av mv cv) R k)) k5 (fun k hk => by
          rcases Nat.lt_or_ge k w1.heap.size with q | q
          · exact absurd (.inl q) hk
          · exact q)
        have IS := Lib.hid HB.out.is
        have hRl : R.length ≤ 12 := by have := HB.out.cnt; omega
        obtain ⟨A, hA⟩ : ∃ A, flatS S (last + 1) = A := ⟨_, rfl⟩
        rw [hA] at HOP IS
        clear l5 k5 hop hM2 HB hsg hmv hA
        go_wp2_with fail
        go_loopw [8, 9, 10, 14] (fun sd sl se i wr => ∃ (j db mb lb : Nat), j ≤ len2 ∧ j ≤ 4 ∧ i = .int .i64 j ∧ sd = .pointer (some ⟨db, 0, none⟩) ∧ sl = .pointer (some ⟨lb, 0, none⟩) ∧ se = .int .i64 0 ∧ Hid (DK wr db mb 1048576 M2 (fun k => K0 w1 k ∨ RowsF (.slice av mv cv) R k)) ∧ Hid (IsRows wr (.slice av mv cv) R) ∧ Hid (Tch No w1 wr)) (fun _ _ _ i _ => 4 - (intOf i).toNat)
        case atStart => exact ⟨0, db, mb, lb, by omega, by omega, rfl, rfl, rfl, rfl, D5, R5, T5⟩
        case round =>
          clear D5 R5 T5
          obtain ⟨i, db, mb, lb, hi1, hi2, rfl, rfl, rfl, rfl, HD, HR, HT⟩ := hrel
          by_cases gg : i < len2 ∧ i < 4
          · obtain ⟨g1, g2⟩ := gg
            obtain ⟨x, z, hx, hcx, hz1, hz2⟩ := ints_at W2.out g1
            subst hx
            have hc' := (T1.out.trans0 HT.out).cell hcx (fun h => h)
            clear hcx
            go_wp2_with fail
            refine (dk_fall HD.out z hz1 hz2 (by omega)).mono ?_
            rintro e w6 ⟨db6, mb6, rfl, d6, t6⟩
            rw [fall_sure hsu.out z] at d6
            have D6 := Lib.hid d6; have T6 := Lib.hid t6; clear d6 t6
            go_wp2_with fail
            refine (open_ok D6.out 0 (by omega) (by omega) HOP.out rfl).mono ?_
            rintro e w7 ⟨lb7, rfl, l7, k7⟩
            have L7 : Hid (LSt w7 lb7 db6 mb6 1048576 M2 t A (K0 wr)) := l7
            have T7 : Hid (Tch No wr w7) := k7.noK (w := wr) T6.out
            clear l7 k7 D6 T6
            go_wp2_with fail
            refine (lst_all L7.out (by have h1 := congrArg List.length IS.out; rw [List.length_map] at h1; omega)).mono ?_
            rintro e w8 ⟨v8, R8, rfl, r8, m8, _, t8⟩
            obtain ⟨a8, l8, c8, rfl, _, _⟩ := rows_shape r8
            have R8 := Lib.hid r8; have M8 := Lib.hid m8; have T8 := Lib.hid (T7.out.trans0 t8); have T78 := Lib.hid t8; clear r8 m8 t8
            have H8 : Hid (IsRows w8 (.slice av mv cv) R) := HR.out.tch0 T8.out
            go_wp2_with fail
            refine (eq_any R8.out H8.out (M8.out.trans IS.out.symm) (by have h1 := congrArg List.length (M8.out.trans IS.out.symm); rw [List.length_map, List.length_map] at h1; omega)).mono ?_
            rintro e w9 ⟨rfl, t9⟩
            have T9 := Lib.hid (T8.out.trans0 t9)
            have D9 : Hid (DK w9 db6 mb6 1048576 M2 (fun k => K0 w1 k ∨ RowsF (.slice av mv cv) R k)) := (L7.out.dk.keep (T78.out.trans0 t9)).less (fun k hk => by
              rcases hk with hk | hk
              · exact Nat.lt_of_lt_of_le hk HT.out.size
              · exact RowsF.lt HR.out k hk)
            go_wp2_with fail
            exact ⟨⟨i + 1, db6, mb6, lb7, by omega, by omega, by go_num, rfl, rfl, rfl, D9, HR.out.tch0 T9.out, HT.out.trans0 T9.out⟩, by simp [intOf]; omega⟩
          · by_cases g1 : i < len2
            · have g2 : ¬ i < 4 := fun h => gg ⟨g1, h⟩
              clear gg
              go_wp2_with fail
              go_ret
              exact ⟨rfl, (T1.out.trans0 HT.out).below0⟩
            · clear gg
              go_wp2_with fail
              go_ret
              exact ⟨rfl, (T1.out.trans0 HT.out).below0⟩
      · clear gg
        go_wp2_with fail
        refine (lst_force HB.out.log (by omega)).mono ?_
        rintro e w5 ⟨rfl, l5, k5⟩
        have hsu := Lib.hid (HB.out.segs.sure (by omega) HB.out.log.dk.nodup)
        have hsg := HB.out.segs.next (by omega) last (.inl rfl)
        obtain ⟨M2, hM2⟩ : ∃ M2, mSync M (segNm last) = M2 := ⟨_, rfl⟩
        have hML : M2.length ≤ 12 := by rw [← hM2, lenSy]; have := HB.out.cnt; omega
        rw [hM2] at l5 hsu hsg
        obtain ⟨t, ht9, hop⟩ := hsg.open_ (by omega) 1048576
        have HOP := Lib.hid hop
        have D5 := Lib.hid l5.dk
        have R5 : Hid (IsRows w5 (.slice av mv cv) R) := HB.out.rows.tch k5 (fun k hk hn => hn (.inr hk))
        have T5 : Hid (Tch No w1 w5) := HB.out.tch.fresh (F := fun k => ¬ (K0 w1 k ∨ RowsF (.slice av mv cv) R k)) k5 (fun k hk => by
          rcases Nat.lt_or_ge k w1.heap.size with q | q
          · exact absurd (.inl q) hk
          · exact q)
        have IS := Lib.hid HB.out.is
        have hRl : R.length ≤ 12 := by have := HB.out.cnt; omega
        obtain ⟨A, hA⟩ : ∃ A, flatS S (last + 1) = A := ⟨_, rfl⟩
        rw [hA] at HOP IS
        clear l5 k5 hop hM2 HB hsg hmv hA
        go_wp2_with fail
        go_loopw [8, 9, 10, 14] (fun sd sl se i wr => ∃ (j db mb lb : Nat), j ≤ len2 ∧ j ≤ 4 ∧ i = .int .i64 j ∧ sd = .pointer (some ⟨db, 0, none⟩) ∧ sl = .pointer (some ⟨lb, 0, none⟩) ∧ se = .int .i64 0 ∧ Hid (DK wr db mb 1048576 M2 (fun k => K0 w1 k ∨ RowsF (.slice av mv cv) R k)) ∧ Hid (IsRows wr (.slice av mv cv) R) ∧ Hid (Tch No w1 wr)) (fun _ _ _ i _ => 4 - (intOf i).toNat)
        case atStart => exact ⟨0, db, mb, lb, by omega, by omega, rfl, rfl, rfl, rfl, D5, R5, T5⟩
        case round =>
          clear D5 R5 T5
          obtain ⟨i, db, mb, lb, hi1, hi2, rfl, rfl, rfl, rfl, HD, HR, HT⟩ := hrel
          by_cases gg : i < len2 ∧ i < 4
          · obtain ⟨g1, g2⟩ := gg
            obtain ⟨x, z, hx, hcx, hz1, hz2⟩ := ints_at W2.out g1
            subst hx
            have hc' := (T1.out.trans0 HT.out).cell hcx (fun h => h)
            clear hcx
            go_wp2_with fail
            refine (dk_fall HD.out z hz1 hz2 (by omega)).mono ?_
            rintro e w6 ⟨db6, mb6, rfl, d6, t6⟩
            rw [fall_sure hsu.out z] at d6
            have D6 := Lib.hid d6; have T6 := Lib.hid t6; clear d6 t6
            go_wp2_with fail
            refine (open_ok D6.out 0 (by omega) (by omega) HOP.out rfl).mono ?_
            rintro e w7 ⟨lb7, rfl, l7, k7⟩
            have L7 : Hid (LSt w7 lb7 db6 mb6 1048576 M2 t A (K0 wr)) := l7
            have T7 : Hid (Tch No wr w7) := k7.noK (w := wr) T6.out
            clear l7 k7 D6 T6
            go_wp2_with fail
            refine (lst_all L7.out (by have h1 := congrArg List.length IS.out; rw [List.length_map] at h1; omega)).mono ?_
            rintro e w8 ⟨v8, R8, rfl, r8, m8, _, t8⟩
            obtain ⟨a8, l8, c8, rfl, _, _⟩ := rows_shape r8
            have R8 := Lib.hid r8; have M8 := Lib.hid m8; have T8 := Lib.hid (T7.out.trans0 t8); have T78 := Lib.hid t8; clear r8 m8 t8
            have H8 : Hid (IsRows w8 (.slice av mv cv) R) := HR.out.tch0 T8.out
            go_wp2_with fail
            refine (eq_any R8.out H8.out (M8.out.trans IS.out.symm) (by have h1 := congrArg List.length (M8.out.trans IS.out.symm); rw [List.length_map, List.length_map] at h1; omega)).mono ?_
            rintro e w9 ⟨rfl, t9⟩
            have T9 := Lib.hid (T8.out.trans0 t9)
            have D9 : Hid (DK w9 db6 mb6 1048576 M2 (fun k => K0 w1 k ∨ RowsF (.slice av mv cv) R k)) := (L7.out.dk.keep (T78.out.trans0 t9)).less (fun k hk => by
              rcases hk with hk | hk
              · exact Nat.lt_of_lt_of_le hk HT.out.size
              · exact RowsF.lt HR.out k hk)
            go_wp2_with fail
            exact ⟨⟨i + 1, db6, mb6, lb7, by omega, by omega, by go_num, rfl, rfl, rfl, D9, HR.out.tch0 T9.out, HT.out.trans0 T9.out⟩, by simp [intOf]; omega⟩
          · by_cases g1 : i < len2
            · have g2 : ¬ i < 4 := fun h => gg ⟨g1, h⟩
              clear gg
              go_wp2_with fail
              go_ret
              exact ⟨rfl, (T1.out.trans0 HT.out).below0⟩
            · clear gg
              go_wp2_with fail
              go_ret
              exact ⟨rfl, (T1.out.trans0 HT.out).below0⟩

/-! ### THE ROW's STEP: WRITTEN OUT: LEAVE IT -/
set_option maxRecDepth 100000 in
theorem lifted (os : Os) (started : os.Started) (H : Type) (enc : TypeId × Value → H) :
    ReturnsInHanded {} Try.checked os 10 .any (Rows.segTwiceSpec.pre6 enc Try.prog Try.f10 Rows.segTwiceRow.domain false) (Rows.segTwiceSpec.post enc Try.prog Try.f10 false true false false) := by
  refine returnsInHanded_of_change (C := Try.checked) own started (by kernel_rfl) Try.func10
    (ChangeSpec.witness6 (enc := enc) (C := Try.checked) false ⟨#[], #[.slice none 0 0, .slice none 0 0, .slice none 0 0], []⟩ 8 (by kernel_rfl) (by kernel_rfl) (by kernel_rfl) (by kernel_rfl)) ?_
  intro W base args ds gs before hval0 hW hcnd _
  have hval : ∀ (j : Nat) t v, Try.f10.params[j]? = some t → args[j]? = some v → Value.okWide Try.prog W .any base t v := hval0
  have hW' := hW
  obtain ⟨p, q, hA0, hV, rfl, hfz, hnd⟩ := hW
  have hA : DataW.TrodAll enc Try.prog W 0 (fun _ => true) true Try.f10.params.toList args.toList ds p := hA0
  rw [Try.params10] at hA hval
  obtain ⟨v0, vs0, d0, ds0, p0, q0, hargs, rfl, rfl, h0, r0⟩ := trodAll_cons hA
  obtain ⟨v1, vs1, d1, ds1, p1, q1, rfl, rfl, rfl, h1, r1⟩ := trodAll_cons r0
  obtain ⟨v2, vs2, d2, ds2, p2, q2, rfl, rfl, rfl, h2, r2⟩ := trodAll_cons r1
  obtain ⟨rfl, rfl, rfl⟩ := trodAll_nil r2
  obtain rfl : args = #[v0, v1, v2] := by cases args; simp_all
  obtain ⟨rfl, rfl⟩ := trodVars_none hV
  obtain ⟨a0, len0, cap0, rfl⟩ := okWide_slice Try.underlying46 (hval 0 46 v0 rfl rfl)
  have k0 := h0
  have lt0 : ∀ x ∈ p0, x.block < W.heap.size := by obtain ⟨m, hm⟩ := k0; exact DataW.trod_lt m _ _ _ hm
  have w0 : IsBss W a0 len0 cap0 := by
    obtain ⟨fuel, hf⟩ := h0
    obtain ⟨_, _, _, hcs, hw⟩ := open_bss hf
    simp [Value.cells] at hcs
    obtain ⟨rfl, rfl, rfl⟩ := hcs
    exact hw
  obtain ⟨a1, len1, cap1, rfl⟩ := okWide_slice Try.underlying54 (hval 1 54 v1 rfl rfl)
  have k1 := h1
  have lt1 : ∀ x ∈ p1, x.block < W.heap.size := by obtain ⟨m, hm⟩ := k1; exact DataW.trod_lt m _ _ _ hm
  have w1 : IsBls W a1 len1 cap1 := by
    obtain ⟨fuel, hf⟩ := h1
    obtain ⟨_, _, _, hcs, hw⟩ := open_bls hf
    simp [Value.cells] at hcs
    obtain ⟨rfl, rfl, rfl⟩ := hcs
    exact hw
  obtain ⟨a2, len2, cap2, rfl⟩ := okWide_slice Try.underlying34 (hval 2 34 v2 rfl rfl)
  have k2 := h2
  have lt2 : ∀ x ∈ p2, x.block < W.heap.size := by obtain ⟨m, hm⟩ := k2; exact DataW.trod_lt m _ _ _ hm
  obtain ⟨z2, w2⟩ : ∃ zs, IsRow .i64 W a2 len2 cap2 zs := by
    obtain ⟨fuel, hf⟩ := h2
    rcases open_ints Try.underlying34 Try.underlying3 (by kernel_rfl) hf with ⟨hcs, _⟩ | ⟨x, l, c, zs, hcs, _, hl, hm, hz, _, hcell, hwz⟩
    · simp [Value.cells] at hcs
      obtain ⟨rfl, rfl, rfl⟩ := hcs
      exact ⟨[], .inl ⟨rfl, rfl, rfl, rfl⟩⟩
    · simp [Value.cells] at hcs
      obtain ⟨rfl, rfl, rfl⟩ := hcs
      exact ⟨zs, .inr ⟨_, rfl, hl, hm, by simpa using hz, hcell, hwz⟩⟩
  clear hA0 hval0
  refine (walk a0 len0 cap0 a1 len1 cap1 a2 len2 cap2 z2 W w0 w1 w2).mono fun e W' ⟨he, bel⟩ => ?_
  subst he
  exact ⟨_, rfl, _, _, _, [], _, [], hW', trodAll_mk1 (shut_bool Try.underlying4 _), (trodAll_cons_mk (Below.trod laidOut (by kernel_rfl) (of_decide_eq_true (by kernel_rfl)) k0 bel lt0) (trodAll_cons_mk (Below.trod laidOut (by kernel_rfl) (of_decide_eq_true (by kernel_rfl)) k1 bel lt1) (trodAll_cons_mk (Below.trod laidOut (by kernel_rfl) (of_decide_eq_true (by kernel_rfl)) k2 bel lt2) trodAll_mk0))), rfl, bel.frame _, fun h => by cases h⟩

theorem over : Rows.segTwiceRow.holds Try.pinned (OpenSpec.ofChange Rows.segTwiceSpec) :=
  OpenClaim.holds_of_wide 10 Try.f10 rfl rfl rfl rfl rfl rfl rfl ⟨rfl, rfl, rfl, rfl, rfl⟩ rfl rfl rfl rfl rfl (by kernel_rfl) Try.func10 (by kernel_rfl)
    (of_decide_eq_true (by kernel_rfl)) (by unfold Func.isWrapper; first | (rw [if_pos (by decide +kernel)]; kernel_rfl) | (rw [if_neg (by decide +kernel)]; exact ⟨rfl, rfl⟩))
    (fun os started H enc _ => lifted os started H enc)

/--  THE STATEMENT  -/
theorem proved : Rows.SegTwiceSaid := over
#print axioms proved
end Go.Proofs.Ytcjlgdldhcbcjaa.segTwice
