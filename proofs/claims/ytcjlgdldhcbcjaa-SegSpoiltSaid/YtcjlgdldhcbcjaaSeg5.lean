/- Segments: a log's Add. No condition. -/
import Derived.Test.YtcjlgdldhcbcjaaSeg4
import Derived.Test.YtcjlgdldhcbcjaaReg
namespace Go.Proofs.Ytcjlgdldhcbcjaa
open Go.RowKit Go.Maps
set_option linter.unusedVariables false
set_option linter.unusedSimpArgs false

variable {K : Nat → Prop} {w : World} {db mb room lb last : Nat} {M : List FE} {A : List (List UInt8)}
structure ARes where
  err : Nat
  M : List FE
  last : Nat
  A : List (List UInt8)
def putM (room : Nat) (M : List FE) (last : Nat) (A : List (List UInt8)) (bs : List UInt8) : ARes :=
  if (mAppend M room (segNm last) (frameM bs)).1 = 0 then ⟨0, (mAppend M room (segNm last) (frameM bs)).2, last, A ++ [bs]⟩
  else ⟨(mAppend M room (segNm last) (frameM bs)).1, (mAppend M room (segNm last) (frameM bs)).2, last, A⟩
def addM (room : Nat) (M : List FE) (last : Nat) (A : List (List UInt8)) (bs : List UInt8) : ARes :=
  if ¬ (1 ≤ bs.length ∧ bs.length ≤ 4000) then ⟨1, M, last, A⟩
  else if 2000 ≤ ((mGet M (segNm last)).elim [] (·.b)).length then
    if last = 999 then ⟨4, mSync M (segNm last), last, A⟩ else putM room (mSync M (segNm last)) (last + 1) A bs
  else putM room M last A bs
def AddPost (K : Nat → Prop) (w : World) (lb db mb room : Nat) (r : ARes) (e : Ending) (w' : World) : Prop :=
  e = .returned (.int .i64 (r.err : Nat)) ∧ LSt w' lb db mb room r.M r.last r.A K ∧ KT K w w'
set_option maxRecDepth 100000 in
set_option maxHeartbeats 2000000000 in
theorem lst_add (h : LSt w lb db mb room M last A K) (hl : last ≤ 999) (v : Value) (bs : List UInt8) (hv : SlB w v bs) (hvK : ∀ k, v.ownBlock = some k → K k) (hcnt : M.length ≤ 999980) (hA : A.length ≤ 1900000000) :
    Calls Try.prog 25 #[.pointer (some ⟨lb, 0, none⟩), v] w (AddPost K w lb db mb room (addM room M last A bs)) := by
  obtain ⟨q, hq⟩ : ∃ q, Hid (addM room M last A bs = q) := ⟨_, rfl⟩
  rw [hq.out]
  obtain ⟨av, mv, cv, rfl, hmv⟩ := hv.shape'
  have H := Lib.hid h
  have HV := Lib.hid hv
  have HK := Lib.hid hvK
  by_cases hfit : fits bs
  · have hfr := Lib.hid (frame_any _ bs w hv hfit)
    obtain ⟨n, hn⟩ : ∃ n, 6 + bs.length = n := ⟨_, rfl⟩
    rw [hn] at hfr
    have hnb : n ≤ 4006 := by unfold fits at hfit; omega
    clear h hv hvK hmv hn
    go_enter Try.func25, Try.ntmps25
    go_wp2_with fail
    refine hfr.out.mono ?_
    rintro e w1 ⟨g, gc, rfl, b1, g1, t1, o1⟩
    have B1 := Lib.hid b1; have G1 := Lib.hid g1; have T1 := Lib.hid t1
    have glt : Hid (g < w1.heap.size) := b1.blt g rfl
    clear b1 g1 t1 o1 hfr
    have heq := fun (w : World) (a : Option Addr) (n c : Nat) => Lib.run_eql_slice_nil (P := Try.prog) w 22 5 a n c 0 0 Try.underlying22
    have H1 : Hid (LSt w1 lb db mb room M last A (fun k => K k ∨ k = g)) := H.out.more T1.out (fun k hk => by
      rcases hk with hk | rfl
      · exact .inl hk
      · exact .inr ⟨G1.out, glt.out⟩)
    obtain ⟨vl, R, h1, h2, h3, h4⟩ := H1.out
    have c0 := h2.cell0
    have c1 := h2.cell1
    have H2 := Lib.hid h2; have H3 := Lib.hid h3
    clear h1 h2 h3 h4
    go_wp2_with fail
    have hrd : Hid (∀ W, Tch No w1 W → Calls Try.prog 26 #[.pointer (some ⟨db, 0, none⟩), .string (nameB last)] W fun e w' => ∃ v, e = .returned (.tuple #[v, .bool (mGet M (segNm last)).isSome]) ∧ SlB w' v ((mGet M (segNm last)).elim [] (·.b)) ∧ (∀ k, v.ownBlock = some k → W.heap.size ≤ k) ∧ Tch No W w' ∧ w'.ownsRow 0 5 1 v ((mGet M (segNm last)).elim [] (·.b)).length (u8s ((mGet M (segNm last)).elim [] (·.b)))) := fun W hW => dk_read (H3.out.keep hW) (nameB last) (nm_max last)
    go_region_held3 (fun W => W.cell? ⟨lb, 0, none⟩ = some (.pointer (some ⟨db, 0, none⟩)) ∧ W.cell? ⟨lb, 1, none⟩ = some (.int .i64 last)) (first | go_keep)
      (first | (go_at_call 22; refine (name_any last hl _).mono ?_; rintro e w3 ⟨rfl, t3⟩; have T3 := Lib.hid ((Tch.drew w1).trans0 t3); have d0 := T3.out.cell c0 (fun h => h); have d1 := T3.out.cell c1 (fun h => h); clear t3) | (go_at_call 26; refine (hrd.out _ T3.out).mono ?_; rintro e w4 ⟨old, rfl, b4, _, t4, _⟩; have T4 := Lib.hid (T3.out.trans0 t4); have e0 := T4.out.cell c0 (fun h => h); have e1 := T4.out.cell c1 (fun h => h); obtain ⟨ao, mo, co, rfl, hmo⟩ := b4.shape'; have HMO := Lib.hid hmo; clear b4 t4))
    --TAILS
    obtain ⟨old, hold⟩ : ∃ old, Hid (((mGet M (segNm last)).elim [] (·.b)).length = old) := ⟨_, rfl⟩
    have hmo2 : mo = old := HMO.out.trans hold.out
    subst hmo2
    have HFL := Lib.hid (show (frameM bs).length = n ∧ n ≤ 4006 by
      have h := B1.out.shape'
      obtain ⟨_, _, _, h1, h2⟩ := h
      injection h1 with _ h3 _
      exact ⟨h2.out.symm.trans h3.symm, hnb⟩)
    have HCN := Lib.hid hcnt
    have KT4 : Hid (KT K w w4) := KT.trans (KT.of0 T1.out) (KT.of0 T4.out)
    have H4' : Hid (LSt w4 lb db mb room M last A (fun k => K k ∨ k = g)) := H1.out.keep T4.out
    have BF4 : Hid (SlB w4 (.slice (some ⟨g, 0, none⟩) n gc) (frameM bs)) := B1.out.tch0 T4.out
    clear c0 c1 d0 d1 e0 e1 H1 H2 H3 hrd HMO B1
    by_cases ho : 2000 ≤ mo
    · have o1 : 2000 ≤ (mo : Int) := by omega
      go_wp2_with fail
      refine (lst_next H4'.out hl).mono ?_
      by_cases h9 : last = 999
      · have hqq : Hid (q = ⟨4, mSync M (segNm last), last, A⟩) := by rw [Hid, ← hq.out, addM, if_neg (fun h => h hfit), hold.out, if_pos ho, if_pos h9]
        rw [if_pos h9, if_pos h9]
        rintro e w5 ⟨rfl, h5, k5⟩
        have H5 := Lib.hid h5; have K5 := Lib.hid k5; clear h5 k5
        go_wp2_with fail
        go_ret
        rw [hqq.out]
        exact ⟨rfl, H5.out.less (fun k hk => .inl hk), KT4.out.trans (K5.out.mono (fun k _ hk => .inl hk))⟩
      · rw [if_neg h9, if_neg h9]
        rintro e w5 ⟨rfl, h5, k5⟩
        have H5 := Lib.hid h5
        have hl5 : last + 1 ≤ 999 := by omega
        have BF := Lib.hid (k5.slb BF4.out (fun k hk => by simp [Value.ownBlock] at hk; exact .inr hk.symm))
        have KT5 := Lib.hid (KT4.out.trans (k5.mono (K' := K) (fun k _ hk => .inl hk)))
        have HV5 := Lib.hid (KT5.out.slb HV.out HK.out)
        clear h5 k5 H4' BF4 KT4
        obtain ⟨vl, R, h1, h2, h3, h4⟩ := H5.out
        obtain ⟨al, ml, cl, rfl, hml⟩ := own_shape' h2.rows.row
        have c0 := h2.cell0
        have c1 := h2.cell1
        have H1' := Lib.hid h1; have H2 := Lib.hid h2; have H3 := Lib.hid h3; have H4 := Lib.hid h4
        have hRl : Hid (R.length + 1 ≤ 2000000000) := by
          have := congrArg List.length h1
          rw [List.length_map] at this
          rw [Hid]; omega
        clear h1 h2 h3 h4 hml
        obtain ⟨r, hr⟩ : ∃ r, Hid (mAppend (mSync M (segNm last)) room (segNm (last + 1)) (frameM bs) = r) := ⟨_, rfl⟩
        have happ : Hid (∀ W, Tch No w5 W → Calls Try.prog 29 #[.pointer (some ⟨db, 0, none⟩), .string (nameB (last + 1)), .slice (some ⟨g, 0, none⟩) n gc] W fun e w' => e = .returned (.int .i64 (r.1 : Nat)) ∧ DK w' db mb room r.2 (fun k => (K k ∨ k = g) ∨ LogF lb (.slice al ml cl) R k) ∧ KT (fun k => (K k ∨ k = g) ∨ LogF lb (.slice al ml cl) R k) W w') := fun W hW => by
          have := dk_append (H3.out.keep hW) (nameB (last + 1)) (.slice (some ⟨g, 0, none⟩) n gc) (frameM bs) (BF.out.tch0 hW) (fun k hk => by simp [Value.ownBlock] at hk; subst hk; exact .inl (.inr rfl)) (nm_lim _) (by have := HCN.out; first | omega | (simp only [mSync, List.length_map]; omega)) (by have := HFL.out; omega)
          rw [nameB_list, hr.out] at this
          exact this
        go_wp2_with fail
        go_region_held3 (fun W => W.cell? ⟨lb, 0, none⟩ = some (.pointer (some ⟨db, 0, none⟩)) ∧ W.cell? ⟨lb, 1, none⟩ = some (.int .i64 (((last + 1) : Nat) : Int))) (first | go_keep)
          (first | (go_at_call 22; refine (name_any ((last + 1)) hl5 _).mono ?_; rintro e w6 ⟨rfl, t6⟩; have T6 := Lib.hid ((Tch.drew w5).trans0 t6); have d0 := T6.out.cell c0 (fun h => h); have d1 := T6.out.cell c1 (fun h => h); clear t6) | (go_at_call 29; refine (happ.out _ T6.out).mono ?_; rintro e w7 ⟨rfl, d7, k7⟩; have D7 := Lib.hid d7; have K7 := Lib.hid (KT.trans (KT.of0 T6.out) k7); have e0 := K7.out.cell c0 (.inr (.inl rfl)); have e1 := K7.out.cell c1 (.inr (.inl rfl)); clear d7 k7))
        clear c0 c1 d0 d1 e0 e1
        by_cases hz : r.1 = 0
        · have z1 : ((r.1 : Nat) : Int) = 0 := by omega
          have hqq : Hid (q = ⟨0, r.2, (last + 1), A ++ [bs]⟩) := by rw [Hid, ← hq.out, addM, if_neg (fun h => h hfit), hold.out, if_pos ho, if_neg h9, putM, hr.out, if_pos hz]
          have hturn := Lib.hid (LSt.turn H1'.out H2.out H4.out D7.out K7.out)
          obtain ⟨vl', R', h1, h2, h3, h4⟩ := hturn.out.1
          obtain ⟨al', ml', cl', rfl, hml⟩ := own_shape' h2.rows.row
          have k2 := h2.cell2
          have hRl' : Hid (R'.length + 1 ≤ 2000000000) := by
            have := congrArg List.length h1
            rw [List.length_map] at this
            rw [Hid]; omega
          have G1' := Lib.hid h1; have G2 := Lib.hid h2; have G3 := Lib.hid h3; have G4 := Lib.hid h4
          have hbb : Hid (SlB w7 (.slice av mv cv) bs) := hturn.out.2.slb HV5.out (fun k hk => .inl (HK.out k hk))
          clear h1 h2 h3 h4 hml
          go_wp2_with fail
          go_region_law ((first
            | (refine step_clone rfl (.tmp 56) rfl av mv cv bs rfl (hbb.out.tch0 (Tch.drew _)) ?_; intro ax mx cx w8 b8 f8 t8; have T8 := (Tch.drew w7).trans0 t8; have k3 := T8.cell k2 (fun h => h); have k4 : ∀ o, (w8.alloc o).cell? ⟨lb, 2, none⟩ = some (.slice al' ml' cl') := fun o => (Tch.alloc w8 o).cell k3 (fun h => h))
            | (refine step_appR rfl _ (.tmp 58) rfl (.slice al' ml' cl') R'.length (R'.map (·.v)) rfl (own_tch G2.out.rows.row (T8.trans0 (Tch.alloc _ _)) (fun _ _ h => h)) ⟨w8.heap.size, 0, none⟩ 1 (.slice ax mx cx) rfl (by simp) rfl hRl'.out ?_; intro a1 n1 cp1 w1 hA1; obtain ⟨j1, j2⟩ := log_app G2.out (T8.trans0 (Tch.alloc _ _)) hA1)))
          all_goals
            go_wp2_with fail
            go_ret
            rw [hqq.out]
            have hfin := LSt.add G1'.out G2.out G3.out G4.out (T8.trans0 (Tch.alloc _ _)) (x := ⟨bs, .slice ax mx cx⟩) (b8.tch0 (Tch.alloc _ _)) (fun k hk => by have := f8 k hk; simpa using this) hA1
            exact ⟨rfl, hfin.1.less (fun k hk => .inl hk), KT5.out.trans ((hturn.out.2.trans hfin.2).mono (fun k _ hk => .inl hk))⟩
        · have z1 : ¬ ((r.1 : Nat) : Int) = 0 := by omega
          have hqq : Hid (q = ⟨r.1, r.2, (last + 1), A⟩) := by rw [Hid, ← hq.out, addM, if_neg (fun h => h hfit), hold.out, if_pos ho, if_neg h9, putM, hr.out, if_neg hz]
          have hturn := Lib.hid (LSt.turn H1'.out H2.out H4.out D7.out K7.out)
          go_wp2_with fail
          go_ret
          rw [hqq.out]
          exact ⟨rfl, hturn.out.1.less (fun k hk => .inl hk), KT5.out.trans (hturn.out.2.mono (fun k _ hk => .inl hk))⟩
    · have o1 : ¬ 2000 ≤ (mo : Int) := by omega
      have H5 := H4'
      have hl5 := hl
      have BF := BF4
      have KT5 := KT4
      have HV5 := Lib.hid (KT5.out.slb HV.out HK.out)
      clear H4' BF4 KT4
      obtain ⟨vl, R, h1, h2, h3, h4⟩ := H5.out
      obtain ⟨al, ml, cl, rfl, hml⟩ := own_shape' h2.rows.row
      have c0 := h2.cell0
      have c1 := h2.cell1
      have H1' := Lib.hid h1; have H2 := Lib.hid h2; have H3 := Lib.hid h3; have H4 := Lib.hid h4
      have hRl : Hid (R.length + 1 ≤ 2000000000) := by
        have := congrArg List.length h1
        rw [List.length_map] at this
        rw [Hid]; omega
      clear h1 h2 h3 h4 hml
      obtain ⟨r, hr⟩ : ∃ r, Hid (mAppend M room (segNm last) (frameM bs) = r) := ⟨_, rfl⟩
      have happ : Hid (∀ W, Tch No w4 W → Calls Try.prog 29 #[.pointer (some ⟨db, 0, none⟩), .string (nameB last), .slice (some ⟨g, 0, none⟩) n gc] W fun e w' => e = .returned (.int .i64 (r.1 : Nat)) ∧ DK w' db mb room r.2 (fun k => (K k ∨ k = g) ∨ LogF lb (.slice al ml cl) R k) ∧ KT (fun k => (K k ∨ k = g) ∨ LogF lb (.slice al ml cl) R k) W w') := fun W hW => by
        have := dk_append (H3.out.keep hW) (nameB last) (.slice (some ⟨g, 0, none⟩) n gc) (frameM bs) (BF.out.tch0 hW) (fun k hk => by simp [Value.ownBlock] at hk; subst hk; exact .inl (.inr rfl)) (nm_lim _) (by have := HCN.out; first | omega | (simp only [mSync, List.length_map]; omega)) (by have := HFL.out; omega)
        rw [nameB_list, hr.out] at this
        exact this
      go_wp2_with fail
      go_region_held3 (fun W => W.cell? ⟨lb, 0, none⟩ = some (.pointer (some ⟨db, 0, none⟩)) ∧ W.cell? ⟨lb, 1, none⟩ = some (.int .i64 last)) (first | go_keep)
        (first | (go_at_call 22; refine (name_any _ hl5 _).mono ?_; rintro e w6 ⟨rfl, t6⟩; have T6 := Lib.hid ((Tch.drew w4).trans0 t6); have d0 := T6.out.cell c0 (fun h => h); have d1 := T6.out.cell c1 (fun h => h); clear t6) | (go_at_call 29; refine (happ.out _ T6.out).mono ?_; rintro e w7 ⟨rfl, d7, k7⟩; have D7 := Lib.hid d7; have K7 := Lib.hid (KT.trans (KT.of0 T6.out) k7); have e0 := K7.out.cell c0 (.inr (.inl rfl)); have e1 := K7.out.cell c1 (.inr (.inl rfl)); clear d7 k7))
      clear c0 c1 d0 d1 e0 e1
      by_cases hz : r.1 = 0
      · have z1 : ((r.1 : Nat) : Int) = 0 := by omega
        have hqq : Hid (q = ⟨0, r.2, last, A ++ [bs]⟩) := by rw [Hid, ← hq.out, addM, if_neg (fun h => h hfit), hold.out, if_neg ho, putM, hr.out, if_pos hz]
        have hturn := Lib.hid (LSt.turn H1'.out H2.out H4.out D7.out K7.out)
        obtain ⟨vl', R', h1, h2, h3, h4⟩ := hturn.out.1
        obtain ⟨al', ml', cl', rfl, hml⟩ := own_shape' h2.rows.row
        have k2 := h2.cell2
        have hRl' : Hid (R'.length + 1 ≤ 2000000000) := by
          have := congrArg List.length h1
          rw [List.length_map] at this
          rw [Hid]; omega
        have G1' := Lib.hid h1; have G2 := Lib.hid h2; have G3 := Lib.hid h3; have G4 := Lib.hid h4
        have hbb : Hid (SlB w7 (.slice av mv cv) bs) := hturn.out.2.slb HV5.out (fun k hk => .inl (HK.out k hk))
        clear h1 h2 h3 h4 hml
        go_wp2_with fail
        go_region_law ((first
          | (refine step_clone rfl (.tmp 56) rfl av mv cv bs rfl (hbb.out.tch0 (Tch.drew _)) ?_; intro ax mx cx w8 b8 f8 t8; have T8 := (Tch.drew w7).trans0 t8; have k3 := T8.cell k2 (fun h => h); have k4 : ∀ o, (w8.alloc o).cell? ⟨lb, 2, none⟩ = some (.slice al' ml' cl') := fun o => (Tch.alloc w8 o).cell k3 (fun h => h))
          | (refine step_appR rfl _ (.tmp 58) rfl (.slice al' ml' cl') R'.length (R'.map (·.v)) rfl (own_tch G2.out.rows.row (T8.trans0 (Tch.alloc _ _)) (fun _ _ h => h)) ⟨w8.heap.size, 0, none⟩ 1 (.slice ax mx cx) rfl (by simp) rfl hRl'.out ?_; intro a1 n1 cp1 w1 hA1; obtain ⟨j1, j2⟩ := log_app G2.out (T8.trans0 (Tch.alloc _ _)) hA1)))
        all_goals
          go_wp2_with fail
          go_ret
          rw [hqq.out]
          have hfin := LSt.add G1'.out G2.out G3.out G4.out (T8.trans0 (Tch.alloc _ _)) (x := ⟨bs, .slice ax mx cx⟩) (b8.tch0 (Tch.alloc _ _)) (fun k hk => by have := f8 k hk; simpa using this) hA1
          exact ⟨rfl, hfin.1.less (fun k hk => .inl hk), KT5.out.trans ((hturn.out.2.trans hfin.2).mono (fun k _ hk => .inl hk))⟩
      · have z1 : ¬ ((r.1 : Nat) : Int) = 0 := by omega
        have hqq : Hid (q = ⟨r.1, r.2, last, A⟩) := by rw [Hid, ← hq.out, addM, if_neg (fun h => h hfit), hold.out, if_neg ho, putM, hr.out, if_neg hz]
        have hturn := Lib.hid (LSt.turn H1'.out H2.out H4.out D7.out K7.out)
        go_wp2_with fail
        go_ret
        rw [hqq.out]
        exact ⟨rfl, hturn.out.1.less (fun k hk => .inl hk), KT5.out.trans (hturn.out.2.mono (fun k _ hk => .inl hk))⟩
  · have hfr := Lib.hid (frame_no _ bs w hv hfit)
    have hqq : Hid (q = ⟨1, M, last, A⟩) := by rw [Hid, ← hq.out, addM, if_pos (show ¬ (1 ≤ bs.length ∧ bs.length ≤ 4000) from hfit)]
    have heq := fun (w : World) (a : Option Addr) (n c : Nat) => Lib.run_eql_slice_nil (P := Try.prog) w 22 5 a n c 0 0 Try.underlying22
    clear h hv hvK hmv
    go_enter Try.func25, Try.ntmps25
    go_wp2_with fail
    refine hfr.out.mono ?_
    rintro e w1 ⟨rfl, rfl⟩
    go_wp2_with fail
    go_ret
    rw [hqq.out]
    exact ⟨rfl, H.out, KT.refl _ _⟩
end Go.Proofs.Ytcjlgdldhcbcjaa
