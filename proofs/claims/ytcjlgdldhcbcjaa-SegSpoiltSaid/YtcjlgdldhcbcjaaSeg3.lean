/- Segments: a log's Force, Next, At, mend. No condition. -/
import Derived.Test.YtcjlgdldhcbcjaaSeg2
import Derived.Test.YtcjlgdldhcbcjaaLog1
namespace Go.Proofs.Ytcjlgdldhcbcjaa
open Go.RowKit Go.Maps
set_option linter.unusedVariables false
set_option linter.unusedSimpArgs false

variable {K : Nat → Prop} {w : World} {db mb room lb last : Nat} {M : List FE} {A : List (List UInt8)}
theorem nm_max (n : Nat) : (nameB n).size ≤ maxLen := by rw [nameB_size]; unfold maxLen; omega
theorem nm_lim (n : Nat) : (nameB n).data.toList.length ≤ lim := by rw [nameB_list]; simp [segNm, lim]
def newB : ByteArray := ⟨#[110, 101, 119]⟩
def newK : Key := [110, 101, 119]
/-- The disk's cells of a log, kept over a turn of the disk. -/
theorem log_cells {v : Value} {R : List BE} (h2 : IsLog w lb db last v R) {w' : World} (t : KT (fun k => K k ∨ LogF lb v R k) w w') : w'.cell? ⟨lb, 0, none⟩ = some (.pointer (some ⟨db, 0, none⟩)) ∧ w'.cell? ⟨lb, 1, none⟩ = some (.int .i64 last) ∧ w'.cell? ⟨lb, 2, none⟩ = some v :=
  ⟨t.cell h2.cell0 (.inr (.inl rfl)), t.cell h2.cell1 (.inr (.inl rfl)), t.cell h2.cell2 (.inr (.inl rfl))⟩
set_option maxRecDepth 100000 in
set_option maxHeartbeats 1000000 in
theorem lst_force (h : LSt w lb db mb room M last A K) (hl : last ≤ 999) :
    Calls Try.prog 32 #[.pointer (some ⟨lb, 0, none⟩)] w fun e w' => e = .returned (.int .i64 0) ∧ LSt w' lb db mb room (mSync M (segNm last)) last A K ∧ KT K w w' := by
  obtain ⟨v, R, h1, h2, h3, h4⟩ := h
  have c0 := h2.cell0
  have c1 := h2.cell1
  have H1 := Lib.hid h1; have H2 := Lib.hid h2; have H3 := Lib.hid h3; have H4 := Lib.hid h4
  clear h1 h2 h3 h4
  cases hg : (mGet M (segNm last)).isSome
  all_goals
    go_enter Try.func32, Try.ntmps32
    go_wp2_with fail
    go_region_held3 (fun W => W.cell? ⟨lb, 0, none⟩ = some (.pointer (some ⟨db, 0, none⟩)) ∧ W.cell? ⟨lb, 1, none⟩ = some (.int .i64 last)) (first | go_keep)
      (first | (go_at_call 22; refine (name_any last hl _).mono ?_; rintro e w1 ⟨rfl, t1⟩; have T1 := Lib.hid ((Tch.drew w).trans0 t1); have d0 := T1.out.cell c0 (fun h => h); have d1 := T1.out.cell c1 (fun h => h); clear t1) | (go_at_call 53; refine (dk_sync (H3.out.keep T1.out) (nameB last) (nm_max _)).mono ?_; rintro e w2 ⟨he, hd, kt⟩; rw [nameB_list, hg] at he; simp only [Bool.false_eq_true, if_true, if_false] at he; subst he; have KT2 := Lib.hid (KT.trans (KT.of0 T1.out) kt); have HD := Lib.hid hd; have e0 := KT2.out.cell c0 (.inr (.inl rfl)); have e1 := KT2.out.cell c1 (.inr (.inl rfl)); clear hd kt))
    go_wp2_with fail
    go_ret
    have := LSt.turn H1.out H2.out H4.out HD.out KT2.out
    exact ⟨rfl, this.1, this.2⟩
set_option maxRecDepth 100000 in
set_option maxHeartbeats 1000000 in
theorem lst_next (h : LSt w lb db mb room M last A K) (hl : last ≤ 999) :
    Calls Try.prog 34 #[.pointer (some ⟨lb, 0, none⟩)] w fun e w' => e = .returned (.int .i64 (if last = 999 then 4 else 0)) ∧ LSt w' lb db mb room (mSync M (segNm last)) (if last = 999 then last else last + 1) A K ∧ KT K w w' := by
  have H := Lib.hid h; clear h
  by_cases h9 : last = 999
  · subst h9
    go_enter Try.func34, Try.ntmps34
    go_wp2_with fail
    refine (lst_force H.out hl).mono ?_
    rintro e w1 ⟨rfl, h1, k1⟩
    have c1 : w1.cell? ⟨lb, 1, none⟩ = some (.int .i64 ((999 : Nat) : Int)) := by obtain ⟨v, R, q1, q2, q3, q4⟩ := h1; exact q2.cell1
    have H1 := Lib.hid h1; have K1 := Lib.hid k1; clear h1 k1
    go_wp2_with fail
    go_ret
    exact ⟨rfl, H1.out, K1.out⟩
  · have p1 : ¬ (last : Int) = 999 := by omega
    have p2 : (last : Int) ≤ 999 := by omega
    rw [if_neg h9, if_neg h9]
    go_enter Try.func34, Try.ntmps34
    go_wp2_with fail
    refine (lst_force H.out hl).mono ?_
    rintro e w1 ⟨rfl, h1, k1⟩
    have c1 : w1.cell? ⟨lb, 1, none⟩ = some (.int .i64 (last : Int)) := by obtain ⟨v, R, q1, q2, q3, q4⟩ := h1; exact q2.cell1
    have f1 : w1.frozen? ⟨lb, 1, none⟩ = false := by obtain ⟨v, R, q1, q2, q3, q4⟩ := h1; exact blk_free q2.log 1
    have H1 := Lib.hid h1; have K1 := Lib.hid k1; clear h1 k1
    go_wp2_with fail
    go_ret
    have := H1.out.setLast (last + 1)
    exact ⟨rfl, by simpa using this.1, K1.out.trans (by simpa using this.2)⟩
set_option maxRecDepth 100000 in
theorem lst_at (h : LSt w lb db mb room M last A K) : Calls Try.prog 28 #[.pointer (some ⟨lb, 0, none⟩)] w fun e w' => e = .returned (.int .i64 (last : Int)) ∧ w = w' := by
  have c1 : w.cell? ⟨lb, 1, none⟩ = some (.int .i64 (last : Int)) := by obtain ⟨v, R, q1, q2, q3, q4⟩ := h; exact q2.cell1
  clear h
  go_enter Try.func28, Try.ntmps28
  go_wp2_with fail
  go_ret
  exact ⟨rfl, rfl⟩
/-- A segment is written anew. -/
def mendM (M : List FE) (room n : Nat) (bs : List UInt8) : Nat × List FE :=
  if (mAppend M room newK bs).1 ≠ 0 then mAppend M room newK bs
  else if (mGet (mAppend M room newK bs).2 newK).isSome then mRename (mSync (mAppend M room newK bs).2 newK) newK (segNm n)
  else (6, mSync (mAppend M room newK bs).2 newK)
set_option maxRecDepth 100000 in
set_option maxHeartbeats 1000000 in
theorem lst_mend (h : LSt w lb db mb room M last A K) (n : Nat) (hn : n ≤ 999) (v : Value) (bs : List UInt8) (hv : SlB w v bs) (hvK : ∀ k, v.ownBlock = some k → K k) (hcnt : M.length ≤ 999990) (hbl : bs.length ≤ 900000000) :
    Calls Try.prog 49 #[.pointer (some ⟨lb, 0, none⟩), .int .i64 n, v] w fun e w' => e = .returned (.int .i64 ((mendM M room n bs).1 : Nat)) ∧ LSt w' lb db mb room (mendM M room n bs).2 last A K ∧ KT K w w' := by
  obtain ⟨vl, R, h1, h2, h3, h4⟩ := h
  have c0 := h2.cell0
  have H1 := Lib.hid h1; have H2 := Lib.hid h2; have H3 := Lib.hid h3; have H4 := Lib.hid h4; have HV := Lib.hid hv; have HK := Lib.hid hvK
  obtain ⟨av, mv, cv, rfl, hmv⟩ := hv.shape'
  obtain ⟨r, hr⟩ : ∃ r, mAppend M room newK bs = r := ⟨_, rfl⟩
  have HLen := Lib.hid (show r.2.length ≤ M.length + 1 by
    rw [← hr]; unfold mAppend
    split
    · simp
    split
    · simp
    show (mAppL M newK bs).length ≤ _
    unfold mAppL; split <;> simp)
  have happ : Hid (Calls Try.prog 29 #[.pointer (some ⟨db, 0, none⟩), .string newB, .slice av mv cv] w fun e w' => e = .returned (.int .i64 (r.1 : Nat)) ∧ DK w' db mb room r.2 (fun k => K k ∨ LogF lb vl R k) ∧ KT (fun k => K k ∨ LogF lb vl R k) w w') := by
    have := dk_append H3.out newB (.slice av mv cv) bs hv (fun k hk => .inl (hvK k hk)) (by decide) (by omega) hbl
    rw [show newB.data.toList = newK from rfl, hr] at this
    exact this
  obtain ⟨q, hq⟩ : ∃ q, Hid (mendM M room n bs = q) := ⟨_, rfl⟩
  rw [hq.out]
  have hq2 : Hid (q = if r.1 ≠ 0 then r else if (mGet r.2 newK).isSome then mRename (mSync r.2 newK) newK (segNm n) else (6, mSync r.2 newK)) := by rw [Hid, ← hq.out, mendM, hr]
  clear h1 h2 h3 h4 hv hvK hr hmv hq
  go_enter Try.func49, Try.ntmps49
  go_wp2_with fail
  refine happ.out.mono ?_
  rintro e w1 ⟨rfl, d1, k1⟩
  have D1 := Lib.hid d1; have K1 := Lib.hid k1
  have c1 := k1.cell c0 (.inr (.inl rfl))
  clear d1 k1
  by_cases hz : r.1 = 0
  · have p1 : ((r.1 : Nat) : Int) = 0 := by omega
    cases hg : (mGet r.2 newK).isSome
    · go_wp2_with fail
      refine (dk_sync D1.out newB (by decide)).mono ?_
      rintro e w2 ⟨he, d2, k2⟩
      rw [show newB.data.toList = newK from rfl, hg] at he
      simp only [Bool.false_eq_true, if_false] at he
      subst he
      have D2 := Lib.hid d2; have K2 := Lib.hid (K1.out.trans k2); clear d2 k2
      go_wp2_with fail
      go_ret
      rw [show q = (6, mSync r.2 newK) by rw [hq2.out, if_neg (by simpa using hz), hg]; rfl]
      have := LSt.turn H1.out H2.out H4.out D2.out K2.out
      exact ⟨rfl, this.1, this.2⟩
    · go_wp2_with fail
      refine (dk_sync D1.out newB (by decide)).mono ?_
      rintro e w2 ⟨he, d2, k2⟩
      rw [show newB.data.toList = newK from rfl, hg] at he
      simp only [if_true] at he
      subst he
      have D2 := Lib.hid d2; have K2 := Lib.hid (K1.out.trans k2)
      have c2 := k2.cell c1 (.inr (.inl rfl))
      clear d2 k2
      go_wp2_with fail
      have hre : Hid (∀ W, Tch No w2 W → Calls Try.prog 61 #[.pointer (some ⟨db, 0, none⟩), .string newB, .string (nameB n)] W fun e w' => e = .returned (.int .i64 ((mRename (mSync r.2 newK) newK (segNm n)).1 : Nat)) ∧ DK w' db mb room (mRename (mSync r.2 newK) newK (segNm n)).2 (fun k => K k ∨ LogF lb vl R k) ∧ KT (fun k => K k ∨ LogF lb vl R k) W w') := fun W hW => dk_rename (D2.out.keep hW) newB (nameB n) (by decide) (nm_lim n) (by
        have := HLen.out
        simp only [mSync, List.length_map]
        omega)
      go_region_held3 (fun W => W.cell? ⟨lb, 0, none⟩ = some (.pointer (some ⟨db, 0, none⟩))) (first | go_keep)
        (first | (go_at_call 22; refine (name_any n hn _).mono ?_; rintro e w3 ⟨rfl, t3⟩; have T3 := Lib.hid ((Tch.drew w2).trans0 t3); have c3 := T3.out.cell c2 (fun h => h); clear t3) | (go_at_call 61; refine (hre.out _ T3.out).mono ?_; rintro e w4 ⟨rfl, d4, k4⟩; have D4 := Lib.hid d4; have K4 := Lib.hid (K2.out.trans (KT.trans (KT.of0 T3.out) k4)); have c4 := k4.cell c3 (.inr (.inl rfl)); clear d4 k4))
      go_wp2_with fail
      go_ret
      rw [show q = mRename (mSync r.2 newK) newK (segNm n) by rw [hq2.out, if_neg (by simpa using hz), hg]; rfl]
      have := LSt.turn H1.out H2.out H4.out D4.out K4.out
      exact ⟨rfl, this.1, this.2⟩
  · have p1 : ¬ ((r.1 : Nat) : Int) = 0 := by omega
    go_wp2_with fail
    go_ret
    rw [show q = r by rw [hq2.out, if_pos hz]]
    have := LSt.turn H1.out H2.out H4.out D1.out K1.out
    exact ⟨rfl, this.1, this.2⟩
end Go.Proofs.Ytcjlgdldhcbcjaa
