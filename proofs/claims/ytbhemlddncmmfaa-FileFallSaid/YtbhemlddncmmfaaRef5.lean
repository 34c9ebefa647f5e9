/- The reference's disk: Rename, Append. No condition. -/
import Derived.Test.YtbhemlddncmmfaaRef4
namespace Go.Proofs.Ytbhemlddncmmfaa
open Go.RowKit Go.Maps
set_option linter.unusedVariables false
set_option linter.unusedSimpArgs false

theorem mGet_del {M : List FE} {a b : Key} (h : a ≠ b) : mGet (mDel M b) a = mGet M a := by
  unfold mDel mGet
  rw [List.find?_filter]
  congr 1
  funext x
  rw [Bool.eq_iff_iff]
  simp only [bne_iff_ne, ne_eq, Bool.and_eq_true, beq_iff_eq, Bool.decide_and, Bool.not_eq_true', decide_eq_true_eq]
  constructor
  · exact fun h => h.2
  · rintro e; exact ⟨by simpa using fun q : x.name = b => h (by rw [← e, q]), e⟩
theorem mDel_self {M : List FE} {n : Key} (h : mGet M n = none) : mDel M n = M := by
  unfold mDel
  rw [List.filter_eq_self]
  intro y hy
  have hne := mGet_none h
  have : y.name ≠ n := fun e => hne (by rw [← e]; exact List.mem_map_of_mem (f := fun x : FE => x.name) hy)
  simpa using this
theorem str_ne {s t : ByteArray} (h : s.data.toList ≠ t.data.toList) : (s.toList == t.toList) = false := by
  rw [beq_eq_false_iff_ne]
  intro q
  rw [ByteArray.toList_eq, ByteArray.toList_eq] at q
  exact h (by rw [bytes_ext q])
/-- What is known where the renamed file's place is asked for. -/
theorem ren_at {w : World} {rb room : Nat} {v1 : Value} {L1 : List RE} (h : IsRef w rb room v1 L1) {M : List FE} {s t : ByteArray} (hM : L1.map (·.f) = mDel M t.data.toList) (hst : s.data.toList ≠ t.data.toList) (hs : (mGet M s.data.toList).isSome = true) (hcnt : L1.length ≤ 999999) (htl : t.data.toList.length ≤ lim) :
    ∃ i g m cap, v1 = .slice (some ⟨g, 0, none⟩) m cap ∧ i < m ∧ m ≤ 999999 ∧ Hid (Calls Try.prog 37 #[.pointer (some ⟨rb, 0, none⟩), .string s] w fun e w' => e = .returned (.int .i64 (i : Nat)) ∧ w = w') ∧
      (∃ u, w.cell? ⟨g, i * 4, none⟩ = some (.string u)) ∧ (∃ u, w.cell? ⟨g, i * 4 + 3, none⟩ = some (.bool u)) ∧ w.frozen? ⟨g, i * 4, none⟩ = false ∧ w.frozen? ⟨g, i * 4 + 3, none⟩ = false ∧
      Hid (RefPost w rb room v1 L1 (.int .i64 0) (mRen M s.data.toList t.data.toList) (.returned (.int .i64 0)) ((w.setCell ⟨g, i * 4, none⟩ (.string t)).setCell ⟨g, i * 4 + 3, none⟩ (.bool true))) := by
  have hat := at_any rb room v1 L1 s w h (by omega)
  rcases at_split (L1.map (·.f)) s.data.toList with ⟨i, hi, h1, h2, h3⟩ | ⟨h1, h2⟩
  · have hiL : i < L1.length := by simpa using hi
    rw [h1] at hat
    obtain ⟨g, cap, hv, k0, k1, k2, k3⟩ := h.at_ hiL
    subst hv
    have hclose := ren_close h hiL t (fun x hx e => by
      have hx' : x.f ∈ L1.map (·.f) := List.mem_map_of_mem (f := fun x : RE => x.f) hx
      rw [hM] at hx'
      have := (List.mem_filter.1 hx').2
      simp [e] at this) htl
    have e2 : L1[i].f.name = s.data.toList := by simpa using h2
    rw [e2, hM] at hclose
    exact ⟨i, g, L1.length, cap, rfl, hiL, hcnt, hat, ⟨_, k0⟩, ⟨_, k3⟩, h.row.frozenAt _, h.row.frozenAt _, hclose⟩
  · rw [hM, mGet_del hst] at h2
    rw [h2] at hs
    cases hs

set_option maxRecDepth 100000 in
set_option maxHeartbeats 2000000 in
theorem rrename_any (rb room : Nat) (v : Value) (L : List RE) (s t : ByteArray) (w : World) (h : IsRef w rb room v L) (htl : t.data.toList.length ≤ lim) (hcnt : L.length ≤ 999999) :
    Calls Try.prog 26 #[.pointer (some ⟨rb, 0, none⟩), .string s, .string t] w (RefPost w rb room v L (.int .i64 ((mRename (L.map (·.f)) s.data.toList t.data.toList).1 : Nat)) (mRename (L.map (·.f)) s.data.toList t.data.toList).2) := by
  have hmay := Lib.hid (may_any t w htl)
  have H := Lib.hid h
  obtain ⟨mr, hmr⟩ : ∃ mr, Hid (mRename (L.map (·.f)) s.data.toList t.data.toList = mr) := ⟨_, rfl⟩
  rw [hmr.out]
  cases hg : goodB t.data.toList with
  | false =>
    rw [hg] at hmay
    have hmm : Hid (mr = (1, L.map (·.f))) := by rw [Hid, ← hmr.out, mRename, if_pos hg]
    clear h hg
    go_enter Try.func26, Try.ntmps26
    go_wp2_with (go_at_call 42; go_must (refine hmay.out.mono ?_); rintro e w1 ⟨rfl, rfl⟩)
    go_ret
    rw [hmm.out]
    exact RefPost.same H.out
  | true =>
    rw [hg] at hmay
    have hat := Lib.hid (at_any rb room v L s w h (by omega))
    rcases at_split (L.map (·.f)) s.data.toList with ⟨i, hi, h1, h2, h3⟩ | ⟨h1, h2⟩
    · rw [h1] at hat
      have hsome : Hid ((mGet (L.map (·.f)) s.data.toList).isSome = true) := by rw [Hid, h3]; rfl
      by_cases hst : s.data.toList = t.data.toList
      · have hmm : Hid (mr = (0, L.map (·.f))) := by rw [Hid, ← hmr.out, mRename, if_neg (by rw [hg]; simp), if_neg (by rw [hsome.out]; simp), if_pos hst]
        have : s = t := bytes_ext hst
        subst this
        clear h h1 h2 h3 hi hst hg
        go_enter Try.func26, Try.ntmps26
        go_wp2_with (first
          | (go_at_call 42; go_must (refine hmay.out.mono ?_); rintro e w1 ⟨rfl, rfl⟩)
          | (go_at_call 37; go_must (refine hat.out.mono ?_); rintro e w1 ⟨rfl, rfl⟩))
        go_ret
        rw [hmm.out]
        exact RefPost.same H.out
      · have hmm : Hid (mr = (0, mRen (L.map (·.f)) s.data.toList t.data.toList)) := by rw [Hid, ← hmr.out, mRename, if_neg (by rw [hg]; simp), if_neg (by rw [hsome.out]; simp), if_neg hst]
        have hne := str_ne hst
        have HST := Lib.hid hst
        have hat2 := Lib.hid (at_any rb room v L t w h (by omega))
        clear h h1 h2 h3 hi hst hg
        rcases at_split (L.map (·.f)) t.data.toList with ⟨j, hj, h1, h2, h3⟩ | ⟨h1, h2⟩
        · rw [h1] at hat2
          have hgo := Lib.hid (gone_any rb room v L j w H.out (by simpa using hj) hcnt)
          have hE : Hid ((L.map (·.f)).eraseIdx j = mDel (L.map (·.f)) t.data.toList) := by
            have h4 : (names (L.map (·.f))).Nodup := nd_map H.out.nodup
            rw [Hid, erase_del h4 hj, h2]
          rw [hE.out] at hgo
          clear h1 h2 h3 hj
          go_enter Try.func26, Try.ntmps26
          go_wp2_with fail
          refine hmay.out.mono ?_
          rintro e w1 ⟨rfl, rfl⟩
          go_wp2_with fail
          refine hat.out.mono ?_
          rintro e w1 ⟨rfl, rfl⟩
          go_wp2_with fail
          refine hat2.out.mono ?_
          rintro e w1 ⟨rfl, rfl⟩
          go_wp2_with fail
          refine hgo.out.mono ?_
          rintro e w1 ⟨rfl, v1, L1, q1, q2, q3, q4⟩
          have hcnt1 : L1.length ≤ 999999 := by
            have := congrArg List.length q1
            rw [List.length_map] at this
            have h5 : (mDel (L.map (·.f)) t.data.toList).length ≤ (L.map (·.f)).length := List.length_filter_le _ _
            rw [List.length_map] at h5
            omega
          obtain ⟨i', g, m, cap, rfl, hi', hm', hat', ⟨u1, k1⟩, ⟨u2, k2⟩, f1, f2, HC⟩ := ren_at q2 q1 HST.out hsome.out hcnt1 htl
          have c1 := q2.cell1
          have Q3 := Lib.hid q3
          have Q4 := Lib.hid q4
          have hi1 : (i' : Int) < (m : Int) := by omega
          have hi0 : (0 : Int) ≤ (i' : Int) := by omega
          go_wp2_with fail
          refine hat'.out.mono ?_
          rintro e w2 ⟨rfl, rfl⟩
          go_wp2_with fail
          go_region
          go_wp2_with fail
          go_ret
          rw [hmm.out]
          exact RefPost.trans Q3.out Q4.out HC.out.drew
        · rw [h1] at hat2
          have hD : Hid (L.map (·.f) = mDel (L.map (·.f)) t.data.toList) := (mDel_self h2).symm
          clear h1 h2
          have c1 := H.out.cell1
          obtain ⟨i', g, m, cap, rfl, hi', hm', hat', ⟨u1, k1⟩, ⟨u2, k2⟩, f1, f2, HC⟩ := ren_at H.out hD.out HST.out hsome.out hcnt htl
          go_enter Try.func26, Try.ntmps26
          go_wp2_with fail
          refine hmay.out.mono ?_
          rintro e w1 ⟨rfl, rfl⟩
          go_wp2_with fail
          refine hat.out.mono ?_
          rintro e w1 ⟨rfl, rfl⟩
          go_wp2_with fail
          refine hat2.out.mono ?_
          rintro e w1 ⟨rfl, rfl⟩
          have hi1 : (i' : Int) < (m : Int) := by omega
          have hi0 : (0 : Int) ≤ (i' : Int) := by omega
          go_wp2_with fail
          refine hat'.out.mono ?_
          rintro e w2 ⟨rfl, rfl⟩
          go_wp2_with fail
          go_region
          go_wp2_with fail
          go_ret
          rw [hmm.out]
          exact HC.out.drew
    · rw [h1] at hat
      have hmm : Hid (mr = (6, L.map (·.f))) := by rw [Hid, ← hmr.out, mRename, if_neg (by rw [hg]; simp), if_pos (by rw [h2]; rfl)]
      clear h h1 h2 hg
      go_enter Try.func26, Try.ntmps26
      go_wp2_with (first
        | (go_at_call 42; go_must (refine hmay.out.mono ?_); rintro e w1 ⟨rfl, rfl⟩)
        | (go_at_call 37; go_must (refine hat.out.mono ?_); rintro e w1 ⟨rfl, rfl⟩))
      go_ret
      rw [hmm.out]
      exact RefPost.same H.out
end Go.Proofs.Ytbhemlddncmmfaa
