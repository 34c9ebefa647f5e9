/- Segments: Open. No condition. -/
import Derived.Test.YtcjlgdldhcbcjaaSeg6
import Derived.Deep.DeepCutAuto
import Derived.Outline
namespace Go.Proofs.Ytcjlgdldhcbcjaa
open Go.RowKit Go.Maps
set_option linter.unusedVariables false
set_option linter.unusedSimpArgs false

variable {K : Nat → Prop} {w : World} {db mb room lb last : Nat} {M : List FE} {A : List (List UInt8)}
def segB (M : List FE) (n : Nat) : List UInt8 := (mGet M (segNm n)).elim [] (·.b)
/-- The greatest segment that there is, above f; else f. -/
def topF (M : List FE) (f : Nat) : Nat → Nat
  | 0 => f
  | n + 1 => if n + 1 ≤ f then f else if (mGet M (segNm (n + 1))).isSome then n + 1 else topF M f n
/-- Segments from n on, 'left' of them. -/
def openF (room last : Nat) : Nat → List FE → Nat → List (List UInt8) → ARes
  | 0, M, _, A => ⟨0, M, last, A⟩
  | k + 1, M, n, A =>
    if (framesM (segB M n)).err ≠ 0 then ⟨(framesM (segB M n)).err, M, last, A⟩
    else if (framesM (segB M n)).torn = true ∧ n < last then ⟨3, M, last, A⟩
    else if (framesM (segB M n)).torn = false then openF room last k M (n + 1) (A ++ (framesM (segB M n)).all)
    else if (mendM M room n ((segB M n).take (framesM (segB M n)).len)).1 ≠ 0 then ⟨(mendM M room n ((segB M n).take (framesM (segB M n)).len)).1, (mendM M room n ((segB M n).take (framesM (segB M n)).len)).2, last, A⟩
    else openF room last k (mendM M room n ((segB M n).take (framesM (segB M n)).len)).2 (n + 1) (A ++ (framesM (segB M n)).all)
def openM (room : Nat) (M : List FE) (f : Nat) : ARes := openF room (topF (mDel M newK) f 999) (topF (mDel M newK) f 999 + 1 - f) (mDel M newK) f []
def OpenPost (K : Nat → Prop) (w : World) (db mb room : Nat) (q : ARes) (e : Ending) (w' : World) : Prop :=
  (∃ lb, q.err = 0 ∧ e = .returned (.tuple #[.pointer (some ⟨lb, 0, none⟩), .int .i64 0]) ∧ LSt w' lb db mb room q.M q.last q.A K ∧ KT K w w') ∨
  (q.err ≠ 0 ∧ e = .returned (.tuple #[.pointer none, .int .i64 (q.err : Nat)]) ∧ DK w' db mb room q.M K ∧ KT K w w')
theorem topF_le (M : List FE) (f : Nat) : ∀ n, topF M f n ≤ max f n ∧ f ≤ topF M f n
  | 0 => by simp [topF]
  | n + 1 => by
    have := topF_le M f n
    unfold topF
    split
    · omega
    split
    · omega
    · omega
theorem lenMend (M : List FE) (room n : Nat) (bs : List UInt8) : (mendM M room n bs).2.length ≤ M.length + 1 := by
  have lenA : ∀ (M : List FE) (n : Key) (bs : List UInt8), (mAppend M room n bs).2.length ≤ M.length + 1 := fun M n bs => by
    unfold mAppend
    split
    · simp
    split
    · simp
    show (mAppL M n bs).length ≤ _
    unfold mAppL; split <;> simp
  have lenR : ∀ (M : List FE) (a b : Key), (mRename M a b).2.length ≤ M.length := fun M a b => by
    unfold mRename
    split
    · simp
    split
    · simp
    split
    · simp
    show (mRen M a b).length ≤ _
    unfold mRen; rw [List.length_map]; exact List.length_filter_le _ _
  have lenS : ∀ (M : List FE) (n : Key), (mSync M n).length = M.length := fun M n => by unfold mSync; simp
  have h1 := lenA M newK bs
  unfold mendM
  split
  · exact h1
  split
  · have := lenR (mSync (mAppend M room newK bs).2 newK) newK (segNm n)
    rw [lenS] at this
    omega
  · simp only [lenS]; exact h1
theorem mUsed_mem : ∀ {M : List FE} {x : FE}, x ∈ M → x.b.length ≤ mUsed M
  | [], x, h => by simp at h
  | y :: r, x, h => by
    rcases List.mem_cons.1 h with rfl | h
    · simp [mUsed]
    · have := mUsed_mem h
      simp only [mUsed, List.map_cons, List.sum_cons] at this ⊢
      omega
theorem segB_le (h : DK w db mb room M K) (n : Nat) : (segB M n).length ≤ 1048576 := by
  have h1 := h.sz.1
  unfold segB
  cases hg : mGet M (segNm n) with
  | none => simp
  | some x =>
    have hx : x ∈ M := List.mem_of_find?_eq_some hg
    have : x.b.length ≤ mUsed M := mUsed_mem hx
    simp only [Option.elim]
    omega
theorem open_range (h : DK w db mb room M K) (f : Int) (hf : f < 0 ∨ 999 < f) : Calls Try.prog 24 #[.pointer (some ⟨db, 0, none⟩), .int .i64 f] w fun e w' => e = .returned (.tuple #[.pointer none, .int .i64 4]) ∧ w = w' := by
  have hn := Lib.hid (name_out f hf w)
  clear h hf
  go_enter Try.func24, Try.ntmps24
  go_wp2_with fail
  refine hn.out.mono ?_
  rintro e w1 ⟨rfl, rfl⟩
  go_wp2_with fail
  go_ret2
  exact ⟨rfl, rfl⟩
set_option maxRecDepth 100000 in
set_option maxHeartbeats 4000000 in
theorem open_any (h : DK w db mb room M K) (f : Nat) (hf : f ≤ 999) (hcnt : M.length ≤ 990000) :
    Calls Try.prog 24 #[.pointer (some ⟨db, 0, none⟩), .int .i64 f] w (OpenPost K w db mb room (openM room M f)) := by
  obtain ⟨q, hq⟩ : ∃ q, Hid (openM room M f = q) := ⟨_, rfl⟩
  rw [hq.out]
  have H := Lib.hid h
  obtain ⟨M1, hM1⟩ : ∃ M1, mDel M newK = M1 := ⟨_, rfl⟩
  obtain ⟨tp, htp⟩ : ∃ tp, topF M1 f 999 = tp := ⟨_, rfl⟩
  have hq1 : Hid (openF room tp (tp + 1 - f) M1 f [] = q) := by have := hq.out; rw [openM, hM1, htp] at this; exact this
  have HTP := Lib.hid htp
  have htl : f ≤ tp ∧ tp ≤ 999 := by have := topF_le M1 f 999; omega
  have hl1 : M1.length ≤ 990000 := by rw [← hM1]; exact Nat.le_trans (List.length_filter_le _ _) hcnt
  have hdel : Hid (∀ W, Tch No w W → Calls Try.prog 47 #[.pointer (some ⟨db, 0, none⟩), .string newB] W fun e w' => ∃ r : Int, e = .returned (.int .i64 r) ∧ DK w' db mb room M1 K ∧ KT K W w') := fun W hW => by
    refine (dk_delete (H.out.keep hW) newB (by decide)).mono ?_
    rintro e w' ⟨h1, h2, h3⟩
    rw [show newB.data.toList = newK from rfl, hM1] at h2
    exact ⟨_, h1, h2, h3⟩
  have hnb : ∀ n, (nameB n).toList = segNm n := fun n => by rw [ByteArray.toList_eq]; rfl
  clear h hq hM1 htp hcnt
  go_enter Try.func24, Try.ntmps24
  go_wp2_with fail
  refine (name_any f hf w).mono ?_
  rintro e w1 ⟨rfl, t1⟩
  have T1 := Lib.hid t1; clear t1
  go_wp2_with fail
  refine (hdel.out _ T1.out).mono ?_
  rintro e w2 ⟨r, rfl, d2, k2⟩
  have D2 := Lib.hid d2; have K2 := Lib.hid (KT.trans (KT.of0 T1.out) k2); clear d2 k2 hdel H
  have L0 := Lib.hid (LSt.new D2.out f)
  have K3 := Lib.hid (K2.out.trans (KT.of0 (Tch.alloc w2 (.cells #[.pointer (some ⟨db, 0, none⟩), .int .i64 f, .slice none 0 0] 73))))
  go_upto_region 7 with fail
  iterate 7 go_step
  go_cut [7, 8, 9] from 30 to 46 (fun s7 s8 s9 wx => Hid (LSt wx w2.heap.size db mb room M1 tp [] K) ∧ Hid (KT K w wx))
  case first =>
    go_wp2_with fail
    go_loopw [7] (fun i wr => ∃ n : Nat, f ≤ n ∧ n ≤ 999 ∧ i = .int .i64 n ∧ Hid (LSt wr w2.heap.size db mb room M1 f [] K) ∧ Hid (KT K w wr) ∧ Hid (topF M1 f n = tp)) (fun i _ => (intOf i).toNat - f)
    case atStart => exact ⟨999, by omega, by omega, rfl, L0, K3, HTP⟩
    case round =>
      clear L0 K3 HTP D2 K2 T1
      obtain ⟨n, hn1, hn2, rfl, HL, HT, HP⟩ := hrel
      by_cases hgt : f < n
      · have p1 : (f : Int) < (n : Int) := by omega
        obtain ⟨n', rfl⟩ : ∃ n', n = n' + 1 := ⟨n - 1, by omega⟩
        have hP := HP.out
        unfold topF at hP
        rw [if_neg (by omega)] at hP
        obtain ⟨sn, hsn⟩ : ∃ sn, n' + 1 = sn := ⟨_, rfl⟩
        have hnn : n' = sn - 1 := by omega
        subst hnn
        rw [hsn] at hP hn2 hgt p1 ⊢
        go_wp2_with fail
        refine (name_any sn (by omega) wr).mono ?_
        rintro e w4 ⟨rfl, t4⟩
        have T4 := Lib.hid t4; clear t4
        go_wp2_with fail
        cases hg : (mGet M1 (segNm sn)).isSome
        · rw [hg] at hP
          have HP2 : Hid (topF M1 f (sn - 1) = tp) := by rw [Hid]; simpa using hP
          clear hP
          refine (dk_read (HL.out.dk.keep T4.out) (nameB sn) (nm_max sn)).mono ?_
          rintro e w5 ⟨v5, he, _, _, t5, _⟩
          rw [nameB_list, hg] at he
          subst he
          have T5 := Lib.hid (T4.out.trans0 t5); clear t5
          go_wp2_with fail
          exact ⟨⟨sn - 1, by omega, by omega, by go_num, HL.out.keep T5.out, HT.out.trans (KT.of0 T5.out), HP2⟩, by simp [intOf]; omega⟩
        · rw [hg] at hP
          have HP2 : Hid (sn = tp) := by rw [Hid]; simpa using hP
          clear hP
          refine (dk_read (HL.out.dk.keep T4.out) (nameB sn) (nm_max sn)).mono ?_
          rintro e w5 ⟨v5, he, _, _, t5, _⟩
          rw [nameB_list, hg] at he
          subst he
          have T5 := Lib.hid (T4.out.trans0 t5); clear t5
          have L5 := Lib.hid (HL.out.keep T5.out)
          have c1 : w5.cell? ⟨w2.heap.size, 1, none⟩ = some (.int .i64 (f : Int)) := by obtain ⟨v, R, q1, q2, q3, q4⟩ := L5.out; exact q2.cell1
          have f1 : w5.frozen? ⟨w2.heap.size, 1, none⟩ = false := by obtain ⟨v, R, q1, q2, q3, q4⟩ := L5.out; exact blk_free q2.log 1
          go_wp2_with fail
          go_meet
          have := L5.out.setLast sn
          rw [← HP2.out]
          exact ⟨this.1, (HT.out.trans (KT.of0 T5.out)).trans this.2⟩
      · have hnf : n = f := by omega
        have p1 : ¬ (f : Int) < (n : Int) := by omega
        subst hnf
        have HP2 : Hid (n = tp) := by
          have hP := HP.out
          cases n with
          | zero => rw [Hid]; simpa [topF] using hP
          | succ n' => unfold topF at hP; rw [if_pos (Nat.le_refl _)] at hP; exact hP
        go_wp2_with fail
        go_meet
        have := HL.out
        rw [HP2.out] at this
        exact ⟨this, HT.out⟩
  case rest =>
    obtain ⟨HL, HT⟩ := hcut
    have hq2 := hq1
    clear L0 K3 HTP D2 K2 T1 hq1
    go_wp2_with fail
    go_loopw [10] (fun i wr => ∃ (n : Nat) (Mk : List FE) (Ak : List (List UInt8)), f ≤ n ∧ n ≤ tp + 1 ∧ i = .int .i64 n ∧ Mk.length ≤ 990000 + n ∧ Ak.length ≤ n * 1048576 ∧ Hid (LSt wr w2.heap.size db mb room Mk tp Ak K) ∧ Hid (KT K w wr) ∧ Hid (openF room tp (tp + 1 - n) Mk n Ak = q)) (fun i _ => tp + 1 - (intOf i).toNat)
    case atStart => exact ⟨f, M1, [], by omega, by omega, rfl, by omega, by simp, HL, HT, hq2⟩
    case round =>
      clear HL HT hq2
      obtain ⟨n, Mk, Ak, hn1, hn2, rfl, hMl, hAl, HL, HT, HQ⟩ := hrel
      have c1 : wr.cell? ⟨w2.heap.size, 1, none⟩ = some (.int .i64 (tp : Int)) := by obtain ⟨v, R, q1, q2, q3, q4⟩ := HL.out; exact q2.cell1
      by_cases hle : n ≤ tp
      · have p1 : (n : Int) ≤ (tp : Int) := by omega
        have HQ1 : Hid (openF room tp ((tp - n) + 1) Mk n Ak = q) := by have := HQ.out; rw [show tp + 1 - n = (tp - n) + 1 by omega] at this; exact this
        obtain ⟨b, hb⟩ : ∃ b, segB Mk n = b := ⟨_, rfl⟩
        have hbl : b.length ≤ 1048576 := by rw [← hb]; exact segB_le HL.out.dk n
        obtain ⟨F, hF⟩ : ∃ F, framesM b = F := ⟨_, rfl⟩
        have HF := Lib.hid hF
        have HQ2 : Hid ((if F.err ≠ 0 then ⟨F.err, Mk, tp, Ak⟩ else if F.torn = true ∧ n < tp then ⟨3, Mk, tp, Ak⟩ else if F.torn = false then openF room tp (tp - n) Mk (n + 1) (Ak ++ F.all) else if (mendM Mk room n (b.take F.len)).1 ≠ 0 then ⟨(mendM Mk room n (b.take F.len)).1, (mendM Mk room n (b.take F.len)).2, tp, Ak⟩ else openF room tp (tp - n) (mendM Mk room n (b.take F.len)).2 (n + 1) (Ak ++ F.all)) = q) := by
          have := HQ1.out
          unfold openF at this
          rw [hb, hF] at this
          exact this
        have HB := Lib.hid hb
        clear hb hF HQ HQ1
        go_wp2_with fail
        refine (name_any n (by omega) wr).mono ?_
        rintro e w4 ⟨rfl, t4⟩
        have T4 := Lib.hid t4; clear t4
        go_wp2_with fail
        refine (dk_read (HL.out.dk.keep T4.out) (nameB n) (nm_max n)).mono ?_
        rintro e w5 ⟨v5, rfl, b5, f5, t5, _⟩
        have hb5 : SlB w5 v5 b := by rw [nameB_list] at b5; rw [← HB.out]; exact b5
        obtain ⟨a5, m5, c5, rfl, hm5⟩ := hb5.shape'
        have B5 := Lib.hid hb5
        have T5 := Lib.hid (T4.out.trans0 t5)
        have L5 : Hid (LSt w5 w2.heap.size db mb room Mk tp Ak (fun k => K k ∨ (Value.slice a5 m5 c5).ownBlock = some k)) := (HL.out.keep T4.out).more t5 (fun k hk => by
          rcases hk with hk | hk
          · exact .inl hk
          · exact .inr ⟨f5 k hk, hb5.blt k hk⟩)
        clear b5 hb5 f5 t5
        go_wp2_with fail
        refine (lst_frames L5.out (.slice a5 m5 c5) b B5.out (fun k hk => .inr hk) (by omega)).mono ?_
        rintro e w6 ⟨rfl, l6, k6⟩
        have hfl := framesM_le b
        rw [HF.out] at l6 hfl ⊢
        have L6 := Lib.hid l6
        have K6 := Lib.hid (((HT.out.trans (KT.of0 T5.out)).trans (k6.mono (K' := K) (fun k _ hk => .inl hk))))
        have B6 := Lib.hid (k6.slb B5.out (fun k hk => .inr hk))
        have c6 : w6.cell? ⟨w2.heap.size, 1, none⟩ = some (.int .i64 (tp : Int)) := by obtain ⟨v, R, q1, q2, q3, q4⟩ := l6; exact q2.cell1
        have hmc : Hid (m5 ≤ c5) := by
          obtain ⟨a', c', e, h1, h2⟩ := B5.out.shape
          injection e with e1 e2 e3; rw [Hid, e2, e3]; exact h1
        clear l6 k6 c1
        obtain ⟨fa, fl, ft, fe⟩ := F
        simp only at hfl HQ2 L6 ⊢
        by_cases he : fe = 0
        · have he' : (fe : Int) = 0 := by omega
          cases ft
          · have HQ3 : Hid (openF room tp (tp - n) Mk (n + 1) (Ak ++ fa) = q) := by
              have := HQ2.out
              rw [if_neg (by simpa using he), if_neg (by simp), if_pos rfl] at this
              exact this
            clear HQ2
            go_wp2_with fail
            exact ⟨⟨n + 1, Mk, Ak ++ fa, by omega, by omega, by go_num, by omega, by rw [List.length_append]; omega, L6.out.less (fun k hk => .inl hk), K6.out, by have := HQ3.out; rw [show tp - n = tp + 1 - (n + 1) by omega] at this; exact this⟩, by simp [intOf]; omega⟩
          · by_cases hnt : n < tp
            · have hnt' : (n : Int) < (tp : Int) := by omega
              have HQ3 : Hid (q = ⟨3, Mk, tp, Ak⟩) := by
                have := HQ2.out
                rw [if_neg (by simpa using he), if_pos ⟨rfl, hnt⟩] at this
                exact this.symm
              clear HQ2
              go_wp2_with fail
              go_ret2
              rw [HQ3.out]
              exact Or.inr ⟨by simp, rfl, (L6.out.less (fun k hk => .inl hk)).dk, K6.out⟩
            · have hnt' : ¬ (n : Int) < (tp : Int) := by omega
              obtain ⟨r, hr⟩ : ∃ r, Hid (mendM Mk room n (b.take fl) = r) := ⟨_, rfl⟩
              have hrl := lenMend Mk room n (b.take fl)
              have HQ3 : Hid ((if r.1 ≠ 0 then ⟨r.1, r.2, tp, Ak⟩ else openF room tp (tp - n) r.2 (n + 1) (Ak ++ fa)) = q) := by
                have := HQ2.out
                rw [if_neg (by simpa using he), if_neg (by simp [hnt]), if_neg (by simp), hr.out] at this
                exact this
              rw [hr.out] at hrl
              have hmd := Lib.hid (lst_mend L6.out n (by omega) (.slice a5 fl c5) (b.take fl) (B6.out.take fl hfl.2) (fun k hk => .inr (by
                cases a5 with
                | none => simp [Value.ownBlock] at hk
                | some ad => simpa [Value.ownBlock] using hk)) (by omega) (by rw [List.length_take]; omega))
              rw [hr.out] at hmd
              have q1 : (0 : Int) ≤ (fl : Int) := by omega
              have q2 : (fl : Int) ≤ (c5 : Int) := by have := hmc.out; have := hm5.out; omega
              clear HQ2 hr
              go_wp2_with fail
              refine hmd.out.mono ?_
              rintro e w7 ⟨rfl, l7, k7⟩
              have L7 := Lib.hid (l7.less (K' := K) (fun k hk => .inl hk))
              have K7 := Lib.hid (K6.out.trans (k7.mono (K' := K) (fun k _ hk => .inl hk)))
              clear l7 k7 hmd
              obtain ⟨re, rM⟩ := r
              simp only at HQ3 hrl L7 ⊢
              by_cases hz : re = 0
              · have hz' : (re : Int) = 0 := by omega
                have HQ4 : Hid (openF room tp (tp - n) rM (n + 1) (Ak ++ fa) = q) := by
                  have := HQ3.out
                  rw [if_neg (by simpa using hz)] at this
                  exact this
                clear HQ3
                go_wp2_with fail
                exact ⟨⟨n + 1, rM, Ak ++ fa, by omega, by omega, by go_num, by omega, by rw [List.length_append]; omega, L7.out, K7.out, by have := HQ4.out; rw [show tp - n = tp + 1 - (n + 1) by omega] at this; exact this⟩, by simp [intOf]; omega⟩
              · have hz' : ¬ (re : Int) = 0 := by omega
                have HQ4 : Hid (q = ⟨re, rM, tp, Ak⟩) := by
                  have := HQ3.out
                  rw [if_pos (by simpa using hz)] at this
                  exact this.symm
                clear HQ3
                go_wp2_with fail
                go_ret2
                rw [HQ4.out]
                exact Or.inr ⟨hz, rfl, L7.out.dk, K7.out⟩
        · have he' : ¬ (fe : Int) = 0 := by omega
          have HQ3 : Hid (q = ⟨fe, Mk, tp, Ak⟩) := by
            have := HQ2.out
            rw [if_pos (by simpa using he)] at this
            exact this.symm
          clear HQ2
          go_wp2_with fail
          go_ret2
          rw [HQ3.out]
          exact Or.inr ⟨he, rfl, (L6.out.less (fun k hk => .inl hk)).dk, K6.out⟩
      · have hne : n = tp + 1 := by omega
        have p1 : ¬ (n : Int) ≤ (tp : Int) := by omega
        have HQ2 : Hid (q = ⟨0, Mk, tp, Ak⟩) := by
          have := HQ.out
          rw [show tp + 1 - n = 0 by omega] at this
          exact this.symm
        go_wp2_with fail
        go_ret2
        rw [HQ2.out]
        exact Or.inl ⟨_, rfl, rfl, HL.out, HT.out⟩
end Go.Proofs.Ytcjlgdldhcbcjaa
