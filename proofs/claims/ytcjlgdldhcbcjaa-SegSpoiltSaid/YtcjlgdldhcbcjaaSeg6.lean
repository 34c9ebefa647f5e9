/- Segments: a log's All, Forget. No condition. -/
import Derived.Test.YtcjlgdldhcbcjaaSeg5
namespace Go.Proofs.Ytcjlgdldhcbcjaa
open Go.RowKit Go.Maps
set_option linter.unusedVariables false
set_option linter.unusedSimpArgs false

variable {K : Nat → Prop} {w : World} {db mb room lb last : Nat} {M : List FE} {A : List (List UInt8)}
/-- What All gives: rows in memory that is younger than w. -/
def AllPost (w : World) (A : List (List UInt8)) (e : Ending) (w' : World) : Prop :=
  ∃ v R, e = .returned v ∧ IsRows w' v R ∧ R.map (·.b) = A ∧ (∀ k, RowsF v R k → w.heap.size ≤ k) ∧ Tch No w w'
structure AllRel (w : World) (A : List (List UInt8)) (k : Nat) (vo : Value) (R : List BE) (wr : World) : Prop where
  rows : IsRows wr vo R
  is : R.map (·.b) = A.take k
  fresh : ∀ j, RowsF vo R j → w.heap.size ≤ j
  tch : Tch No w wr
set_option maxRecDepth 100000 in
set_option maxHeartbeats 2000000000 in
theorem lst_all (h : LSt w lb db mb room M last A K) (hA : A.length ≤ 1900000000) :
    Calls Try.prog 30 #[.pointer (some ⟨lb, 0, none⟩)] w (AllPost w A) := by
  obtain ⟨v, R, h1, h2, h3, h4⟩ := h
  have c2 := h2.cell2
  have hR := h2.rows
  obtain ⟨a, m, cap, rfl, hm⟩ := own_shape' hR.row
  have hmc : m ≤ cap := by
    obtain ⟨a', c', e, q1, q2⟩ := own_shape hR.row
    injection e with e1 e2 e3; omega
  have hml : Hid (m = A.length) := by rw [Hid, hm.out, ← h1]; simp
  have hm19 : m ≤ 1900000000 := by rw [hml.out]; exact hA
  have HR := Lib.hid hR
  have HA := Lib.hid h1
  have R0 : Hid (AllRel w A 0 (.slice none 0 0) [] w) := ⟨IsRows.nil _, by simp, fun j hj => by
    rcases hj with hj | ⟨x, hx, _⟩
    · simp [Value.ownBlock] at hj
    · simp at hx, Tch.refl _ _⟩
  clear h1 h2 h3 h4 hR hA
  go_enter Try.func30, Try.ntmps30
  go_wp2_with fail
  go_loopw [3, 13] (fun s i wr => ∃ (k : Nat) (vo : Value) (Ro : List BE), k ≤ m ∧ i = .int .i64 k ∧ s = vo ∧ Hid (AllRel w A k vo Ro wr)) (fun _ i _ => m - (intOf i).toNat)
  case atStart => exact ⟨0, _, [], by omega, rfl, rfl, R0⟩
  case round =>
    clear R0
    obtain ⟨k, vo, Ro, hk, rfl, rfl, hrel⟩ := hrel
    obtain ⟨ao, mo, co, rfl, hmo⟩ := own_shape' hrel.out.rows.row
    by_cases hlt : k < m
    · have hkR : k < R.length := by have := hm.out; omega
      obtain ⟨g, cap', hsl, hc⟩ := HR.out.at_ hkR
      simp only [Value.slice.injEq] at hsl
      obtain ⟨rfl, hq, rfl⟩ := hsl
      clear hq
      have hc' := hrel.out.tch.cell hc (fun h => h)
      have hb := (HR.out.bts _ (List.getElem_mem hkR)).tch0 hrel.out.tch
      have hbe : Hid (R[k].b = A[k]'(by rw [← hml.out]; exact hlt)) := by
        have h1 := HA.out
        subst h1
        simp [Hid]
      obtain ⟨x, hx⟩ : ∃ x, R[k] = x := ⟨_, rfl⟩
      rw [hx] at hc' hb hbe
      obtain ⟨ax, mx, cx, hxv, hmx⟩ := hb.shape'
      rw [hxv] at hc' hb
      have HB := Lib.hid hb
      have p1 : (k : Int) < (m : Int) := by omega
      have p2 : (0 : Int) ≤ (k : Int) := by omega
      have hRl : Hid (Ro.length + 1 ≤ 2000000000) := by
        have := congrArg List.length hrel.out.is
        rw [List.length_map, List.length_take] at this
        rw [Hid]; omega
      clear hx hxv hc hb hmx hmo
      go_wp2_with fail
      refine (clone_any ax mx cx x.b wr HB.out).mono ?_
      rintro e wc ⟨y, rfl, y1, y2, y3⟩
      obtain ⟨ay, my, cy, rfl, hmy⟩ := y1.shape'
      have Y1 := Lib.hid y1; have Y2 := Lib.hid y2; have Y3 := Lib.hid y3
      clear y1 y2 y3 hmy
      go_wp2_with (at_builtin; go_must (refine wpList_appR rfl _ _ rfl (.slice ao mo co) Ro.length (Ro.map (·.v)) rfl (own_tch hrel.out.rows.row (Y3.out.trans0 (Tch.alloc _ _)) (fun _ _ h => h)) ⟨wc.heap.size, 0, none⟩ 1 (.slice ay my cy) rfl (by simp) rfl hRl.out ?_); intro a1 n1 cp1 w1 hA1; have HA1 := Lib.hid hA1; clear hA1)
      have T := Y3.out.trans0 (Tch.alloc wc (.cells #[.slice ay my cy] 22))
      have hlt2 := hrel.out.tch.size
      obtain ⟨r1, r2, r3⟩ := (hrel.out.rows.tch0 T).app (x := ⟨x.b, .slice ay my cy⟩) HA1.out (Y1.out.tch0 (Tch.alloc _ _)) (fun j hj e => by
        have := Y2.out j hj
        have := (hrel.out.rows.row.lt j e).2
        omega)
      refine ⟨⟨k + 1, _, Ro ++ [⟨x.b, .slice ay my cy⟩], by omega, by go_num, rfl, ⟨r1, ?_, fun j hj => ?_, ?_⟩⟩, by simp [intOf]; omega⟩
      · rw [List.map_append, hrel.out.is, List.take_succ_eq_append_getElem (by rw [← hml.out]; exact hlt), ← hbe.out]; rfl
      · have hTs := T.size
        rcases r3 j hj with q | q | q
        · exact hrel.out.fresh j q
        · have := Y2.out j q; omega
        · omega
      · refine (hrel.out.tch.trans0 T).fresh r2 (fun j hj => hrel.out.fresh j (.inl hj))
    · have hE : Hid (A.take k = A) := by rw [Hid, List.take_of_length_le]; have := hml.out; omega
      have p1 : ¬ (k : Int) < (m : Int) := by omega
      go_wp2_with fail
      go_ret
      exact ⟨_, Ro, rfl, hrel.out.rows, by rw [hrel.out.is, hE.out], hrel.out.fresh, hrel.out.tch⟩

/-- What is behind Forget. -/
def mForget (c : Nat) (M : List FE) : List FE := (List.range c).foldl (fun M k => mDel M (segNm k)) M
theorem mForget_succ (c : Nat) (M : List FE) : mForget (c + 1) M = mDel (mForget c M) (segNm c) := by
  unfold mForget; rw [List.range_succ, List.foldl_append]; rfl
def forgets (n : Int) : Nat := (min (max n 0) 1000).toNat
set_option maxRecDepth 100000 in
set_option maxHeartbeats 2000000000 in
theorem lst_forget (h : LSt w lb db mb room M last A K) (n : Int) :
    Calls Try.prog 36 #[.pointer (some ⟨lb, 0, none⟩), .int .i64 n] w fun e w' => e = .returned (.int .i64 0) ∧ LSt w' lb db mb room (mForget (forgets n) M) last A K ∧ KT K w w' := by
  have H := Lib.hid h
  obtain ⟨c, hc⟩ : ∃ c, forgets n = c := ⟨_, rfl⟩
  have hcm : min (max n 0) 1000 = (c : Int) := by rw [← hc]; unfold forgets; omega
  have hc1 : c ≤ 1000 := by omega
  rw [hc]
  clear h hc
  go_enter Try.func36, Try.ntmps36
  go_wp2_with fail
  go_loopw [11] (fun i wr => ∃ (k : Nat), k ≤ c ∧ i = .int .i64 k ∧ Hid (LSt wr lb db mb room (mForget k M) last A K) ∧ Hid (KT K w wr)) (fun i _ => c - (intOf i).toNat)
  case atStart => exact ⟨0, by omega, rfl, H, KT.refl _ _⟩
  case round =>
    clear H
    obtain ⟨k, hk, rfl, HL, HT⟩ := hrel
    by_cases hlt : k < c
    · have p1 : (k : Int) < (c : Int) := by omega
      have hk9 : k ≤ 999 := by omega
      obtain ⟨v, R, h1, h2, h3, h4⟩ := HL.out
      have c0 := h2.cell0
      have H1 := Lib.hid h1; have H2 := Lib.hid h2; have H3 := Lib.hid h3; have H4 := Lib.hid h4
      clear h1 h2 h3 h4
      have hdel : Hid (∀ W, Tch No wr W → Calls Try.prog 47 #[.pointer (some ⟨db, 0, none⟩), .string (nameB k)] W fun e w' => ∃ r : Int, e = .returned (.int .i64 r) ∧ DK w' db mb room (mForget (k + 1) M) (fun j => K j ∨ LogF lb v R j) ∧ KT (fun j => K j ∨ LogF lb v R j) W w') := fun W hW => by
        refine (dk_delete (H3.out.keep hW) (nameB k) (nm_max k)).mono ?_
        rintro e w' ⟨h1, h2, h3⟩
        rw [nameB_list, ← mForget_succ] at h2
        exact ⟨_, h1, h2, h3⟩
      go_wp2_with fail
      go_region_held3 (fun W => W.cell? ⟨lb, 0, none⟩ = some (.pointer (some ⟨db, 0, none⟩))) (first | go_keep)
        (first | (go_at_call 22; refine (name_any k hk9 _).mono ?_; rintro e w6 ⟨rfl, t6⟩; have T6 := Lib.hid ((Tch.drew wr).trans0 t6); have d0 := T6.out.cell c0 (fun h => h); clear t6) | (go_at_call 47; refine (hdel.out _ T6.out).mono ?_; rintro e w7 ⟨r, rfl, d7, k7⟩; have D7 := Lib.hid d7; have K7 := Lib.hid (KT.trans (KT.of0 T6.out) k7); have e0 := K7.out.cell c0 (.inr (.inl rfl)); clear d7 k7))
      go_wp2_with fail
      have hturn := LSt.turn H1.out H2.out H4.out D7.out K7.out
      exact ⟨⟨k + 1, by omega, by go_num, hturn.1, HT.out.trans hturn.2⟩, by simp [intOf]; omega⟩
    · have hkc : k = c := by omega
      have p1 : ¬ (k : Int) < (c : Int) := by omega
      subst hkc
      go_wp2_with fail
      go_ret
      exact ⟨rfl, HL.out, HT.out⟩
end Go.Proofs.Ytcjlgdldhcbcjaa
