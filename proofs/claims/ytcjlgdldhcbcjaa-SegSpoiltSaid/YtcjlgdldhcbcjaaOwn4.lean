/- Short, slices.Clone, a log's All: what they give is the caller's own. No condition. -/
import Derived.Test.YtcjlgdldhcbcjaaSegO
namespace Go.Proofs.Ytcjlgdldhcbcjaa
open Go.RowKit Go.Maps
set_option linter.unusedVariables false
set_option linter.unusedSimpArgs false

set_option maxRecDepth 100000 in
set_option maxHeartbeats 1000000 in
theorem short_own (a : Option Addr) (len cap : Nat) (zs : List Int) (n : Nat) (w : World) (h : IsRow .u8 w a len cap zs) (hn : n ≤ 1000000) :
    Calls Try.prog 17 #[.slice a len cap, .int .i64 n] w (FreshPost w (bytesOf (zs.take (min len n)))) := by
  obtain ⟨i0, hi0, hz0, hz1, hz2⟩ := info_parts infoB
  obtain ⟨hc1, hc2, hc3⟩ := h.lens
  unfold maxLen at hc2
  obtain ⟨k, hk⟩ : ∃ k, min len n = k := ⟨_, rfl⟩
  have hkm : min (len : Int) (n : Int) = (k : Int) := by omega
  have k1 : (0 : Int) ≤ (k : Int) := by omega
  have k2 : (k : Int) ≤ (cap : Int) := by omega
  have k5 : k ≤ lim := by unfold lim; omega
  have k6 : k ≤ len := by omega
  have hT := Lib.hid (h.front k k6 k5)
  rw [hk]
  have hb : (bytesOf (zs.take k)).length ≤ lim := hT.out.1
  clear h hk k5 k6 hc3
  go_enter Try.func17, Try.ntmps17
  go_wp2_with (at_builtin; go_must (refine wpList_appS _ rfl _ _ 22 rfl 5 i0 Try.underlying22 hi0 hz0 hz1 hz2 (.slice none 0 0) [] rfl (World.ownsRow_nil _ _ _ _) (.slice a k cap) (bytesOf (zs.take k)) rfl hT.out (by simpa using hb) (bytesOf (zs.take k)) (by simp [Hid]) ?_); intro a1 n1 cap1 w1 hA hn1)
  go_ret
  refine FreshPost.of (v := .slice a1 n1 cap1) hA.own hb (fun q hq => ?_) (Tch.grown hA.grow (fun q hq _ => by simp [Value.ownBlock] at hq))
  rcases hA.loc with e | e
  · rw [e] at hq; simp [Value.ownBlock] at hq
  · rw [e] at hq; simp at hq; omega

set_option maxRecDepth 100000 in
set_option maxHeartbeats 1000000 in
theorem clone_own (a : Option Addr) (m cap : Nat) (bs : List UInt8) (w : World) (h : SlB w (.slice a m cap) bs) :
    Calls Try.prog 46 #[.slice a m cap] w (FreshPost w bs) := by
  obtain ⟨i0, hi0, hz0, hz1, hz2⟩ := info_parts infoB
  have hb := h.1
  cases a with
  | none =>
    have hbs : bs = [] := by
      rcases h.2 with ⟨_, h⟩ | ⟨b, o, cap', hx, _⟩
      · exact h
      · injection hx with hx; cases hx
    subst hbs
    have heq := fun (w : World) (a : Option Addr) (n c : Nat) => Lib.run_eql_slice_nil (P := Try.prog) w 22 5 a n c 0 0 Try.underlying22
    clear h hb
    go_enter Try.func46, Try.ntmps46
    go_wp2
    go_ret
    exact ⟨_, rfl, SlB.nil _, fun k hk => by simp [Value.ownBlock] at hk, Tch.refl _ _, World.ownsRow_nil _ _ _ _⟩
  | some ad =>
    have H := Lib.hid (h.tch0 (Tch.alloc w (.cells #[] 5)))
    have heq := fun (w : World) (a : Option Addr) (n c : Nat) => Lib.run_eql_slice_nil (P := Try.prog) w 22 5 a n c 0 0 Try.underlying22
    clear h
    go_enter Try.func46, Try.ntmps46
    go_wp2_with (at_builtin; go_must (refine wpList_app _ rfl _ _ 22 rfl 5 i0 Try.underlying22 hi0 hz0 hz1 hz2 (.slice (some ⟨w.heap.size, 0, none⟩) 0 0) [] rfl (own_empty _ _) _ bs rfl H.out (by simpa using hb) bs (by simp [Hid]) ?_); intro a1 n1 cap1 w1 hA hn1)
    go_ret
    obtain ⟨q1, q2, q3⟩ := cat_fresh hA hb
    exact FreshPost.of hA.own hb q2 q3

variable {K : Nat → Prop} {w : World} {db mb room lb last : Nat} {M : List FE} {A : List (List UInt8)}
/-- What All gives: rows in memory that is younger than w. -/
def AllPostO (w : World) (A : List (List UInt8)) (e : Ending) (w' : World) : Prop :=
  ∃ v R, e = .returned v ∧ IsRows w' v R ∧ R.map (·.b) = A ∧ (∀ k, RowsF v R k → w.heap.size ≤ k) ∧ Tch No w w' ∧ ∀ x ∈ R, w'.ownsRow 0 5 1 x.v x.b.length (u8s x.b)
structure AllRelO (w : World) (A : List (List UInt8)) (k : Nat) (vo : Value) (R : List BE) (wr : World) : Prop where
  rows : IsRows wr vo R
  is : R.map (·.b) = A.take k
  fresh : ∀ j, RowsF vo R j → w.heap.size ≤ j
  tch : Tch No w wr
  own : ∀ x ∈ R, wr.ownsRow 0 5 1 x.v x.b.length (u8s x.b)
set_option maxRecDepth 100000 in
set_option maxHeartbeats 2000000000 in
theorem lst_allO (h : LSt w lb db mb room M last A K) (hA : A.length ≤ 1900000000) :
    Calls Try.prog 30 #[.pointer (some ⟨lb, 0, none⟩)] w (AllPostO w A) := by
  obtain ⟨v, R, h1, h2, h3, h4⟩ := h
  have c2 := h2.cell2
  have hR := h2.rows
  obtain ⟨a, m, cap, rfl, hm⟩ := own_shape' hR.row
  have hmc : m ≤ cap := by
    obtain ⟨a', c', e, q1, q2⟩ := own_shape hR.row
    injection e with e1 e2 e3; omega
  have hml : Hid (m = A.length) := by rw [Hid, hm.out, ← h1]; simp
  have hm19 : m ≤ 1900000000 := by rw [hml.out]; exact hA
  have HR := Lib.hid hR
  have HA := Lib.hid h1
  have R0 : Hid (AllRelO w A 0 (.slice none 0 0) [] w) := ⟨IsRows.nil _, by simp, fun j hj => by
    rcases hj with hj | ⟨x, hx, _⟩
    · simp [Value.ownBlock] at hj
    · simp at hx, Tch.refl _ _, fun x hx => by simp at hx⟩
  clear h1 h2 h3 h4 hR hA
  go_enter Try.func30, Try.ntmps30
  go_wp2_with fail
  go_loopw [3, 13] (fun s i wr => ∃ (k : Nat) (vo : Value) (Ro : List BE), k ≤ m ∧ i = .int .i64 k ∧ s = vo ∧ Hid (AllRelO w A k vo Ro wr)) (fun _ i _ => m - (intOf i).toNat)
  case atStart => exact ⟨0, _, [], by omega, rfl, rfl, R0⟩
  case round =>
    clear R0
    obtain ⟨k, vo, Ro, hk, rfl, rfl, hrel⟩ := hrel
    obtain ⟨ao, mo, co, rfl, hmo⟩ := own_shape' hrel.out.rows.row
    by_cases hlt : k < m
    · have hkR : k < R.length := by have := hm.out; omega
      obtain ⟨g, cap', hsl, hc⟩ := HR.out.at_ hkR
      simp only [Value.slice.injEq] at hsl
      obtain ⟨rfl, hq, rfl⟩ := hsl
      clear hq
      have hc' := hrel.out.tch.cell hc (fun h => h)
      have hb := (HR.out.bts _ (List.getElem_mem hkR)).tch0 hrel.out.tch
      have hbe : Hid (R[k].b = A[k]'(by rw [← hml.out]; exact hlt)) := by
        have h1 := HA.out
        subst h1
        simp [Hid]
      obtain ⟨x, hx⟩ : ∃ x, R[k] = x := ⟨_, rfl⟩
      rw [hx] at hc' hb hbe
      obtain ⟨ax, mx, cx, hxv, hmx⟩ := hb.shape'
      rw [hxv] at hc' hb
      have HB := Lib.hid hb
      have p1 : (k : Int) < (m : Int) := by omega
      have p2 : (0 : Int) ≤ (k : Int) := by omega
      have hRl : Hid (Ro.length + 1 ≤ 2000000000) := by
        have := congrArg List.length hrel.out.is
        rw [List.length_map, List.length_take] at this
        rw [Hid]; omega
      clear hx hxv hc hb hmx hmo
      go_wp2_with fail
      refine (clone_own ax mx cx x.b wr HB.out).mono ?_
      rintro e wc ⟨y, rfl, y1, y2, y3, y4⟩
      obtain ⟨ay, my, cy, rfl, hmy⟩ := y1.shape'
      have Y1 := Lib.hid y1; have Y2 := Lib.hid y2; have Y3 := Lib.hid y3; have Y4 := Lib.hid y4
      clear y1 y2 y3 y4 hmy
      go_wp2_with (at_builtin; go_must (refine wpList_appR rfl _ _ rfl (.slice ao mo co) Ro.length (Ro.map (·.v)) rfl (own_tch hrel.out.rows.row (Y3.out.trans0 (Tch.alloc _ _)) (fun _ _ h => h)) ⟨wc.heap.size, 0, none⟩ 1 (.slice ay my cy) rfl (by simp) rfl hRl.out ?_); intro a1 n1 cp1 w1 hA1; have HA1 := Lib.hid hA1; clear hA1)
      have T := Y3.out.trans0 (Tch.alloc wc (.cells #[.slice ay my cy] 22))
      have hlt2 := hrel.out.tch.size
      obtain ⟨r1, r2, r3⟩ := (hrel.out.rows.tch0 T).app (x := ⟨x.b, .slice ay my cy⟩) HA1.out (Y1.out.tch0 (Tch.alloc _ _)) (fun j hj e => by
        have := Y2.out j hj
        have := (hrel.out.rows.row.lt j e).2
        omega)
      refine ⟨⟨k + 1, _, Ro ++ [⟨x.b, .slice ay my cy⟩], by omega, by go_num, rfl, ⟨r1, ?_, fun j hj => ?_, ?_, fun u hu => ?_⟩⟩, by simp [intOf]; omega⟩
      · rw [List.map_append, hrel.out.is, List.take_succ_eq_append_getElem (by rw [← hml.out]; exact hlt), ← hbe.out]; rfl
      · have hTs := T.size
        rcases r3 j hj with q | q | q
        · exact hrel.out.fresh j q
        · have := Y2.out j q; omega
        · omega
      · refine (hrel.out.tch.trans0 T).fresh r2 (fun j hj => hrel.out.fresh j (.inl hj))
      · simp only [List.mem_append, List.mem_cons, List.mem_nil_iff, or_false] at hu
        rcases hu with hu | rfl
        · exact own_tch (own_tch (hrel.out.own u hu) T (fun _ _ h => h)) r2 (fun j hj e => hrel.out.rows.ne u hu j hj e)
        · exact own_tch (own_tch Y4.out (Tch.alloc _ _) (fun _ _ h => h)) r2 (fun j hj e => by
            have := Y2.out j hj
            have := (hrel.out.rows.row.lt j e).2
            omega)
    · have hE : Hid (A.take k = A) := by rw [Hid, List.take_of_length_le]; have := hml.out; omega
      have p1 : ¬ (k : Int) < (m : Int) := by omega
      go_wp2_with fail
      go_ret
      exact ⟨_, Ro, rfl, hrel.out.rows, by rw [hrel.out.is, hE.out], hrel.out.fresh, hrel.out.tch, hrel.out.own⟩

end Go.Proofs.Ytcjlgdldhcbcjaa
