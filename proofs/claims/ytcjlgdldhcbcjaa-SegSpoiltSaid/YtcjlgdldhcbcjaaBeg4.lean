/- The beginnings of layer 4 (postillionlaw4.begun): true. No condition. -/
import Derived.Test.YtcjlgdldhcbcjaaSeg7
namespace Go.Proofs.Ytcjlgdldhcbcjaa
open Go.RowKit Go.Maps
set_option linter.unusedVariables false
set_option linter.unusedSimpArgs false

def one3 : List UInt8 := [111, 110, 101]
def two3 : List UInt8 := [116, 119, 111]
def ab2 : List UInt8 := [97, 98]
def a1 : ARes := addM 1048576 [] 0 [] one3
def a2 : ARes := addM 1048576 (mSync a1.M (segNm 0)) 0 [one3] two3
set_option maxRecDepth 100000 in
theorem e0 : openM 1048576 [] 0 = ⟨0, [], 0, []⟩ := by kernel_rfl
set_option maxRecDepth 100000 in
theorem e1 : a1.err = 0 ∧ a1.last = 0 ∧ a1.A = [one3] ∧ a1.M.length = 1 := by refine ⟨?_, ?_, ?_, ?_⟩ <;> kernel_rfl
set_option maxRecDepth 100000 in
theorem e2 : a2.err = 0 ∧ a2.last = 0 ∧ a2.A = [one3, two3] ∧ a2.M.length = 1 := by refine ⟨?_, ?_, ?_, ?_⟩ <;> kernel_rfl
def o3 : ARes := openM 1048576 (mFall 0 a2.M) 0
def o4 : ARes := openM 1048576 (mFall 8 a2.M) 0
set_option maxRecDepth 100000 in
theorem e3 : o3.err = 0 ∧ o3.A = [one3] := by refine ⟨?_, ?_⟩ <;> kernel_rfl
set_option maxRecDepth 100000 in
theorem e4 : o4.err = 0 ∧ o4.A = [one3] := by refine ⟨?_, ?_⟩ <;> kernel_rfl
set_option maxRecDepth 100000 in
theorem e5 : cutM (frameM ab2) = (ab2, 8, 0) := by kernel_rfl

set_option maxRecDepth 100000 in
set_option maxHeartbeats 1000000 in
theorem begun3'_any (w : World) : Calls Try.prog 38 #[] w fun e w' => e = .returned (.bool true) ∧ Tch No w w' := by
  go_enter Try.func38, Try.ntmps38
  go_wp2_with (go_at_call 56; go_must (refine (begun3_any _).mono ?_); rintro e w1 ⟨rfl, q1⟩)
  go_ret
  exact ⟨rfl, q1⟩
variable {K : Nat → Prop} {w : World} {db mb room lb last : Nat} {M : List FE} {A : List (List UInt8)}
/-- A literal is added. -/
theorem lst_addLit (h : LSt w lb db mb room M last A K) (hl : last ≤ 999) (bs : List UInt8) (C : Array Value) (hC : C = (u8s bs).toArray) (hb : bs.length ≤ lim) (hcnt : M.length ≤ 999980) (hA : A.length ≤ 1900000000) :
    Calls Try.prog 25 #[.pointer (some ⟨lb, 0, none⟩), .slice (some ⟨w.heap.size, 0, none⟩) bs.length bs.length] (w.alloc (.cells C 5 (C.size, C.size + 1))) (AddPost K w lb db mb room (addM room M last A bs)) := by
  have hs := SlB.lit0 w bs C 5 hC hb
  have h1 : LSt (w.alloc (.cells C 5 (C.size, C.size + 1))) lb db mb room M last A (fun k => K k ∨ k = w.heap.size) := h.more (Tch.alloc _ _) (fun k hk => by
    rcases hk with hk | rfl
    · exact .inl hk
    · exact .inr ⟨Nat.le_refl _, by simp⟩)
  refine (lst_add h1 hl _ bs hs (fun k hk => by simp [Value.ownBlock] at hk; exact .inr hk.symm) hcnt hA).mono ?_
  rintro e w' ⟨rfl, q1, q2⟩
  exact ⟨rfl, q1.less (fun k hk => .inl hk), (KT.of0 (Tch.alloc _ _)).trans (q2.mono (fun k _ hk => .inl hk))⟩
/-- Open, where it is known to go well. -/
theorem open_ok (h : DK w db mb room M K) (f : Nat) (hf : f ≤ 999) (hcnt : M.length ≤ 990000) {q : ARes} (hq : openM room M f = q) (he : q.err = 0) :
    Calls Try.prog 24 #[.pointer (some ⟨db, 0, none⟩), .int .i64 f] w fun e w' => ∃ lb, e = .returned (.tuple #[.pointer (some ⟨lb, 0, none⟩), .int .i64 0]) ∧ LSt w' lb db mb room q.M q.last q.A K ∧ KT K w w' := by
  subst hq
  refine (open_any h f hf hcnt).mono ?_
  rintro e w' (⟨lb, _, rfl, h1, h2⟩ | ⟨h1, _⟩)
  · exact ⟨lb, rfl, h1, h2⟩
  · exact absurd he h1
theorem rows_shape {v : Value} {R : List BE} (h : IsRows w v R) : ∃ a m cap, v = .slice a m cap ∧ Hid (m = R.length) ∧ m ≤ cap := by
  obtain ⟨a, cap, e, h1, h2⟩ := own_shape h.row
  exact ⟨a, _, cap, e, rfl, h1⟩
theorem rows_one {v : Value} {R : List BE} {b : List UInt8} (h : IsRows w v R) (hb : R.map (·.b) = [b]) : ∃ g cap ax mx cx, v = .slice (some ⟨g, 0, none⟩) 1 cap ∧ 1 ≤ cap ∧ w.cell? ⟨g, 0, none⟩ = some (.slice ax mx cx) ∧ SlB w (.slice ax mx cx) b := by
  match R, hb with
  | [x], hb =>
    simp at hb
    obtain ⟨g, cap, e, hc⟩ := h.at_ (i := 0) (by simp)
    obtain ⟨a, c', e', h1, _⟩ := own_shape h.row
    have hx := h.bts x (by simp)
    obtain ⟨ax, mx, cx, hv, _⟩ := hx.shape'
    simp at hc
    rw [e] at e'
    injection e' with _ _ e3
    rw [← hb]
    rw [hv] at hc hx
    exact ⟨g, cap, ax, mx, cx, e, by rw [e3]; exact h1, hc, hx⟩
theorem str_of {v : Value} {b : List UInt8} (h : SlB w v b) : (convert 22 9 v).run Try.prog w = .ok (.string ⟨b.toArray⟩) w := h.str (P := Try.prog) Try.underlying22 Try.underlying5 Try.underlying9
def K0 (w : World) : Nat → Prop := fun k => k < w.heap.size
theorem KT.noK {w w' w2 : World} (h : KT (K0 w) w' w2) (t : Tch No w w') : Tch No w w2 := t.fresh h (fun k hk => Nat.not_lt.1 hk)
theorem KT.noK' {w w' w2 : World} (h : KT (K0 w) w' w2) (t : Tch No w w') (hs : w'.heap.size = w.heap.size) : Tch No w' w2 := h.no (fun k hk => by rw [K0, ← hs]; exact hk)

set_option maxRecDepth 100000 in
set_option maxHeartbeats 4000000 in
theorem begun4_any (w : World) : Calls Try.prog 16 #[] w fun e w' => e = .returned (.bool true) ∧ Tch No w w' := by
  have kc := fun (w : World) (C : Array Value) (n c : Nat) => Lib.run_convert_bytes_const (P := Try.prog) w 22 5 C n c Try.underlying22 Try.underlying5
  have hnew := Lib.hid (dk_new (K := K0 w) 1048576 w (fun k hk => hk))
  rw [show roomOf 1048576 = 1048576 by rfl] at hnew
  go_enter Try.func16, Try.ntmps16
  go_wp2_with fail
  refine hnew.out.mono ?_
  rintro e w1 ⟨db, mb, rfl, d1, t1⟩
  have D1 := Lib.hid d1; have T1 := Lib.hid t1; clear d1 t1 hnew
  go_wp2_with fail
  refine (open_ok D1.out 0 (by omega) (by simp) e0 rfl).mono ?_
  rintro e w2 ⟨lb, rfl, l2, k2⟩
  have L2 : Hid (LSt w2 lb db mb 1048576 [] 0 [] (K0 w)) := l2
  have T2 := Lib.hid (k2.noK T1.out); clear l2 k2 D1 T1
  go_wp2_with fail
  refine (lst_addLit L2.out (by omega) one3 #[.int .u8 111, .int .u8 110, .int .u8 101] rfl (by decide) (by simp) (by simp)).mono ?_
  rintro e w3 ⟨he, l3, k3⟩
  rw [show (addM 1048576 [] 0 [] one3).err = 0 from e1.1] at he
  subst he
  have L3 : Hid (LSt w3 lb db mb 1048576 a1.M 0 [one3] (K0 w)) := by
    have h : LSt w3 lb db mb 1048576 a1.M a1.last a1.A (K0 w) := l3
    rw [e1.2.1, e1.2.2.1] at h; exact h
  have T3 := Lib.hid (k3.noK T2.out); clear l3 k3 L2 T2
  go_wp2_with fail
  refine (lst_force L3.out (by omega)).mono ?_
  rintro e w4 ⟨rfl, l4, k4⟩
  have L4 := Lib.hid l4; have T4 := Lib.hid (k4.noK T3.out); clear l4 k4 L3 T3
  go_wp2_with fail
  refine (lst_addLit L4.out (by omega) two3 #[.int .u8 116, .int .u8 119, .int .u8 111] rfl (by decide) (by unfold mSync; rw [List.length_map, e1.2.2.2]; omega) (by simp)).mono ?_
  rintro e w5 ⟨he, l5, k5⟩
  rw [show (addM 1048576 (mSync a1.M (segNm 0)) 0 [one3] two3).err = 0 from e2.1] at he
  subst he
  have L5 : Hid (LSt w5 lb db mb 1048576 a2.M 0 [one3, two3] (K0 w)) := by
    have h : LSt w5 lb db mb 1048576 a2.M a2.last a2.A (K0 w) := l5
    rw [e2.2.1, e2.2.2.1] at h; exact h
  have T5 := Lib.hid (k5.noK T4.out); clear l5 k5 L4 T4
  have hm1 : a2.M.length ≤ 999 := by rw [e2.2.2.2]; omega
  go_wp2_with fail
  refine (dk_fall L5.out.dk 0 (by omega) (by omega) (by omega)).mono ?_
  rintro e w6 ⟨db6, mb6, rfl, d6, t6⟩
  have D6 := Lib.hid d6; have T6 := Lib.hid t6; clear d6 t6
  go_wp2_with fail
  refine (open_ok D6.out 0 (by omega) (Nat.le_trans (List.length_filterMap_le _ _) (by omega)) (q := o3) rfl e3.1).mono ?_
  rintro e w7 ⟨lb7, rfl, l7, k7⟩
  have L7 : Hid (LSt w7 lb7 db6 mb6 1048576 o3.M o3.last [one3] (K0 w5)) := by have h := l7; rw [e3.2] at h; exact h
  have T7 : Hid (Tch No w5 w7) := k7.noK (w := w5) T6.out
  have M5 := Lib.hid (L5.out.keep T7.out)
  have S7 := Lib.hid (T5.out.trans0 T7.out)
  clear l7 k7 L5 D6 T6 T5
  go_wp2_with fail
  refine (dk_fall M5.out.dk 8 (by omega) (by omega) (by omega)).mono ?_
  rintro e w8 ⟨db8, mb8, rfl, d8, t8⟩
  have D8 := Lib.hid d8; have T8 := Lib.hid t8; clear d8 t8
  go_wp2_with fail
  refine (open_ok D8.out 0 (by omega) (Nat.le_trans (List.length_filterMap_le _ _) (by omega)) (q := o4) rfl e4.1).mono ?_
  rintro e w9 ⟨lb9, rfl, l9, k9⟩
  have L9 : Hid (LSt w9 lb9 db8 mb8 1048576 o4.M o4.last [one3] (K0 w7)) := by have h := l9; rw [e4.2] at h; exact h
  have T9 : Hid (Tch No w7 w9) := k9.noK (w := w7) T8.out
  have M9 := Lib.hid (M5.out.keep T9.out)
  have N9 := Lib.hid (L7.out.keep T9.out)
  have S9 := Lib.hid (S7.out.trans0 T9.out)
  clear l9 k9 M5 D8 T8 L7 T7 T9 S7
  go_wp2_with fail
  refine (frame_any _ ab2 _ (SlB.lit0 w9 ab2 #[.int .u8 97, .int .u8 98] 5 rfl (by decide)) (by unfold fits ab2; simp)).mono ?_
  rintro e w10 ⟨g, gc, rfl, b10, _, t10, _⟩
  have B10 := Lib.hid b10; have T10 := Lib.hid ((Tch.alloc _ _).trans0 t10); clear b10 t10
  go_wp2_with fail
  refine (scut_any _ (frameM ab2) _ B10.out).mono ?_
  rintro e w11 ⟨x, rfl, b11, _, t11⟩
  rw [e5] at b11 ⊢
  have B11 := Lib.hid b11; have T11 := Lib.hid (T10.out.trans0 t11); clear b11 t11 B10 T10
  obtain ⟨ax, mx, cx, rfl, hmx⟩ := B11.out.shape'
  clear hmx
  go_wp2_with fail
  refine (begun3'_any _).mono ?_
  rintro e w12 ⟨rfl, t12⟩
  have T12 := Lib.hid (T11.out.trans0 t12); have X12 := Lib.hid (B11.out.tch0 t12); clear t12 T11 B11
  go_wp2_with fail
  refine (lst_all (N9.out.keep T12.out) (by simp)).mono ?_
  rintro e w13 ⟨v13, R13, rfl, r13, m13, _, t13⟩
  obtain ⟨g13, c13, _, _, _, rfl, _, _, _⟩ := rows_one r13 m13
  have T13 := Lib.hid (T12.out.trans0 t13); have X13 := Lib.hid (X12.out.tch0 t13); clear r13 m13 t13 T12 X12
  go_wp2_with fail
  refine (lst_all (N9.out.keep T13.out) (by simp)).mono ?_
  rintro e w14 ⟨v14, R14, rfl, r14, m14, _, t14⟩
  obtain ⟨g14, c14, a14, l14, d14, rfl, h14, k14, s14⟩ := rows_one r14 m14
  have y14 : (convert 22 9 (.slice a14 l14 d14)).run Try.prog w14 = .ok (.string ⟨#[111, 110, 101]⟩) w14 := str_of s14
  have T14 := Lib.hid (T13.out.trans0 t14); have X14 := Lib.hid (X13.out.tch0 t14); clear r14 m14 t14 T13 X13 s14
  go_wp2_with fail
  refine (lst_all (L9.out.keep T14.out) (by simp)).mono ?_
  rintro e w15 ⟨v15, R15, rfl, r15, m15, _, t15⟩
  obtain ⟨g15, c15, _, _, _, rfl, _, _, _⟩ := rows_one r15 m15
  have T15 := Lib.hid (T14.out.trans0 t15); have X15 := Lib.hid (X14.out.tch0 t15); clear r15 m15 t15 T14 X14 y14 k14
  go_wp2_with fail
  refine (lst_all (M9.out.keep T15.out) (by simp)).mono ?_
  rintro e w16 ⟨v16, R16, rfl, r16, m16, _, t16⟩
  obtain ⟨a16, l16, c16, rfl, hl16, _⟩ := rows_shape r16
  have hl2 : l16 = 2 := by have h1 := hl16.out; have h2 := congrArg List.length m16; simp at h2; omega
  subst hl2
  have T16 := Lib.hid (T15.out.trans0 t16); have X16 := X15.out.tch0 t16
  have y16 : (convert 22 9 (.slice ax mx cx)).run Try.prog w16 = .ok (.string ⟨#[97, 98]⟩) w16 := str_of X16
  clear r16 m16 t16 T15 X15 X16 hl16
  go_wp2_with fail
  refine (name_any 7 (by omega) w16).mono ?_
  rintro e w17 ⟨rfl, t17⟩
  have hnm : nameB 7 = ⟨#[108, 111, 103, 48, 48, 55]⟩ := rfl
  rw [hnm]
  have T17 := Lib.hid (T16.out.trans0 t17); clear t17 T16 y16 hnm
  go_wp2_with fail
  refine (lst_at (M9.out.keep T17.out)).mono ?_
  rintro e w18 ⟨rfl, rfl⟩
  go_wp2_with fail
  refine (lst_add (M9.out.keep T17.out) (by omega) (.slice none 0 0) [] (SlB.nil _) (fun k hk => by simp [Value.ownBlock] at hk) (by omega) (by simp)).mono ?_
  rintro e w19 ⟨he, l19, k19⟩
  rw [show (addM 1048576 a2.M 0 [one3, two3] []).err = 1 from rfl] at he
  subst he
  have T19 := Lib.hid (k19.noK (S9.out.trans0 T17.out)); clear l19 k19
  go_wp2_with fail
  go_ret
  exact ⟨rfl, T19.out⟩
end Go.Proofs.Ytcjlgdldhcbcjaa
