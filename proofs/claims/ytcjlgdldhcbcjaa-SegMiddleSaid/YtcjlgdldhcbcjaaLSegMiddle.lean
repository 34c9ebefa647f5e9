/- SegMiddle: the law SegMiddle returns true for every input, and each argument reads behind the call as it read before. No condition. The frame is the kit's proof-skeleton. -/
import Derived.Test.YtcjlgdldhcbcjaaRows
import Derived.WalkKit
import Derived.ProofKit
import Derived.OpenShut
import Derived.ShutString
import Derived.ChangeOld
import Derived.Below
import Derived.Test.YtcjlgdldhcbcjaaBeg3
import Derived.Test.YtcjlgdldhcbcjaaRFrame
import Derived.Test.YtcjlgdldhcbcjaaSegS
namespace Go.Proofs.Ytcjlgdldhcbcjaa.segMiddle
open Go.ChangeShapes Go.WideShapes Go.ChangeAt Go.RowKit Go.Maps
open Go.ChangeMaps (open_string shut_string)
set_option linter.unusedVariables false
set_option linter.unusedSimpArgs false

theorem own : ownKnob Try.prog.godebug = none := by kernel_rfl
theorem laidOut : laidOutB Try.prog = true := by kernel_rfl

theorem wf_bounds {n : Int} (h : (Lit.int .i64 n).wf = true) : -9223372036854775808 ≤ n ∧ n ≤ 9223372036854775807 := by
  simp only [Lit.wf, IntKind.min, IntKind.max, IntKind.signed, IntKind.bits] at h
  simp at h; omega
theorem topF_at {M : List FE} {t : Nat} (ht : 0 < t) (hs : (mGet M (segNm t)).isSome = true) (h : ∀ m, t < m → m ≤ 999 → mGet M (segNm m) = none) : ∀ n, t ≤ n → n ≤ 999 → topF M 0 n = t
  | 0, h1, _ => by omega
  | n + 1, h1, h2 => by
    unfold topF
    rw [if_neg (by omega)]
    by_cases e : t = n + 1
    · subst e; rw [if_pos hs]
    · rw [h (n + 1) (by omega) h2, if_neg (by simp)]
      exact topF_at ht hs h n (by omega) (by omega)
def twoM (p q : List UInt8) : List FE := [⟨segNm 0, p, 0, false⟩, ⟨segNm 1, q, 0, false⟩]
theorem twoM_0 (p q : List UInt8) : segB (twoM p q) 0 = p := by simp [segB, twoM, mGet]
theorem twoM_1 (p q : List UInt8) : mGet (twoM p q) (segNm 1) = some ⟨segNm 1, q, 0, false⟩ := by
  have : ¬ segNm 0 = segNm 1 := by decide
  simp [twoM, mGet, this]
theorem twoM_no (p q : List UInt8) (m : Nat) (h1 : 1 < m) (h2 : m ≤ 999) : mGet (twoM p q) (segNm m) = none := by
  have e0 : ¬ segNm 0 = segNm m := fun e => by have := segNm_inj (by omega) h2 e; omega
  have e1 : ¬ segNm 1 = segNm m := fun e => by have := segNm_inj (by omega) h2 e; omega
  simp [twoM, mGet, e0, e1]
theorem twoM_del (p q : List UInt8) : mDel (twoM p q) newK = twoM p q := by
  unfold mDel
  rw [List.filter_eq_self]
  intro x hx
  simp only [twoM, List.mem_cons, List.mem_nil_iff, or_false] at hx
  rcases hx with rfl | rfl <;> simpa using seg_ne_new _
theorem app_two (p q : List UInt8) (h : p.length + q.length ≤ 5000) : mAppend [] 5000 (segNm 0) p = (0, [⟨segNm 0, p, 0, false⟩]) ∧ mAppend [⟨segNm 0, p, 0, false⟩] 5000 (segNm 1) q = (0, twoM p q) := by
  have hn : ¬ segNm 0 = segNm 1 := by decide
  constructor
  · unfold mAppend
    rw [good_seg 0 (by omega), if_neg (by simp), if_neg (by simp [mUsed]; omega)]
    simp [mAppL, mGet]
  · unfold mAppend
    rw [good_seg 1 (by omega), if_neg (by simp), if_neg (by simp [mUsed]; omega)]
    simp [mAppL, mGet, twoM, hn]
/-- Two segments, the first of them torn, or empty. -/
theorem open_two (p b : List UInt8) (hb : fits b) (hp : p = [] ∨ ((framesM p).torn = true ∧ (framesM p).err = 0)) : (openM 5000 (twoM p (frameM b)) 0).err = if p = [] then 0 else 3 := by
  unfold openM
  rw [twoM_del, topF_at (t := 1) (by omega) (by rw [twoM_1]; rfl) (fun m h1 h2 => twoM_no p _ m h1 h2) 999 (by omega) (by omega)]
  show (openF 5000 1 2 (twoM p (frameM b)) 0 []).err = _
  unfold openF
  rw [twoM_0]
  rcases hp with rfl | ⟨h1, h2⟩
  · rw [framesM_nil, if_neg (by simp), if_neg (by simp), if_pos rfl]
    unfold openF
    have hs : segB (twoM [] (frameM b)) 1 = framed [b] := by unfold segB; rw [twoM_1, framed_one]; rfl
    rw [hs, framesM_framed [b] (by simpa using hb), if_neg (by simp), if_neg (by simp), if_pos rfl]
    rfl
  · have hne : ¬ p = [] := fun e => by subst e; simp [framesM_nil] at h1
    rw [if_neg (by simpa using h2), if_pos ⟨h1, by omega⟩, if_neg hne]
theorem open_bad (x : UInt8) : (openM 5000 [⟨segNm 0, [0, 0, x], 0, false⟩] 0).err = 3 := by
  have hc : cutM [0, 0, x] = ([], 0, 3) := by
    unfold cutM
    rw [if_neg (by simp), if_pos (by left; simp [leNum])]
  have hd : mDel [⟨segNm 0, [0, 0, x], 0, false⟩] newK = [⟨segNm 0, [0, 0, x], 0, false⟩] := by
    unfold mDel
    rw [List.filter_eq_self]
    intro y hy
    simp at hy
    subst hy
    simpa using seg_ne_new 0
  have ht : topF [⟨segNm 0, [0, 0, x], 0, false⟩] 0 999 = 0 := topF_none (fun n h1 h2 => by
    have e0 : ¬ segNm 0 = segNm n := fun e => by have := segNm_inj (by omega) h2 e; omega
    simp [mGet, e0]) 999 (by omega) (by omega)
  unfold openM
  rw [hd, ht]
  show (openF 5000 0 1 [⟨segNm 0, [0, 0, x], 0, false⟩] 0 []).err = 3
  unfold openF
  have hs : segB [⟨segNm 0, [0, 0, x], 0, false⟩] 0 = [0, 0, x] := by simp [segB, mGet]
  rw [hs, framesM_bad (by rw [hc]; simp) (by rw [hc]; simp) (by simp), hc, if_pos (by simp)]
/-- Open, its error alone. -/
theorem open_err {K : Nat → Prop} {w : World} {db mb room : Nat} {M : List FE} (h : DK w db mb room M K) (hcnt : M.length ≤ 990000) {er : Nat} (he : (openM room M 0).err = er) :
    Calls Try.prog 24 #[.pointer (some ⟨db, 0, none⟩), .int .i64 0] w fun e w' => ∃ p, e = .returned (.tuple #[.pointer p, .int .i64 (er : Nat)]) ∧ KT K w w' := by
  subst he
  refine (open_any h 0 (by omega) hcnt).mono ?_
  rintro e w' (⟨lb, h1, rfl, h2, h3⟩ | ⟨h1, rfl, h2, h3⟩)
  · exact ⟨_, by rw [h1]; rfl, h3⟩
  · exact ⟨_, rfl, h3⟩
set_option maxRecDepth 100000 in
set_option maxHeartbeats 4000000 in
theorem walk (a0 : Option Addr) (len0 cap0 : Nat) (z0 : List Int) (a1 : Option Addr) (len1 cap1 : Nat) (z1 : List Int) (a2 : Int) (a3 : Int) (w : World) (w0 : IsRow .u8 w a0 len0 cap0 z0) (w1 : IsRow .u8 w a1 len1 cap1 z1) (w2 : (Lit.int .i64 a2).wf = true) (w3 : (Lit.int .u8 a3).wf = true) :
    Calls Try.prog 11 #[.slice a0 len0 cap0, .slice a1 len1 cap1, .int .i64 a2, .int .u8 a3] w fun e w' => e = .returned (.bool true) ∧ Below w.heap.size w w' := by
  obtain ⟨i0, hi0, hz0, hz1, hz2⟩ := info_parts infoB
  have hbd := wf_bounds w2
  obtain ⟨c, hc⟩ : ∃ c : UInt8, (c.toNat : Int) = a3 := ⟨_, bytesOf_at w3⟩
  subst hc
  have short40 : ∀ (zs : List Int) (l : Nat), (bytesOf (zs.take (min l 40))).length ≤ 40 := fun zs l => by simp [bytesOf]; omega
  obtain ⟨la, hla⟩ : ∃ la, bytesOf (z0.take (min len0 40)) = la := ⟨_, rfl⟩
  have ba : la.length ≤ 40 := by rw [← hla]; exact short40 _ _
  obtain ⟨lq, hlq⟩ : ∃ lq, bytesOf (z1.take (min len1 40)) = lq := ⟨_, rfl⟩
  have bq : lq.length ≤ 40 := by rw [← hlq]; exact short40 _ _
  have W0 := Lib.hid w0
  have W1 := Lib.hid w1
  have HLA := Lib.hid hla
  have HLQ := Lib.hid hlq
  obtain ⟨xa, hxa⟩ : ∃ xa, la ++ [1] = xa := ⟨_, rfl⟩
  obtain ⟨xq, hxq⟩ : ∃ xq, lq ++ [2] = xq := ⟨_, rfl⟩
  have hxal : 1 ≤ xa.length ∧ xa.length ≤ 41 := by rw [← hxa]; simp; omega
  have hxql : 1 ≤ xq.length ∧ xq.length ≤ 41 := by rw [← hxq]; simp; omega
  have FA : Hid (fits xa) := ⟨by omega, by omega⟩
  have FQ : Hid (fits xq) := ⟨by omega, by omega⟩
  have XA := Lib.hid hxa
  have XQ := Lib.hid hxq
  clear w0 w1 w2 w3 hla hlq hxa hxq short40
  go_enter Try.func11, Try.ntmps11
  go_wp2_with fail
  refine (begun4_any w).mono ?_
  rintro e w1 ⟨rfl, t1⟩
  have T1 := Lib.hid t1; clear t1
  go_wp2_with fail
  refine (short_own a0 len0 cap0 z0 40 w1 (W0.out.tch0 T1.out) (by omega)).mono ?_
  rintro e w2 ⟨va, rfl, s2, f2, t2, o2⟩
  rw [HLA.out] at s2 o2
  have T2 := Lib.hid (T1.out.trans0 t2)
  have O2 := Lib.hid o2
  have F2 := Lib.hid (fun k (hk : va.ownBlock = some k) => Nat.le_trans T1.out.size (f2 k hk))
  obtain ⟨b0, m0, d0, rfl, hm0⟩ := s2.shape'
  clear t2 s2 f2 o2 hm0
  go_wp2_with (at_builtin; go_must (refine wpList_app _ rfl _ _ 22 rfl 5 i0 Try.underlying22 hi0 hz0 hz1 hz2 (.slice b0 m0 d0) la rfl (own_tch O2.out (Tch.alloc _ _) (fun _ _ h => h)) _ [1] rfl (SlB.lit w2 #[.int .u8 1] [1] 1 5 (0, 0) rfl rfl (by decide)) (by unfold lim; simp; omega) xa XA.out.symm ?_); intro aA nA cA w3 hA hnA; have SA := Lib.hid (SlB.ofRow hA.own (by unfold lim; omega)); have T3 : Hid (Tch No w w3) := (T2.out.trans0 (Tch.alloc _ _)).fresh (Tch.grown hA.grow (F := fun k => (Value.slice b0 m0 d0).ownBlock = some k) (fun k hk _ => hk)) (fun k hk => by have := F2.out k hk; have := T1.out.size; omega); clear hA hnA)
  refine (short_own a1 len1 cap1 z1 40 w3 (W1.out.tch0 T3.out) (by omega)).mono ?_
  rintro e w4 ⟨vq, rfl, s4, f4, t4, o4⟩
  rw [HLQ.out] at s4 o4
  have T4 := Lib.hid (T3.out.trans0 t4)
  have O4 := Lib.hid o4
  have F4 := Lib.hid f4
  have SA4 := Lib.hid (SA.out.tch0 t4)
  obtain ⟨b4, m4, d4, rfl, hm4⟩ := s4.shape'
  have LA : Hid (∀ k, (Value.slice aA nA cA).ownBlock = some k → k < w3.heap.size) := SA.out.blt
  clear t4 s4 f4 o4 hm4 SA T2 F2 O2
  by_cases hneg : a2 < 0
  · go_wp2_with (at_builtin; go_must (refine wpList_app _ rfl _ _ 22 rfl 5 i0 Try.underlying22 hi0 hz0 hz1 hz2 (.slice b4 m4 d4) lq rfl (own_tch O4.out (Tch.alloc _ _) (fun _ _ h => h)) _ [2] rfl (SlB.lit w4 #[.int .u8 2] [2] 1 5 (0, 0) rfl rfl (by decide)) (by unfold lim; simp; omega) xq XQ.out.symm ?_); intro aQ nQ cQ w5 hA hnA; have T5 : Hid (Tch No w w5) := (T4.out.trans0 (Tch.alloc _ _)).fresh (Tch.grown hA.grow (F := fun k => (Value.slice b4 m4 d4).ownBlock = some k) (fun k hk _ => hk)) (fun k hk => by have := F4.out k hk; have := T3.out.size; omega); clear hA hnA)
    go_ret
    exact ⟨rfl, T5.out.below0⟩
  obtain ⟨ct, rfl⟩ : ∃ ct : Nat, a2 = (ct : Int) := ⟨a2.toNat, by omega⟩
  have hneg' : ¬ (ct : Int) < 0 := by omega
  clear hneg hbd
  go_wp2_with (at_builtin; go_must (refine wpList_app _ rfl _ _ 22 rfl 5 i0 Try.underlying22 hi0 hz0 hz1 hz2 (.slice b4 m4 d4) lq rfl (own_tch O4.out (Tch.alloc _ _) (fun _ _ h => h)) _ [2] rfl (SlB.lit w4 #[.int .u8 2] [2] 1 5 (0, 0) rfl rfl (by decide)) (by unfold lim; simp; omega) xq XQ.out.symm ?_); intro aQ nQ cQ w5 hA hnA; have SQ := Lib.hid (SlB.ofRow hA.own (by unfold lim; omega)); have T5 : Hid (Tch No w w5) := (T4.out.trans0 (Tch.alloc _ _)).fresh (Tch.grown hA.grow (F := fun k => (Value.slice b4 m4 d4).ownBlock = some k) (fun k hk _ => hk)) (fun k hk => by have := F4.out k hk; have := T3.out.size; omega); have SA5 : Hid (SlB w5 (.slice aA nA cA) xa) := (SA4.out.tch0 (Tch.alloc _ _)).tch (Tch.grown hA.grow (F := fun k => (Value.slice b4 m4 d4).ownBlock = some k) (fun k hk _ => hk)) (fun k hk e => by have := LA.out k hk; have := F4.out k e; omega); clear hA hnA)
  refine (rframe_any _ xa w5 SA5.out FA.out).mono ?_
  rintro e w6 ⟨vf, rfl, s6, _, _, t6⟩
  obtain ⟨fa, fm, fc, rfl, hfm⟩ := s6.shape'
  have hN : fm = 6 + xa.length := hfm.out.trans (frameM_length _)
  have hfc : fm ≤ fc := by
    obtain ⟨a', c', e, h1, h2⟩ := s6.shape
    injection e with e1 e2 e3; rw [e2, e3]; exact h1
  have S6 := Lib.hid s6
  have SQ6 := Lib.hid (SQ.out.tch0 t6)
  have T6 := Lib.hid (T5.out.trans0 t6)
  clear s6 t6 hfm SQ SA5 LA SA4 T5 T4 T3 F4 O4
  obtain ⟨kk, hkk, hkl⟩ : ∃ kk : Nat, (ct : Int).tmod (fm : Int) = (kk : Int) ∧ kk < fm := by
    rw [Int.tmod_eq_emod_of_nonneg (by omega)]
    exact ⟨ct % fm, by omega, Nat.mod_lt _ (by omega)⟩
  have hfm0 : ¬ (fm : Int) = 0 := by omega
  have hkc : (kk : Int) ≤ (fc : Int) := by omega
  have hk0 : (0 : Int) ≤ (kk : Int) := by omega
  have hkA : kk < 6 + xa.length := by omega
  clear hN hfc hkl
  go_wp2_with fail
  refine (dk_new (K := K0 w6) 5000 w6 (fun k hk => hk)).mono ?_
  rintro e w7 ⟨db, mb, rfl, d7, t7⟩
  rw [show roomOf 5000 = 5000 by rfl] at d7
  have hap := app_two ((frameM xa).take kk) (frameM xq) (by rw [List.length_take, frameM_length, frameM_length]; omega)
  have hp1 := dk_append d7 ⟨#[108, 111, 103, 48, 48, 48]⟩ _ _ ((S6.out.tch0 t7).take kk (by rw [frameM_length]; omega)) (fun k hk => S6.out.blt k (by cases fa with
    | none => simp [Value.ownBlock] at hk
    | some ad => simpa [Value.ownBlock] using hk)) (by decide) (by simp) (by rw [List.length_take, frameM_length]; omega)
  rw [show (ByteArray.mk #[108, 111, 103, 48, 48, 48]).data.toList = segNm 0 from rfl, hap.1] at hp1
  have HP1 := Lib.hid hp1
  have T7 := Lib.hid (T6.out.trans0 t7)
  have HAP2 := Lib.hid hap.2
  have S67 := Lib.hid t7
  clear d7 t7 hap hp1 S6
  go_wp2_with fail
  refine HP1.out.mono ?_
  rintro e w8 ⟨rfl, d8, k8⟩
  have D8 := Lib.hid d8
  have T8 : Hid (Tch No w6 w8) := k8.noK (w := w6) S67.out
  have SQ8 := Lib.hid (SQ6.out.tch0 T8.out)
  clear d8 k8 HP1
  go_wp2_with fail
  refine (rframe_any _ xq w8 SQ8.out FQ.out).mono ?_
  rintro e w9 ⟨vr, rfl, s9, f9, _, t9⟩
  have D9 : Hid (DK w9 db mb 5000 [⟨segNm 0, (frameM xa).take kk, 0, false⟩] (fun k => K0 w6 k ∨ vr.ownBlock = some k)) := D8.out.more t9 (fun k hk => by
    rcases hk with hk | hk
    · exact .inl hk
    · exact .inr ⟨f9 k hk, s9.blt k hk⟩)
  have hp2 := dk_append D9.out ⟨#[108, 111, 103, 48, 48, 49]⟩ vr (frameM xq) s9 (fun k hk => .inr hk) (by decide) (by simp) (by rw [frameM_length]; omega)
  rw [show (ByteArray.mk #[108, 111, 103, 48, 48, 49]).data.toList = segNm 1 from rfl, HAP2.out] at hp2
  have HP2 := Lib.hid hp2
  have T9 := Lib.hid (T8.out.trans0 t9)
  clear hp2 s9 f9 t9 SQ8 D8
  go_wp2_with fail
  refine HP2.out.mono ?_
  rintro e w10 ⟨rfl, d10, k10⟩
  have D10 := Lib.hid d10
  have T10 : Hid (Tch No w6 w10) := (k10.mono (K' := K0 w6) (fun k _ hk => .inl hk)).noK (w := w6) T9.out
  clear d10 k10 HP2 D9
  have hop := open_two ((frameM xa).take kk) xq FQ.out (by
    by_cases hz : kk = 0
    · left; rw [hz]; rfl
    · right
      have h := framesM_torn (cutM_part xa FA.out kk (by omega)) (by
        intro e
        have := congrArg List.length e
        rw [List.length_take, frameM_length] at this
        simp at this; omega)
      rw [h]; exact ⟨rfl, rfl⟩)
  have hiff : ((frameM xa).take kk = []) ↔ kk = 0 := by
    constructor
    · intro e
      have := congrArg List.length e
      rw [List.length_take, frameM_length] at this
      simp at this; omega
    · rintro rfl; rfl
  by_cases hz : kk = 0
  · rw [if_pos (hiff.2 hz)] at hop
    have HOP := Lib.hid hop
    have hzi : kk = 0 := by omega
    clear hop hiff hzi
    go_wp2_with fail
    refine (open_err D10.out (by simp [twoM]) HOP.out).mono ?_
    rintro e w11 ⟨p11, rfl, k11⟩
    have T11 : Hid (Tch No w6 w11) := k11.mono (K' := K0 w6) (fun k _ hk => .inl hk) |>.noK (w := w6) T10.out
    clear k11
    go_wp2_with fail
    refine (dk_new (K := K0 w11) 5000 w11 (fun k hk => hk)).mono ?_
    rintro e w12 ⟨dg, mg, rfl, d12, t12⟩
    rw [show roomOf 5000 = 5000 by rfl] at d12
    have hsl : SlB (w12.alloc (.cells #[.int .u8 0, .int .u8 0, .int .u8 (c.toNat : Int)] 5)) (.slice (some ⟨w12.heap.size, 0, none⟩) 3 3) [0, 0, c] := SlB.lit w12 _ [0, 0, c] 3 5 (0, 0) rfl rfl (by decide)
    have hp3 := dk_append (d12.more (K' := fun k => K0 w11 k ∨ k = w12.heap.size) (Tch.alloc _ (.cells #[.int .u8 0, .int .u8 0, .int .u8 (c.toNat : Int)] 5)) (fun k hk => by
      rcases hk with hk | rfl
      · exact .inl hk
      · exact .inr ⟨Nat.le_refl _, by simp⟩)) ⟨#[108, 111, 103, 48, 48, 48]⟩ _ [0, 0, c] hsl (fun k hk => by simp [Value.ownBlock] at hk; exact .inr hk.symm) (by decide) (by simp) (by simp)
    rw [show (ByteArray.mk #[108, 111, 103, 48, 48, 48]).data.toList = segNm 0 from rfl, (app_two [0, 0, c] [] (by simp)).1] at hp3
    have HP3 := Lib.hid hp3
    have T12 := Lib.hid t12
    clear d12 hsl hp3 t12
    go_wp2_with fail
    refine HP3.out.mono ?_
    rintro e w13 ⟨rfl, d13, k13⟩
    have D13 := Lib.hid d13
    have T13 : Hid (Tch No w11 w13) := (k13.mono (K' := K0 w11) (fun k _ hk => .inl hk)).noK (w := w11) (T12.out.trans0 (Tch.alloc _ _))
    clear d13 k13 HP3
    go_wp2_with fail
    refine (open_err D13.out (by simp) (open_bad c)).mono ?_
    rintro e w14 ⟨p14, rfl, k14⟩
    have T14 : Hid (Tch No w11 w14) := (k14.mono (K' := K0 w11) (fun k _ hk => .inl hk)).noK (w := w11) T13.out
    clear k14
    go_wp2_with fail
    go_ret
    exact ⟨rfl, (T6.out.trans0 (T11.out.trans0 T14.out)).below0⟩
  · rw [if_neg (fun e => hz (hiff.1 e))] at hop
    have HOP := Lib.hid hop
    have hzi : ¬ (kk : Int) = 0 := by omega
    have hzb : ((kk : Int) == 0) = false := by rw [beq_eq_false_iff_ne]; omega
    clear hop hiff
    go_wp2_with fail
    refine (open_err D10.out (by simp [twoM]) HOP.out).mono ?_
    rintro e w11 ⟨p11, rfl, k11⟩
    have T11 : Hid (Tch No w6 w11) := k11.mono (K' := K0 w6) (fun k _ hk => .inl hk) |>.noK (w := w6) T10.out
    clear k11
    go_wp2_with fail
    refine (dk_new (K := K0 w11) 5000 w11 (fun k hk => hk)).mono ?_
    rintro e w12 ⟨dg, mg, rfl, d12, t12⟩
    rw [show roomOf 5000 = 5000 by rfl] at d12
    have hsl : SlB (w12.alloc (.cells #[.int .u8 0, .int .u8 0, .int .u8 (c.toNat : Int)] 5)) (.slice (some ⟨w12.heap.size, 0, none⟩) 3 3) [0, 0, c] := SlB.lit w12 _ [0, 0, c] 3 5 (0, 0) rfl rfl (by decide)
    have hp3 := dk_append (d12.more (K' := fun k => K0 w11 k ∨ k = w12.heap.size) (Tch.alloc _ (.cells #[.int .u8 0, .int .u8 0, .int .u8 (c.toNat : Int)] 5)) (fun k hk => by
      rcases hk with hk | rfl
      · exact .inl hk
      · exact .inr ⟨Nat.le_refl _, by simp⟩)) ⟨#[108, 111, 103, 48, 48, 48]⟩ _ [0, 0, c] hsl (fun k hk => by simp [Value.ownBlock] at hk; exact .inr hk.symm) (by decide) (by simp) (by simp)
    rw [show (ByteArray.mk #[108, 111, 103, 48, 48, 48]).data.toList = segNm 0 from rfl, (app_two [0, 0, c] [] (by simp)).1] at hp3
    have HP3 := Lib.hid hp3
    have T12 := Lib.hid t12
    clear d12 hsl hp3 t12
    go_wp2_with fail
    refine HP3.out.mono ?_
    rintro e w13 ⟨rfl, d13, k13⟩
    have D13 := Lib.hid d13
    have T13 : Hid (Tch No w11 w13) := (k13.mono (K' := K0 w11) (fun k _ hk => .inl hk)).noK (w := w11) (T12.out.trans0 (Tch.alloc _ _))
    clear d13 k13 HP3
    go_wp2_with fail
    refine (open_err D13.out (by simp) (open_bad c)).mono ?_
    rintro e w14 ⟨p14, rfl, k14⟩
    have T14 : Hid (Tch No w11 w14) := (k14.mono (K' := K0 w11) (fun k _ hk => .inl hk)).noK (w := w11) T13.out
    clear k14
    go_wp2_with fail
    go_ret
    exact ⟨rfl, (T6.out.trans0 (T11.out.trans0 T14.out)).below0⟩

/-! ### THE ROW's STEP: WRITTEN OUT: LEAVE IT -/
set_option maxRecDepth 100000 in
theorem lifted (os : Os) (started : os.Started) (H : Type) (enc : TypeId × Value → H) :
    ReturnsInHanded {} Try.checked os 11 .any (Rows.segMiddleSpec.pre6 enc Try.prog Try.f11 Rows.segMiddleRow.domain false) (Rows.segMiddleSpec.post enc Try.prog Try.f11 false true false false) := by
  refine returnsInHanded_of_change (C := Try.checked) own started (by kernel_rfl) Try.func11
    (ChangeSpec.witness6 (enc := enc) (C := Try.checked) false ⟨#[], #[.slice none 0 0, .slice none 0 0, .int .i64 0, .int .u8 0], []⟩ 8 (by kernel_rfl) (by kernel_rfl) (by kernel_rfl) (by kernel_rfl)) ?_
  intro W base args ds gs before hval0 hW hcnd _
  have hval : ∀ (j : Nat) t v, Try.f11.params[j]? = some t → args[j]? = some v → Value.okWide Try.prog W .any base t v := hval0
  have hW' := hW
  obtain ⟨p, q, hA0, hV, rfl, hfz, hnd⟩ := hW
  have hA : DataW.TrodAll enc Try.prog W 0 (fun _ => true) true Try.f11.params.toList args.toList ds p := hA0
  rw [Try.params11] at hA hval
  obtain ⟨v0, vs0, d0, ds0, p0, q0, hargs, rfl, rfl, h0, r0⟩ := trodAll_cons hA
  obtain ⟨v1, vs1, d1, ds1, p1, q1, rfl, rfl, rfl, h1, r1⟩ := trodAll_cons r0
  obtain ⟨v2, vs2, d2, ds2, p2, q2, rfl, rfl, rfl, h2, r2⟩ := trodAll_cons r1
  obtain ⟨v3, vs3, d3, ds3, p3, q3, rfl, rfl, rfl, h3, r3⟩ := trodAll_cons r2
  obtain ⟨rfl, rfl, rfl⟩ := trodAll_nil r3
  obtain rfl : args = #[v0, v1, v2, v3] := by cases args; simp_all
  obtain ⟨rfl, rfl⟩ := trodVars_none hV
  obtain ⟨a0, len0, cap0, rfl⟩ := okWide_slice Try.underlying22 (hval 0 22 v0 rfl rfl)
  have k0 := h0
  have lt0 : ∀ x ∈ p0, x.block < W.heap.size := by obtain ⟨m, hm⟩ := k0; exact DataW.trod_lt m _ _ _ hm
  obtain ⟨z0, w0⟩ : ∃ zs, IsRow .u8 W a0 len0 cap0 zs := by
    obtain ⟨fuel, hf⟩ := h0
    rcases open_ints Try.underlying22 Try.underlying5 (by kernel_rfl) hf with ⟨hcs, _⟩ | ⟨x, l, c, zs, hcs, _, hl, hm, hz, _, hcell, hwz⟩
    · simp [Value.cells] at hcs
      obtain ⟨rfl, rfl, rfl⟩ := hcs
      exact ⟨[], .inl ⟨rfl, rfl, rfl, rfl⟩⟩
    · simp [Value.cells] at hcs
      obtain ⟨rfl, rfl, rfl⟩ := hcs
      exact ⟨zs, .inr ⟨_, rfl, hl, hm, by simpa using hz, hcell, hwz⟩⟩
  obtain ⟨a1, len1, cap1, rfl⟩ := okWide_slice Try.underlying22 (hval 1 22 v1 rfl rfl)
  have k1 := h1
  have lt1 : ∀ x ∈ p1, x.block < W.heap.size := by obtain ⟨m, hm⟩ := k1; exact DataW.trod_lt m _ _ _ hm
  obtain ⟨z1, w1⟩ : ∃ zs, IsRow .u8 W a1 len1 cap1 zs := by
    obtain ⟨fuel, hf⟩ := h1
    rcases open_ints Try.underlying22 Try.underlying5 (by kernel_rfl) hf with ⟨hcs, _⟩ | ⟨x, l, c, zs, hcs, _, hl, hm, hz, _, hcell, hwz⟩
    · simp [Value.cells] at hcs
      obtain ⟨rfl, rfl, rfl⟩ := hcs
      exact ⟨[], .inl ⟨rfl, rfl, rfl, rfl⟩⟩
    · simp [Value.cells] at hcs
      obtain ⟨rfl, rfl, rfl⟩ := hcs
      exact ⟨zs, .inr ⟨_, rfl, hl, hm, by simpa using hz, hcell, hwz⟩⟩
  obtain ⟨a2, rfl, rfl, rfl, w2⟩ := open_int Try.underlying3 (hval 2 3 v2 rfl rfl) h2
  obtain ⟨a3, rfl, rfl, rfl, w3⟩ := open_int Try.underlying5 (hval 3 5 v3 rfl rfl) h3
  clear hA0 hval0
  refine (walk a0 len0 cap0 z0 a1 len1 cap1 z1 a2 a3 W w0 w1 w2 w3).mono fun e W' ⟨he, bel⟩ => ?_
  subst he
  exact ⟨_, rfl, _, _, _, [], _, [], hW', trodAll_mk1 (shut_bool Try.underlying4 _), (trodAll_cons_mk (Below.trod laidOut (by kernel_rfl) (of_decide_eq_true (by kernel_rfl)) k0 bel lt0) (trodAll_cons_mk (Below.trod laidOut (by kernel_rfl) (of_decide_eq_true (by kernel_rfl)) k1 bel lt1) (trodAll_cons_mk (shut_int Try.underlying3 w2) (trodAll_cons_mk (shut_int Try.underlying5 w3) trodAll_mk0)))), rfl, bel.frame _, fun h => by cases h⟩

theorem over : Rows.segMiddleRow.holds Try.pinned (OpenSpec.ofChange Rows.segMiddleSpec) :=
  OpenClaim.holds_of_wide 11 Try.f11 rfl rfl rfl rfl rfl rfl rfl ⟨rfl, rfl, rfl, rfl, rfl⟩ rfl rfl rfl rfl rfl (by kernel_rfl) Try.func11 (by kernel_rfl)
    (of_decide_eq_true (by kernel_rfl)) (by unfold Func.isWrapper; first | (rw [if_pos (by decide +kernel)]; kernel_rfl) | (rw [if_neg (by decide +kernel)]; exact ⟨rfl, rfl⟩))
    (fun os started H enc _ => lifted os started H enc)

/--  THE STATEMENT  -/
theorem proved : Rows.SegMiddleSaid := over
#print axioms proved
end Go.Proofs.Ytcjlgdldhcbcjaa.segMiddle
