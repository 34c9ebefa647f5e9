/- The document's Cut, whole; cuts. No condition. -/
import Derived.Test.YtcjlgdldhcbcjaaRFrame
import Derived.Deep.RegionLaw
namespace Go.Proofs.Ytcjlgdldhcbcjaa
open Go.RowKit Go.Maps
set_option linter.unusedVariables false
set_option linter.unusedSimpArgs false

/-- 'append(own, b...)' as a step of a region that draws its order. -/
theorem step_app {P : Program} (w : World) {ops : Array Oper} {o : Oper} {a : Act} {K : Act → World → Prop} {Q : Exit → Act → World → Prop} {E : Prop} (hgd : o.guard = none) (s x : Operand) (t : TypeId)
    (ho : o.op = .call { callee := .builtin .append, args := #[s, x], argTypes := #[t, t] })
    (e : TypeId) (i : TypeInfo) (ht : P.underlying t = some (.slice e)) (hi : P.info? e = some i) (hz : i.zero = some (.int .u8 0))
    (hsize : i.size = 1) (hby : i.bytes = 1)
    (v : Value) (xs : List UInt8) (hs : a.eval s = v) (hown : w.ownsRow 0 e 1 v xs.length (u8s xs))
    (u : Value) (bs : List UInt8) (hx : a.eval x = u) (hu : SlS w u bs)
    (hlen : xs.length + bs.length ≤ lim) (ys : List UInt8) (hys : Hid (ys = xs ++ bs))
    (h : ∀ a' n' cap' w', AppPost e w v ys (.slice a' n' cap') w' → Hid (n' = ys.length) → K (a.put o.dst (.slice a' n' cap')) w') :
    if Region.wanted o (yielded ops a.tmps) = true then Oper.wp P o a w K Q else E := by
  have hw : Region.wanted o (yielded ops a.tmps) = true := by simp [Region.wanted, hgd]
  rw [if_pos hw]
  have hys' := hys.out
  subst hys'
  unfold Oper.wp execOp
  rcases hu.2 with ⟨rfl, rfl⟩ | ⟨ad, cap, rfl, h4⟩
  · have hr := run_append_owned_none (P := P) w 0 t o.type e i 1 ht hi v xs.length (u8s xs) hown
    simp only [ho, resolve, invoke, builtin, Sem.run_bind, Sem.run_pure, Result.andThen_ok, List.map_toArray, List.map_cons, List.map_nil, hs, hx, hr]
    obtain ⟨a', cap', rfl, _, _⟩ := own_shape hown
    exact h a' xs.length cap' w ⟨by simpa using hown, World.grownBy.refl _ _, fun hn _ => by
        have : xs = [] := by simpa using hn
        subst this
        rcases hown.2 with ⟨h, _⟩ | ⟨g, c, cur, h, _⟩
        · simpa using h
        · simp_all, .inl rfl⟩ (by simp [Hid])
  · obtain ⟨v', w', hr, hown', hg, hn, hloc⟩ := run_append_own_at (P := P) w 0 t o.type e i (.int .u8 0) 1 1 ht hi hz hsize hby rfl (by decide) v xs.length (u8s xs) hown ad bs.length cap (u8s bs) (by simp [u8s]) h4 (u8s_one bs) (by unfold lim at hlen; simp only [maxLen]; omega) (by unfold lim at hlen; omega) (Nat.zero_le _)
    simp only [ho, resolve, invoke, builtin, Sem.run_bind, Sem.run_pure, Result.andThen_ok, List.map_toArray, List.map_cons, List.map_nil, hs, hx, hr]
    have e1 : xs.length + bs.length = (xs ++ bs).length := by simp
    rw [e1, ← u8s_append] at hown'
    obtain ⟨a', cap', rfl, _, _⟩ := own_shape hown'
    have hloc' : (Value.slice a' (xs ++ bs).length cap').ownBlock = v.ownBlock ∨ (Value.slice a' (xs ++ bs).length cap').ownBlock = some w.heap.size := by first | exact hloc | exact hloc.2 | exact hloc.1
    refine h a' _ cap' w' ⟨hown', hg, fun q1 q2 => hn.2 ⟨q2, ?_⟩, hloc'⟩ rfl
    have := congrArg List.length q1
    simp at this
    simp [this.2]
/-- The document's Sum as a step of a region that draws its order. -/
theorem step_rsum {ops : Array Oper} {o : Oper} {a : Act} {w : World} {K : Act → World → Prop} {Q : Exit → Act → World → Prop} {E : Prop} (hgd : o.guard = none) (x : Operand)
    (ho : o.op = .call { callee := .value (.func 41), args := #[x], argTypes := #[22] })
    (v : Value) (bs : List UInt8) (hx : a.eval x = v) (hu : SlB w v bs) (hl : bs.length ≤ 100000) (s : Nat) (hs : crcOn 0 bs = s)
    (h : ∀ w', Tch No w w' → K (a.put o.dst (.int .u32 (s : Nat))) w') :
    if Region.wanted o (yielded ops a.tmps) = true then Oper.wp Try.prog o a w K Q else E := by
  have hw : Region.wanted o (yielded ops a.tmps) = true := by simp [Region.wanted, hgd]
  rw [if_pos hw]
  unfold Oper.wp execOp
  have he : a.eval (.func 41) = .func (.func 41) #[] #[] := rfl
  simp only [ho, resolve, invoke, Sem.run_bind, Sem.run_pure, Result.andThen_ok, List.map_toArray, List.map_cons, List.map_nil, hx, he, Deferred.ofValue, callFunc, Array.append_empty]
  have hn : (Try.f41.name == "runtime.NumGoroutine") = false := by kernel_rfl
  have hb : Try.f41.body.isNone = false := by kernel_rfl
  have hp : program.run Try.prog w = .ok Try.prog w := rfl
  simp only [hp, Result.andThen_ok, Try.func41, hn, hb, Bool.false_eq_true, if_false, Sem.run_pure, Oper.upon_enter, Array.empty_append]
  with_reducible refine (rsum_any v bs w hu hl).mono ?_
  rintro e w' ⟨rfl, h1⟩
  rw [hs]
  exact h w' h1
/-- What the document's Cut gives. -/
def RCutPost (w : World) (bs : List UInt8) (e : Ending) (w' : World) : Prop :=
  ∃ x, e = .returned (.tuple #[x, .int .i64 ((cutM bs).2.1 : Nat), .int .i64 ((cutM bs).2.2 : Nat)]) ∧ SlB w' x (cutM bs).1 ∧ Tch No w w'
theorem RCutPost.bad {w w' : World} {bs : List UInt8} (k : Nat) (h : cutM bs = ([], 0, k)) (t : Tch No w w') : RCutPost w bs (.returned (.tuple #[.slice none 0 0, .int .i64 0, .int .i64 (k : Int)])) w' :=
  ⟨.slice none 0 0, by rw [h]; rfl, by rw [h]; exact SlB.nil _, t⟩
theorem cutM_more {bs : List UInt8} (hm : (cutM bs).2.2 = 2) : cutM bs = ([], 0, 2) := by
  unfold cutM at hm ⊢
  split
  · rfl
  · next h1 =>
    rw [if_neg h1] at hm
    split
    · next h2 => rw [if_pos h2] at hm; simp at hm
    · next h2 =>
      rw [if_neg h2] at hm
      split
      · rfl
      · next h3 =>
        rw [if_neg h3] at hm
        split at hm <;> simp at hm
theorem or_mulN (a b i m : Nat) (hm : m = 2 ^ i) (h : a < m) : a ||| (b * m) = b * m + a := by
  subst hm
  rw [Nat.or_comm, ← Nat.shiftLeft_eq, Nat.shiftLeft_add_eq_or_of_lt h]
theorem or32 (e2 e3 e4 e5 : Nat) (h2 : e2 < 256) (h3 : e3 < 256) (h4 : e4 < 256) (h5 : e5 < 256) : bits BinOp.or IntKind.u32 (bits BinOp.or IntKind.u32 (bits BinOp.or IntKind.u32 (e2 : Int) ((e3 : Int) * 256)) ((e4 : Int) * 65536)) ((e5 : Int) * 16777216) = ((e2 + 256 * e3 + 65536 * e4 + 16777216 * e5 : Nat) : Int) := by
  have q2 : ((e3 : Int) * 256) = ((e3 * 256 : Nat) : Int) := by omega
  have q1 : ((e4 : Int) * 65536) = ((e4 * 65536 : Nat) : Int) := by omega
  have q0 : ((e5 : Int) * 16777216) = ((e5 * 16777216 : Nat) : Int) := by omega
  rw [q2, q1, q0, Go.u32_or_nat e2 (e3 * 256) (by omega) (by omega), or_mulN e2 e3 8 256 (by decide) (by omega), Go.u32_or_nat _ (e4 * 65536) (by omega) (by omega), or_mulN _ e4 16 65536 (by decide) (by omega), Go.u32_or_nat _ (e5 * 16777216) (by omega) (by omega), or_mulN _ e5 24 16777216 (by decide) (by omega)]
  omega
theorem u8_of {n : Nat} (h : n < 256) (c : UInt8) : UInt8.ofNat n = c ↔ c.toNat = n := by
  constructor
  · intro e; rw [← e]; simp; omega
  · intro e; apply UInt8.toNat_inj.1; simp; omega
theorem leBytes_leNum2 {l : List UInt8} (h : l.length = 2) : leBytes 2 (leNum l) = l := by
  match l, h with
  | [a, b], _ =>
    have ha := UInt8.toNat_lt a
    have hb := UInt8.toNat_lt b
    simp only [leNum, leBytes, List.cons.injEq, and_true]
    exact ⟨(u8_of (by omega) a).2 (by omega), (u8_of (by omega) b).2 (by omega)⟩
theorem size_eq (bs : List UInt8) (h : 6 ≤ bs.length) (s : Nat) (hs : s < 4294967296) : (bs.take 2 ++ leBytes 2 s ++ leBytes 2 (s / 65536) = bs.take 6) ↔ bs[2].toNat + 256 * bs[3].toNat + 65536 * bs[4].toNat + 16777216 * bs[5].toNat = s := by
  match bs, h with
  | a :: b :: c :: d :: e :: f :: r, _ =>
    have hc := UInt8.toNat_lt c
    have hd := UInt8.toNat_lt d
    have he := UInt8.toNat_lt e
    have hf := UInt8.toNat_lt f
    have h1 := u8_of (n := s % 256) (by omega) c
    have h2 := u8_of (n := s / 256 % 256) (by omega) d
    have h3 := u8_of (n := s / 65536 % 256) (by omega) e
    have h4 := u8_of (n := s / 65536 / 256 % 256) (by omega) f
    simp only [leBytes, List.take_succ_cons, List.take_zero, List.cons_append, List.nil_append, List.cons.injEq, and_true, true_and, h1, h2, h3, h4, List.getElem_cons_succ, List.getElem_cons_zero]
    omega
set_option maxRecDepth 100000 in
set_option maxHeartbeats 4000000 in
theorem rcut_any (v : Value) (bs : List UInt8) (w : World) (h : SlB w v bs) : Calls Try.prog 42 #[v] w (RCutPost w bs) := by
  by_cases hmore : (cutM bs).2.2 = 2
  · refine (rcut_more v bs w h hmore).mono ?_
    rintro e w' ⟨rfl, t⟩
    exact RCutPost.bad 2 (cutM_more hmore) t
  obtain ⟨i0, hi0, hz0, hz1, hz2⟩ := info_parts infoB
  obtain ⟨a, cap, rfl, hc, hmx⟩ := h.shape
  have H := Lib.hid h
  have hl := h.1
  unfold lim at hl
  obtain ⟨n, hn⟩ : ∃ n, bs.length = n := ⟨_, rfl⟩
  have N := Lib.hid hn
  obtain ⟨m, hmm⟩ : ∃ m, leNum (bs.take 2) = m := ⟨_, rfl⟩
  have h2 : ¬ n < 2 := fun q => hmore (by rw [cutM, if_pos (by omega)])
  have hln := leNum2 (bs := bs) (by omega)
  obtain ⟨g, o, ha⟩ : ∃ g o, a = some ⟨g, o, none⟩ := by
    rcases h.2 with ⟨_, h'⟩ | ⟨g, o, d, h', _⟩
    · rw [h'] at hn; simp at hn; omega
    · injection h' with h'; exact ⟨g, o, h'⟩
  subst ha
  have yall : ∀ W, Tch No w W → ∀ (i : Nat) (hi : i < bs.length), W.cell? ⟨g, o + i, none⟩ = some (.int .u8 ((bs[i]'hi).toNat : Int)) := by
    intro W hW i hi
    rcases (h.tch0 hW).2 with ⟨h', _⟩ | ⟨g', o', d, h', _, _, _, x1⟩
    · cases h'
    · simp only [Value.slice.injEq, Option.some.injEq, Addr.mk.injEq, and_true] at h'
      obtain ⟨⟨rfl, rfl⟩, _⟩ := h'
      exact x1 i hi
  have y0 := yall w (Tch.refl _ _) 0 (by omega)
  have y1 := yall w (Tch.refl _ _) 1 (by omega)
  rw [Nat.add_zero] at y0
  obtain ⟨e0, he0⟩ : ∃ e0, (bs[0]'(by omega)).toNat = e0 := ⟨_, rfl⟩
  obtain ⟨e1, he1⟩ : ∃ e1, (bs[1]'(by omega)).toNat = e1 := ⟨_, rfl⟩
  have hb0 : e0 < 256 := by rw [← he0]; exact UInt8.toNat_lt _
  have hb1 : e1 < 256 := by rw [← he1]; exact UInt8.toNat_lt _
  rw [hmm] at hln
  rw [he0] at y0 hln
  rw [he1] at y1 hln
  have E1 : IntKind.i64.wrap (256 * (e1 : Int)) = 256 * (e1 : Int) := IntWalk.i64_in _ ⟨by omega, by omega⟩
  have E2 : IntKind.i64.wrap ((e0 : Int) + 256 * (e1 : Int)) = (m : Int) := by rw [IntWalk.i64_in _ ⟨by omega, by omega⟩]; omega
  have E3 : IntKind.i64.wrap (e0 : Int) = (e0 : Int) := IntWalk.i64_in _ ⟨by omega, by omega⟩
  have E4 : IntKind.i64.wrap (e1 : Int) = (e1 : Int) := IntWalk.i64_in _ ⟨by omega, by omega⟩
  have p1 : 2 ≤ (n : Int) := by omega
  have q4 : (1 : Int) < (n : Int) := by omega
  have q5 : (0 : Int) < (n : Int) := by omega
  rw [hn] at hc hl ⊢
  by_cases q1 : m < 1
  · have hE : Hid (cutM bs = ([], 0, 3)) := by rw [Hid, cutM, if_neg (by omega), hmm, if_pos (Or.inl q1)]
    have r1 : (m : Int) < 1 := by omega
    clear h hn hmore he0 he1 hmm yall hln
    go_enter Try.func42, Try.ntmps42
    go_wp2_with fail
    go_quiet (fail)
    go_wp2_with fail
    go_ret3
    exact RCutPost.bad 3 hE.out (tch_drewN _ _)
  have r1 : ¬ (m : Int) < 1 := by omega
  by_cases q2 : 4000 < m
  · have hE : Hid (cutM bs = ([], 0, 3)) := by rw [Hid, cutM, if_neg (by omega), hmm, if_pos (Or.inr q2)]
    have r2 : 4000 < (m : Int) := by omega
    clear h hn hmore he0 he1 hmm yall hln
    go_enter Try.func42, Try.ntmps42
    go_wp2_with fail
    go_quiet (fail)
    go_wp2_with fail
    go_ret3
    exact RCutPost.bad 3 hE.out (tch_drewN _ _)
  have r2 : ¬ 4000 < (m : Int) := by omega
  have q3 : ¬ n < 6 + m := fun q => hmore (by rw [cutM, if_neg (by omega), hmm, if_neg (by omega), if_pos (by omega)])
  have r3 : 6 + (m : Int) ≤ (n : Int) := by omega
  have r4 : 6 + (m : Int) ≤ (cap : Int) := by omega
  have r5 : (6 : Int) ≤ (cap : Int) := by omega
  have r6 : (2 : Int) ≤ (cap : Int) := by omega
  have r7 : ¬ cap = 6 := by omega
  have r8 : (6 : Int) ≤ 6 + (m : Int) := by omega
  have E5 : IntKind.i64.wrap (6 + (m : Int)) = 6 + (m : Int) := IntWalk.i64_in _ ⟨by omega, by omega⟩
  obtain ⟨what, hwh⟩ : ∃ what, (bs.drop 6).take m = what := ⟨_, rfl⟩
  have hwl : what.length = m := by rw [← hwh, List.length_take, List.length_drop, hn]; omega
  have HWL := Lib.hid hwl
  have hwhat : Hid (∀ W, Tch No w W → SlB W (.slice (some ⟨g, o + 6, none⟩) m (cap - 6)) what) := by
    intro W hW
    have h0 := h.tch0 hW
    rw [hn] at h0
    have h1 := h0.drop 6 (by rw [hn]; omega) (o + 6) (fun _ => rfl)
    have h2 := h1.take m (by rw [List.length_drop, hn]; omega)
    rw [hwh] at h2
    exact h2
  obtain ⟨hd, hhd⟩ : ∃ hd, bs.take 2 = hd := ⟨_, rfl⟩
  have hhead : Hid (∀ W, Tch No w W → SlB W (.slice (some ⟨g, o, none⟩) 2 cap) hd) := fun W hW => by
    rw [← hhd]; have h0 := h.tch0 hW; rw [hn] at h0; exact h0.take 2 (by rw [hn]; omega)
  have hdl : Hid (hd.length = 2) := by rw [Hid, ← hhd, List.length_take]; omega
  have hE0 : Hid (cutM bs = if sizedM what ≠ bs.take 6 then ([], 0, 3) else (what, 6 + m, 0)) := by
    rw [Hid, cutM, if_neg (by rw [hn]; exact h2), hmm, if_neg (by omega), if_neg (by rw [hn]; omega), hwh]
  obtain ⟨s, hs⟩ : ∃ s, crcOn 0 (hd ++ what) = s := ⟨_, rfl⟩
  have HS := Lib.hid hs
  have hsl : s < 4294967296 := by rw [← hs]; exact crcOn_lt (by decide) _
  have Y := Lib.hid yall
  have NM := Lib.hid (show 6 + m ≤ bs.length by omega)
  have HT := Lib.hid hhd
  have HM := Lib.hid hmm
  clear h hn hmore he0 he1 hmm yall hwh hwl hhd hs hln
  go_enter Try.func42, Try.ntmps42
  go_wp2_with fail
  go_quiet (fail)
  go_wp2_with fail
  have D0 : Hid (Tch No w (w.drewN (nq + 1))) := tch_drewN _ _
  go_region_law? ((first
    | (refine step_app _ rfl _ (.tmp 32) 22 rfl 5 i0 Try.underlying22 hi0 hz0 hz1 hz2 (.slice none 0 0) [] rfl (World.ownsRow_nil _ _ _ _) (.slice (some ⟨g, o, none⟩) 2 cap) hd (by simp [Act.eval, Act.put]) (hhead.out _ D0.out).toS (by have := hdl.out; unfold lim; simp; omega) hd (by simp [Hid]) ?_; intro aA nA cA wA hA hnA; have HA := Lib.hid hA; have TA : Hid (Tch No w wA) := D0.out.trans0 (Tch.grown hA.grow (fun q hq _ => by simp [Value.ownBlock] at hq)); clear hA)
    | (refine step_app _ rfl (.tmp 33) (.tmp 37) 22 rfl 5 i0 Try.underlying22 hi0 hz0 hz1 hz2 (.slice aA nA cA) hd (by simp [Act.eval, Act.put]) HA.out.own (.slice (some ⟨g, o + 6, none⟩) m (cap - 6)) what (by simp [Act.eval, Act.put]; omega) (hwhat.out _ TA.out).toS (by have := hdl.out; have := HWL.out; unfold lim; omega) (hd ++ what) (by simp [Hid]) ?_; intro aB nB cB wB hB hnB; have HB := Lib.hid hB; have TB : Hid (Tch No w wB) := TA.out.fresh (Tch.grown hB.grow (F := fun k => (Value.slice aA nA cA).ownBlock = some k) (fun k hk _ => hk)) (fun k hk => by
        rcases HA.out.loc with e | e
        · rw [e] at hk; simp [Value.ownBlock] at hk
        · rw [e] at hk; simp at hk; have := D0.out.size; omega); clear hB)
    | (refine step_rsum rfl (.tmp 38) rfl (.slice aB nB cB) (hd ++ what) (by simp [Act.eval, Act.put]) (SlB.ofRow HB.out.own (by have := hdl.out; have := HWL.out; unfold lim; rw [List.length_append]; omega)) (by have := hdl.out; have := HWL.out; rw [List.length_append]; omega) s HS.out ?_; intro wC tC; have TC := Lib.hid (TB.out.trans0 tC); clear tC)))
  obtain ⟨e2, he2⟩ : ∃ e2, (bs[2]'(by have := NM.out; omega)).toNat = e2 := ⟨_, rfl⟩
  obtain ⟨e3, he3⟩ : ∃ e3, (bs[3]'(by have := NM.out; omega)).toNat = e3 := ⟨_, rfl⟩
  obtain ⟨e4, he4⟩ : ∃ e4, (bs[4]'(by have := NM.out; omega)).toNat = e4 := ⟨_, rfl⟩
  obtain ⟨e5, he5⟩ : ∃ e5, (bs[5]'(by have := NM.out; omega)).toNat = e5 := ⟨_, rfl⟩
  have y2 := Y.out wC TC.out 2 (by have := NM.out; omega)
  have y3 := Y.out wC TC.out 3 (by have := NM.out; omega)
  have y4 := Y.out wC TC.out 4 (by have := NM.out; omega)
  have y5 := Y.out wC TC.out 5 (by have := NM.out; omega)
  have hb2 : e2 < 256 := by rw [← he2]; exact UInt8.toNat_lt _
  have hb3 : e3 < 256 := by rw [← he3]; exact UInt8.toNat_lt _
  have hb4 : e4 < 256 := by rw [← he4]; exact UInt8.toNat_lt _
  have hb5 : e5 < 256 := by rw [← he5]; exact UInt8.toNat_lt _
  rw [he2] at y2; rw [he3] at y3; rw [he4] at y4; rw [he5] at y5
  have u2 : (2 : Int) < (n : Int) := by omega
  have u3 : (3 : Int) < (n : Int) := by omega
  have u4 : (4 : Int) < (n : Int) := by omega
  have u5 : (5 : Int) < (n : Int) := by omega
  obtain ⟨z, hz⟩ : ∃ z, e2 + 256 * e3 + 65536 * e4 + 16777216 * e5 = z := ⟨_, rfl⟩
  have hiff : Hid (sizedM what = bs.take 6 ↔ z = s) := by
    have h := size_eq bs (by have := NM.out; omega) s hsl
    have e : sizedM what = bs.take 2 ++ leBytes 2 s ++ leBytes 2 (s / 65536) := by
      have h2 : sumM what = s := by
        rw [sumM_eq, HWL.out, ← HM.out, leBytes_leNum2 (by rw [HT.out]; exact hdl.out), HT.out]
        exact HS.out
      rw [sizedM, h2, HWL.out, ← HM.out, leBytes_leNum2 (by rw [HT.out]; exact hdl.out)]
    rw [Hid, e, h, he2, he3, he4, he5, hz]
  have X0 := or32 e2 e3 e4 e5 hb2 hb3 hb4 hb5
  rw [hz] at X0
  clear he2 he3 he4 he5 hz
  have W2 : IntKind.u32.wrap (e2 : Int) = (e2 : Int) := IntWalk.u32_in _ ⟨by omega, by omega⟩
  have W3 : IntKind.u32.wrap (e3 : Int) = (e3 : Int) := IntWalk.u32_in _ ⟨by omega, by omega⟩
  have W4 : IntKind.u32.wrap (e4 : Int) = (e4 : Int) := IntWalk.u32_in _ ⟨by omega, by omega⟩
  have W5 : IntKind.u32.wrap (e5 : Int) = (e5 : Int) := IntWalk.u32_in _ ⟨by omega, by omega⟩
  have X3 : IntKind.u32.wrap ((e3 : Int) * 256) = (e3 : Int) * 256 := IntWalk.u32_in _ ⟨by omega, by omega⟩
  have X4 : IntKind.u32.wrap ((e4 : Int) * 65536) = (e4 : Int) * 65536 := IntWalk.u32_in _ ⟨by omega, by omega⟩
  have X5 : IntKind.u32.wrap ((e5 : Int) * 16777216) = (e5 : Int) * 16777216 := IntWalk.u32_in _ ⟨by omega, by omega⟩
  by_cases hzs : z = s
  · have XS : ((z : Int) != (s : Int)) = false := by simp [hzs]
    have hE1 : Hid (cutM bs = (what, 6 + m, 0)) := by rw [Hid, hE0.out, if_neg (fun e => e (hiff.out.2 hzs))]
    clear hzs
    have TW : Hid (∀ W, Tch No wC W → SlB W (.slice (some ⟨g, o + 6, none⟩) m (cap - 6)) what) := fun W hW => hwhat.out W (TC.out.trans0 hW)
    go_wp2_with fail
    go_quiet (fail)
    go_wp2_with (at_builtin; first
    | (refine wpList_app _ rfl _ _ 22 rfl 5 i0 Try.underlying22 hi0 hz0 hz1 hz2 (.slice none 0 0) [] rfl (World.ownsRow_nil _ _ _ _) (.slice (some ⟨g, o + 6, none⟩) m (cap - 6)) what (by simp [Act.eval, Act.put] <;> omega) (TW.out _ (tch_drewN _ _)) (by have := HWL.out; unfold lim; simp <;> omega) what (by simp [Hid]) ?_; intro aD nD cD wD hD hnD; have HDD := Lib.hid hD; have HND := Lib.hid hnD; clear hD))
    go_ret3
    have hwl' := HWL.out
    have hnd := HND.out.out
    refine ⟨.slice aD nD cD, by rw [hE1.out]; rfl, ?_, ?_⟩
    · rw [hE1.out]; show SlB _ _ what; exact SlB.ofRow HDD.out.own (by unfold lim; omega)
    · exact (TC.out.trans0 (tch_drewN _ _)).trans0 (Tch.grown HDD.out.grow (fun q hq _ => by simp [Value.ownBlock] at hq))
  · have XS : ((z : Int) != (s : Int)) = true := by simp; omega
    have hE1 : Hid (cutM bs = ([], 0, 3)) := by rw [Hid, hE0.out, if_pos (fun e => hzs (hiff.out.1 e))]
    clear hzs
    go_wp2_with fail
    go_quiet (fail)
    go_wp2_with fail
    go_ret3
    exact RCutPost.bad 3 hE1.out (TC.out.trans0 (tch_drewN _ _))
set_option maxRecDepth 100000 in
set_option maxHeartbeats 1000000 in
theorem cuts_any (v : Value) (bs : List UInt8) (w : World) (h : SlB w v bs) : Calls Try.prog 20 #[v] w fun e w' => e = .returned (.bool true) ∧ Tch No w w' := by
  obtain ⟨a, m, cap, rfl, hmx⟩ := h.shape'
  have H := Lib.hid h
  obtain ⟨T, n, c, hcu⟩ : ∃ T n c, cutM bs = (T, n, c) := ⟨_, _, _, rfl⟩
  have hcut := Lib.hid (scut_any _ bs w h)
  have HC := Lib.hid hcu
  clear h hcu hmx
  go_enter Try.func20, Try.ntmps20
  go_wp2_with fail
  refine hcut.out.mono ?_
  rintro e w1 ⟨x, rfl, x1, x2, x3⟩
  rw [HC.out] at x1 ⊢
  obtain ⟨ax, mx, cx, rfl, hmx⟩ := x1.shape'
  have X1 := Lib.hid x1; have X3 := Lib.hid x3
  clear x1 x2 x3 hmx hcut
  go_wp2_with fail
  refine (rcut_any _ bs w1 (H.out.tch0 X3.out)).mono ?_
  rintro e w2 ⟨y, rfl, y1, t2⟩
  rw [HC.out] at y1 ⊢
  obtain ⟨ay, my, cy, rfl, hmy⟩ := y1.shape'
  have z1 : (convert 22 9 (.slice ax mx cx)).run Try.prog w2 = .ok (.string ⟨T.toArray⟩) w2 := str_of (X1.out.tch0 t2)
  have z2 : (convert 22 9 (.slice ay my cy)).run Try.prog w2 = .ok (.string ⟨T.toArray⟩) w2 := str_of y1
  have T2 := Lib.hid (X3.out.trans0 t2)
  clear t2 X1 X3 H y1
  go_wp2_with fail
  go_ret
  exact ⟨rfl, T2.out⟩
end Go.Proofs.Ytcjlgdldhcbcjaa
