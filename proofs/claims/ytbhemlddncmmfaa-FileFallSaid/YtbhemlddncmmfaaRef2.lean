/- The reference's disk: what appends leave in a region that draws its order; may, NewDisk, gone. No condition. -/
import Derived.Test.YtbhemlddncmmfaaRef1
import Derived.Deep.RegionHeld3
import Derived.WalkLawsBesides
namespace Go.Proofs.Ytbhemlddncmmfaa
open Go.RowKit Go.Maps
set_option linter.unusedVariables false
set_option linter.unusedSimpArgs false

set_option maxRecDepth 100000 in
set_option maxHeartbeats 1000000 in
theorem may_any (s : ByteArray) (w : World) (hlen : s.data.toList.length ≤ lim) :
    Calls Try.prog 42 #[.string s] w fun e w' => e = .returned (.bool (goodB s.data.toList)) ∧ w = w' := by
  have hsz : s.size ≤ lim := by simpa using hlen
  have hsl : s.data.toList.length = s.size := rfl
  unfold lim at hsz
  have HL := Lib.hid hsl; clear hsl hlen
  go_enter Try.func42, Try.ntmps42
  go_wp2_with fail
  go_loop [3] (fun i => ∃ k : Nat, k ≤ s.size ∧ i = .int .i64 k ∧ Hid ((s.data.toList.take k).all chOk = true)) (fun i => s.size - (intOf i).toNat)
  case atStart => exact ⟨0, Nat.zero_le _, rfl, by simp [Hid]⟩
  case round =>
    obtain ⟨k, hk, rfl, HA⟩ := hrel
    by_cases hlt : k < s.size
    · have hkl : k < s.data.toList.length := by rw [HL.out]; exact hlt
      have hch : Hid (s.data.toList[k] = s[k]) := rfl
      have h5 : (s[k].toNat : Int) < 48 ∨ (48 ≤ (s[k].toNat : Int) ∧ (s[k].toNat : Int) ≤ 57) ∨ (57 < (s[k].toNat : Int) ∧ (s[k].toNat : Int) < 97) ∨ (97 ≤ (s[k].toNat : Int) ∧ (s[k].toNat : Int) ≤ 122) ∨ 122 < (s[k].toNat : Int) := by omega
      rcases h5 with h | ⟨h, h'⟩ | ⟨h, h'⟩ | ⟨h, h'⟩ | h
      · have H : Hid (chOk s[k] = false) := by simp [Hid, chOk]; omega
        have d1 : decide ((s[k].toNat : Int) < 97) = true := by simp; omega
        have d2 : decide ((s[k].toNat : Int) < 48) = true := by simp; omega
        go_wp2
        go_ret
        exact ⟨ret_b (goodB_bad hkl hch.out H.out).symm, rfl⟩
      · have H : Hid (chOk s[k] = true) := by simp [Hid, chOk]; omega
        have d1 : decide ((s[k].toNat : Int) < 97) = true := by simp; omega
        have d2 : decide ((s[k].toNat : Int) < 48) = false := by simp; omega
        have d3 : decide (57 < (s[k].toNat : Int)) = false := by simp; omega
        go_wp2
        exact ⟨⟨k + 1, by omega, by go_num, all_snoc hkl hch.out H.out HA.out⟩, by simp [intOf]; omega⟩
      · have H : Hid (chOk s[k] = false) := by simp [Hid, chOk]; omega
        have d1 : decide ((s[k].toNat : Int) < 97) = true := by simp; omega
        have d2 : decide ((s[k].toNat : Int) < 48) = false := by simp; omega
        have d3 : decide (57 < (s[k].toNat : Int)) = true := by simp; omega
        go_wp2
        go_ret
        exact ⟨ret_b (goodB_bad hkl hch.out H.out).symm, rfl⟩
      · have H : Hid (chOk s[k] = true) := by simp [Hid, chOk]; omega
        have d1 : decide ((s[k].toNat : Int) < 97) = false := by simp; omega
        have d2 : decide (122 < (s[k].toNat : Int)) = false := by simp; omega
        go_wp2
        exact ⟨⟨k + 1, by omega, by go_num, all_snoc hkl hch.out H.out HA.out⟩, by simp [intOf]; omega⟩
      · have H : Hid (chOk s[k] = false) := by simp [Hid, chOk]; omega
        have d1 : decide ((s[k].toNat : Int) < 97) = false := by simp; omega
        have d2 : decide (122 < (s[k].toNat : Int)) = true := by simp; omega
        have d3 : decide ((s[k].toNat : Int) < 48) = false := by simp; omega
        have d4 : decide (57 < (s[k].toNat : Int)) = true := by simp; omega
        go_wp2
        go_ret
        exact ⟨ret_b (goodB_bad hkl hch.out H.out).symm, rfl⟩
    · have hE : Hid (goodB s.data.toList = (decide (1 ≤ s.size) && decide (s.size ≤ 12))) := by
        have hk' : k = s.data.toList.length := by rw [HL.out]; omega
        have := HA.out
        rw [hk', List.take_length] at this
        rw [Hid, goodB_end this, HL.out]
        congr 1
        cases hc : s.data.toList with
        | nil => rw [hc] at HL; have := HL.out; simp at this; simp [← this]
        | cons x r => rw [hc] at HL; have := HL.out; simp at this; simp; omega
      by_cases hem : 1 ≤ s.size
      · by_cases h12 : s.size ≤ 12
        · have hr : Hid (goodB s.data.toList = true) := by rw [Hid, hE.out]; simp; omega
          go_wp2
          go_ret
          exact ⟨ret_b (by rw [hr.out]; simp; omega), rfl⟩
        · have hr : Hid (goodB s.data.toList = false) := by rw [Hid, hE.out]; simp; omega
          go_wp2
          go_ret
          exact ⟨ret_b (by rw [hr.out]; simp; omega), rfl⟩
      · have hr : Hid (goodB s.data.toList = false) := by rw [Hid, hE.out]; simp; omega
        go_wp2
        go_ret
        exact ⟨ret_b (by rw [hr.out]), rfl⟩

/-- What NewDisk gives. -/
def RefNew (room : Nat) (w : World) (e : Ending) (w' : World) : Prop :=
  ∃ rb, e = .returned (.pointer (some ⟨rb, 0, none⟩)) ∧ IsRef w' rb room (.slice none 0 0) [] ∧ w.heap.size ≤ rb ∧ Tch No w w'
set_option maxRecDepth 100000 in
set_option maxHeartbeats 1000000 in
theorem newdisk_any (n : Int) (w : World) : Calls Try.prog 16 #[.int .i64 n] w (RefNew (roomOf n) w) := by
  have hfin : Hid (∀ r : Nat, r ≤ 1048576 → RefNew r w (.returned (.pointer (some ⟨w.heap.size, 0, none⟩))) (w.alloc (.cells #[.int .i64 r, .slice none 0 0] 61))) := by
    intro r hr
    refine ⟨_, rfl, ⟨blk_new w _, World.ownsRow_nil _ _ _ _, ?_, ?_, ?_, ?_, ⟨?_, hr⟩, ?_, ?_⟩, Nat.le_refl _, Tch.alloc _ _⟩
    · intro x hx; simp at hx
    · simp [Value.ownBlock]
    · intro x hx; simp at hx
    · intro x hx; simp at hx
    · simp [mUsed]
    · simp
    · intro x hx; simp at hx
  have hr : Hid (max 0 (min n 1048576) = ((roomOf n : Nat) : Int)) := by rw [Hid, roomOf]; omega
  have hle : roomOf n ≤ 1048576 := by unfold roomOf; omega
  go_enter Try.func16, Try.ntmps16
  go_wp2
  rw [hr.out]
  go_ret
  exact hfin.out _ hle

/-- The cells of some files, wherever they lie. -/
def SrcF (w : World) (u : Value) (m : Nat) (news : List Value) : Prop :=
  news.length = m * 4 ∧ (∀ x ∈ news, x.oneCell' = true) ∧ ((u = .slice none 0 0 ∧ m = 0) ∨ ∃ ad c, u = .slice (some ad) m c ∧ ∀ j x, news[j]? = some x → w.cell? (ad.add j) = some x)
/-- What an append of files leaves. -/
structure AppF (w : World) (v : Value) (n : Nat) (ys : List Value) (v' : Value) (w' : World) : Prop where
  own : w'.ownsRow 0 63 4 v' n ys
  grow : w.grownBy w' v.ownBlock
  loc : v'.ownBlock = v.ownBlock ∨ v'.ownBlock = some w.heap.size
theorem infoF : (Try.prog.info? 63).map (fun i => (i.zero, i.size, i.bytes)) = some (some (.agg #[.string ⟨#[]⟩, .slice none 0 0, .int .i64 0, .bool false]), 4, 56) := by kernel_rfl
theorem run_appF (w : World) (ty : TypeId) (v : Value) (n : Nat) (xs : List Value) (hown : w.ownsRow 0 63 4 v n xs) (u : Value) (m : Nat) (news : List Value) (hu : SrcF w u m news) (hlen : n + m ≤ 2000000) :
    ∃ v' w', (Builtin.append_ #[59, 59] ty #[v, u]).run Try.prog w = .ok v' w' ∧ AppF w v (n + m) (xs ++ news) v' w' := by
  obtain ⟨i0, hi0, hz0, hz1, hz2⟩ := info_parts infoF
  obtain ⟨h1, h2, h3⟩ := hu
  rcases h3 with ⟨rfl, rfl⟩ | ⟨ad, c, rfl, hc⟩
  · have : news = [] := List.eq_nil_of_length_eq_zero (by simpa using h1)
    subst this
    have hr := run_append_owned_none (P := Try.prog) w 0 59 ty 63 i0 4 Try.underlying59 hi0 v n xs hown
    exact ⟨v, w, hr, by simpa using hown, World.grownBy.refl _ _, .inl rfl⟩
  · obtain ⟨v', w', hr, q1, q2, q3, q4⟩ := run_append_own_at (P := Try.prog) w 0 59 ty 63 i0 _ 4 56 Try.underlying59 hi0 hz0 hz1 hz2 (by rfl) (by omega) v n xs hown ad m c news h1 hc h2 (by simp only [maxLen]; omega) (by omega) (Nat.zero_le _)
    exact ⟨v', w', hr, q1, q2, q4⟩
/-- .. as a step of a region that draws its order. -/
theorem step_appF {ops : Array Oper} {o : Oper} {a : Act} {w : World} {K : Act → World → Prop} {Q : Exit → Act → World → Prop} {E : Prop} (hgd : o.guard = none) (sl x : Operand)
    (ho : o.op = .call { callee := .builtin .append, args := #[sl, x], argTypes := #[59, 59] })
    (v : Value) (n : Nat) (xs : List Value) (hs : a.eval sl = v) (hown : w.ownsRow 0 63 4 v n xs) (u : Value) (m : Nat) (news : List Value) (hx : a.eval x = u) (hu : SrcF w u m news) (hlen : n + m ≤ 2000000)
    (h : ∀ a' n' cap' w', AppF w v (n + m) (xs ++ news) (.slice a' n' cap') w' → K (a.put o.dst (.slice a' n' cap')) w') :
    if Region.wanted o (yielded ops a.tmps) = true then Oper.wp Try.prog o a w K Q else E := by
  have hw : Region.wanted o (yielded ops a.tmps) = true := by simp [Region.wanted, hgd]
  rw [if_pos hw]
  obtain ⟨v', w', hr, hA⟩ := run_appF w o.type v n xs hown u m news hu hlen
  obtain ⟨a', cap', rfl, _, _⟩ := own_shape hA.own
  unfold Oper.wp execOp
  simp only [ho, resolve, invoke, builtin, Sem.run_bind, Sem.run_pure, Result.andThen_ok, List.map_toArray, List.map_cons, List.map_nil, hs, hx, hr]
  exact h _ _ _ _ hA
/-- .. and outside one. -/
theorem wpList_appF {ops : Array Oper} {rest : List Oper} {o : Oper} {a : Act} {w : World} {Q : Exit → Act → World → Prop} (hgd : o.guard = none) (sl x : Operand)
    (ho : o.op = .call { callee := .builtin .append, args := #[sl, x], argTypes := #[59, 59] })
    (v : Value) (n : Nat) (xs : List Value) (hs : a.eval sl = v) (hown : w.ownsRow 0 63 4 v n xs) (u : Value) (m : Nat) (news : List Value) (hx : a.eval x = u) (hu : SrcF w u m news) (hlen : n + m ≤ 2000000)
    (h : ∀ a' n' cap' w', AppF w v (n + m) (xs ++ news) (.slice a' n' cap') w' → wpList Try.prog ops Q rest (a.put o.dst (.slice a' n' cap')) w') : wpList Try.prog ops Q (o :: rest) a w := by
  refine wpList_plain hgd fun K hK => ?_
  obtain ⟨v', w', hr, hA⟩ := run_appF w o.type v n xs hown u m news hu hlen
  obtain ⟨a', cap', rfl, _, _⟩ := own_shape hA.own
  unfold Oper.wp execOp
  simp only [ho, resolve, invoke, builtin, Sem.run_bind, Sem.run_pure, Result.andThen_ok, List.map_toArray, List.map_cons, List.map_nil, hs, hx, hr]
  exact hK _ _ (h _ _ _ _ hA)
/-- 'append(bytes, bytes...)' as a step of a region that draws its order. -/
theorem step_appS {P : Program} {ops : Array Oper} {o : Oper} {a : Act} {w : World} {K : Act → World → Prop} {Q : Exit → Act → World → Prop} {E : Prop} (hgd : o.guard = none) (s x : Operand) (t : TypeId)
    (ho : o.op = .call { callee := .builtin .append, args := #[s, x], argTypes := #[t, t] })
    (e : TypeId) (i : TypeInfo) (ht : P.underlying t = some (.slice e)) (hi : P.info? e = some i) (hz : i.zero = some (.int .u8 0))
    (hsize : i.size = 1) (hby : i.bytes = 1)
    (v : Value) (xs : List UInt8) (hs : a.eval s = v) (hown : w.ownsRow 0 e 1 v xs.length (u8s xs))
    (u : Value) (bs : List UInt8) (hx : a.eval x = u) (hu : SlS w u bs)
    (hlen : xs.length + bs.length ≤ lim) (ys : List UInt8) (hys : Hid (ys = xs ++ bs))
    (h : ∀ a' n' cap' w', AppPost e w v ys (.slice a' n' cap') w' → Hid (n' = ys.length) → K (a.put o.dst (.slice a' n' cap')) w') :
    if Region.wanted o (yielded ops a.tmps) = true then Oper.wp P o a w K Q else E := by
  have hw : Region.wanted o (yielded ops a.tmps) = true := by simp [Region.wanted, hgd]
  rw [if_pos hw]
  have hys' := hys.out
  subst hys'
  rcases hu.2 with ⟨rfl, rfl⟩ | ⟨ad, cap, rfl, h4⟩
  · have hr := run_append_owned_none (P := P) w 0 t o.type e i 1 ht hi v xs.length (u8s xs) hown
    obtain ⟨a', cap', rfl, _, _⟩ := own_shape hown
    unfold Oper.wp
    simp [execOp, ho, resolve, invoke, builtin, hs, hx, hr, Result.andThen]
    refine h a' xs.length cap' w ⟨by simpa using hown, World.grownBy.refl _ _, fun hn _ => ?_, .inl rfl⟩ (by simp [Hid])
    have : xs = [] := by simpa using hn
    subst this
    rcases hown.2 with ⟨h, _⟩ | ⟨g, c, cur, h, _⟩
    · simpa using h
    · simp_all
  · obtain ⟨v', w', hr, h2, h3, hn, hloc⟩ := run_append_own_at (P := P) w 0 t o.type e i (.int .u8 0) 1 1 ht hi hz hsize hby rfl (by decide) v xs.length (u8s xs) hown ad bs.length cap (u8s bs) (by simp [u8s]) h4 (u8s_one bs) (by unfold lim at hlen; simp only [maxLen]; omega) (by unfold lim at hlen; omega) (Nat.zero_le _)
    have e1 : xs.length + bs.length = (xs ++ bs).length := by simp
    rw [e1, ← u8s_append] at h2
    obtain ⟨a', cap', rfl, _, _⟩ := own_shape h2
    unfold Oper.wp execOp
    simp only [ho, resolve, invoke, builtin, Sem.run_bind, Sem.run_pure, Result.andThen_ok, List.map_toArray, List.map_cons, List.map_nil, hs, hx, hr]
    refine h a' _ cap' w' ⟨h2, h3, fun q1 q2 => hn.2 ⟨q2, ?_⟩, hloc⟩ rfl
    have := congrArg List.length q1
    simp at this
    simp [this.2]
end Go.Proofs.Ytbhemlddncmmfaa
