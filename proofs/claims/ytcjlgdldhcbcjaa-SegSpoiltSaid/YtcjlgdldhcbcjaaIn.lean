import Derived.Test.YtcjlgdldhcbcjaaOut
namespace Go.Proofs.Ytcjlgdldhcbcjaa
open Go.RowKit Go.Maps
set_option linter.unusedVariables false
set_option linter.unusedSimpArgs false

/-- Block ib is a byt.In: what is left reads as bs. -/
structure IsIn (w : World) (ib : Nat) (v : Value) (bs : List UInt8) (bad : Bool) : Prop where
  cell : w.heap[ib]? = some (.cells #[v, .bool bad] 94 (0, 0))
  rest : SlB w v bs
  ne : v.ownBlock ≠ some ib
def InF (ib : Nat) : Nat → Prop := fun k => k = ib

theorem IsIn.cell0 {w : World} {ib : Nat} {v : Value} {bs : List UInt8} {bad : Bool} (h : IsIn w ib v bs bad) : w.cell? ⟨ib, 0, none⟩ = some v := by simpa using blk_cell h.cell 0
theorem IsIn.cell1 {w : World} {ib : Nat} {v : Value} {bs : List UInt8} {bad : Bool} (h : IsIn w ib v bs bad) : w.cell? ⟨ib, 1, none⟩ = some (.bool bad) := by simpa using blk_cell h.cell 1
theorem IsIn.tch {F : Nat → Prop} {w w' : World} {ib : Nat} {v : Value} {bs : List UInt8} {bad : Bool} (h : IsIn w ib v bs bad) (ht : Tch F w w') (h1 : ¬ F ib) (h2 : ∀ k, v.ownBlock = some k → ¬ F k) : IsIn w' ib v bs bad :=
  ⟨blk_tch ht h.cell h1, h.rest.tch ht h2, h.ne⟩

/-- 'bad' is set. -/
theorem IsIn.spoil {w : World} {ib : Nat} {v : Value} {bs : List UInt8} {bad : Bool} (h : IsIn w ib v bs bad) : IsIn (w.setCell ⟨ib, 1, none⟩ (.bool true)) ib v bs true :=
  ⟨by simpa using blk_set h.cell 1 (.bool true), h.rest.tch (F := InF ib) (Tch.setCell _ _ _ (fun _ => rfl)) (fun k hk e => h.ne (by rw [hk, e])), h.ne⟩
theorem IsIn.setRest {w : World} {ib : Nat} {v v2 : Value} {bs bs2 : List UInt8} {bad : Bool} (h : IsIn w ib v bs bad) (h2 : SlB w v2 bs2) (hb : ∀ k, v2.ownBlock = some k → v.ownBlock = some k) : IsIn (w.setCell ⟨ib, 0, none⟩ v2) ib v2 bs2 bad :=
  have hne : v2.ownBlock ≠ some ib := fun e => h.ne (hb _ e)
  ⟨by simpa using blk_set h.cell 0 v2, h2.tch (F := InF ib) (Tch.setCell _ _ _ (fun _ => rfl)) (fun k hk e => hne (by rw [hk, e])), hne⟩

set_option maxRecDepth 100000 in
set_option maxHeartbeats 1000000 in
theorem spoil_any (ib : Nat) (v : Value) (bs : List UInt8) (bad : Bool) (w : World) (hi : IsIn w ib v bs bad) :
    Calls Try.prog 74 #[.pointer (some ⟨ib, 0, none⟩)] w fun e w' => e = .returned (.tuple #[]) ∧ w' = w.setCell ⟨ib, 1, none⟩ (.bool true) := by
  have h1 := hi.cell1
  have h2 := blk_free hi.cell 1
  clear hi
  go_enter Try.func74, Try.ntmps74
  go_wp2
  go_end0
  exact ⟨rfl, rfl⟩

theorem SlB.take {w : World} {a : Option Addr} {m cap : Nat} {bs : List UInt8} (h : SlB w (.slice a m cap) bs) (n : Nat) (hn : n ≤ bs.length) : SlB w (.slice a n cap) (bs.take n) := by
  have hl : (bs.take n).length = n := by simp; omega
  refine ⟨by rw [hl]; exact Nat.le_trans hn h.1, ?_⟩
  rcases h.2 with ⟨hx, hy⟩ | ⟨b, o, cap', h, h1, h2, h3, h4⟩
  · rw [hy] at hn
    have : n = 0 := by simpa using hn
    subst this
    simp only [Value.slice.injEq] at hx
    exact .inl ⟨by rw [hx.1, hx.2.2], by rw [hy]; rfl⟩
  · simp only [Value.slice.injEq] at h
    obtain ⟨rfl, rfl, rfl⟩ := h
    exact .inr ⟨b, o, cap, by rw [hl], by rw [hl]; omega, h2, h3, fun i hi => by rw [h4 i (by omega)]; simp⟩

theorem SlB.drop {w : World} {b o m cap : Nat} {bs : List UInt8} (h : SlB w (.slice (some ⟨b, o, none⟩) m cap) bs) (n : Nat) (hn : n ≤ bs.length) (o' : Nat) (ho : n < bs.length → o' = o + n) : SlB w (.slice (some ⟨b, o', none⟩) (m - n) (cap - n)) (bs.drop n) := by
  have hl : (bs.drop n).length = bs.length - n := by simp
  refine ⟨by rw [hl]; exact Nat.le_trans (Nat.sub_le _ _) h.1, ?_⟩
  rcases h.2 with ⟨hx, rfl⟩ | ⟨b', o1, cap', h, h1, h2, h3, h4⟩
  · exact absurd hx (by intro hx; injection hx with hx; cases hx)
  · simp only [Value.slice.injEq, Option.some.injEq, Addr.mk.injEq, and_true] at h
    obtain ⟨⟨rfl, rfl⟩, rfl, rfl⟩ := h
    refine .inr ⟨b, o', cap - n, by rw [hl], by rw [hl]; omega, by omega, h3, fun i hi => ?_⟩
    have hi' : n + i < bs.length := by simp at hi; omega
    rw [ho (by omega), Nat.add_assoc, h4 (n + i) hi', List.getElem_drop]

/-- What 'next' leaves. -/
def NextOk (w : World) (ib : Nat) (v : Value) (bs : List UInt8) (n : Nat) (e : Ending) (w' : World) : Prop :=
  ∃ r v2, e = .returned r ∧ SlB w' r (bs.take n) ∧ (∀ k, r.ownBlock = some k → v.ownBlock = some k) ∧ IsIn w' ib v2 (bs.drop n) false ∧ (∀ k, v2.ownBlock = some k → v.ownBlock = some k) ∧ Tch (InF ib) w w'
def NextNo (w : World) (ib : Nat) (v : Value) (bs : List UInt8) (e : Ending) (w' : World) : Prop :=
  e = .returned (.slice none 0 0) ∧ IsIn w' ib v bs true ∧ Tch (InF ib) w w'

set_option maxRecDepth 100000 in
set_option maxHeartbeats 1000000 in
theorem next_bad (ib : Nat) (v : Value) (bs : List UInt8) (n : Nat) (w : World) (hi : IsIn w ib v bs true) :
    Calls Try.prog 69 #[.pointer (some ⟨ib, 0, none⟩), .int .i64 n] w (NextNo w ib v bs) := by
  have h1 := hi.cell1
  have h2 := Lib.hid (spoil_any ib v bs true w hi)
  have HI := Lib.hid hi; clear hi
  go_enter Try.func69, Try.ntmps69
  go_wp2_with (go_at_call 74; go_must (refine h2.out.mono ?_); rintro e w1 ⟨rfl, rfl⟩)
  go_ret
  exact ⟨rfl, HI.out.spoil, Tch.setCell _ _ _ (fun _ => rfl)⟩

set_option maxRecDepth 100000 in
set_option maxHeartbeats 1000000 in
theorem next_short (ib : Nat) (v : Value) (bs : List UInt8) (n : Nat) (w : World) (hi : IsIn w ib v bs false) (hn : bs.length < n) :
    Calls Try.prog 69 #[.pointer (some ⟨ib, 0, none⟩), .int .i64 n] w (NextNo w ib v bs) := by
  have h1 := hi.cell1
  have h0 := hi.cell0
  have h2 := Lib.hid (spoil_any ib v bs false w hi)
  have HI := Lib.hid hi; clear hi
  obtain ⟨a, cap, hv, _, _⟩ := HI.out.rest.shape
  have hd : decide ((bs.length : Int) < (n : Int)) = true := by simp; omega
  rw [hv] at h0
  have HV := Lib.hid hv; clear hv
  go_enter Try.func69, Try.ntmps69
  go_wp2_with (go_at_call 74; go_must (refine h2.out.mono ?_); rintro e w1 ⟨rfl, rfl⟩)
  go_ret
  exact ⟨rfl, HI.out.spoil, Tch.setCell _ _ _ (fun _ => rfl)⟩

set_option maxRecDepth 100000 in
set_option maxHeartbeats 1000000 in
theorem next_ok (ib : Nat) (v : Value) (bs : List UInt8) (n : Nat) (w : World) (hi : IsIn w ib v bs false) (hn : n ≤ bs.length) :
    Calls Try.prog 69 #[.pointer (some ⟨ib, 0, none⟩), .int .i64 n] w (NextOk w ib v bs n) := by
  have h1 := hi.cell1
  have h0 := hi.cell0
  have hf := blk_free hi.cell 0
  have hlim := hi.rest.1
  unfold lim at hlim
  have HI := Lib.hid hi; clear hi
  rcases HI.out.rest.2 with ⟨hv, h⟩ | ⟨b, o, cap, hv, hc1, hc2, hc3, hc4⟩
  · rw [h] at hn
    have : n = 0 := by simpa using hn
    subst this
    rw [hv] at h0
    have HT : Hid (NextOk w ib v bs 0 (.returned (.slice none 0 0)) (w.setCell ⟨ib, 0, none⟩ (.slice none 0 0))) := by
      have ht : Tch (InF ib) w (w.setCell ⟨ib, 0, none⟩ (.slice none 0 0)) := Tch.setCell _ _ _ (fun _ => rfl)
      refine ⟨_, _, rfl, by rw [h]; exact SlB.nil _, fun k hk => by simp [Value.ownBlock] at hk, HI.out.setRest (by rw [h]; exact SlB.nil _) (fun k hk => by simp [Value.ownBlock] at hk), fun k hk => by simp [Value.ownBlock] at hk, ht⟩
    clear h hv
    go_enter Try.func69, Try.ntmps69
    go_wp2_with fail
    go_ret
    exact HT.out
  · rw [hv] at h0
    have HV := Lib.hid hv
    have hd : decide ((bs.length : Int) < (n : Int)) = false := by simp; omega
    clear hv hc4
    unfold maxLen at hc2
    go_enter Try.func69, Try.ntmps69
    have HT : Hid (∀ o', (n < bs.length → o' = o + n) → NextOk w ib v bs n (.returned (.slice (some ⟨b, o, none⟩) n cap)) (w.setCell ⟨ib, 0, none⟩ (.slice (some ⟨b, o', none⟩) (bs.length - n) (cap - n)))) := by
      intro o' ho
      have hr := HI.out.rest
      have hvv := HV.out
      have ht : Tch (InF ib) w (w.setCell ⟨ib, 0, none⟩ (.slice (some ⟨b, o', none⟩) (bs.length - n) (cap - n))) := Tch.setCell _ _ _ (fun _ => rfl)
      have hne := HI.out.ne
      rw [hvv] at hr hne
      refine ⟨_, _, rfl, (hr.take n hn).tch ht (fun k hk e => hne (by rw [InF] at e; rw [← e, ← hk]; rfl)), fun k hk => by rw [hvv]; exact hk, HI.out.setRest (hr.drop n hn o' ho) (fun k hk => by rw [hvv]; exact hk), fun k hk => by rw [hvv]; exact hk, ht⟩
    by_cases hcn : cap = n
    · have hcn' : bs.length = n := by omega
      go_wp2_with fail
      go_ret
      have hT := HT.out o (fun h => absurd h (by omega))
      rw [hcn', hcn, Nat.sub_self] at hT
      exact hT
    · have hcn2 : ¬ n = cap := fun e => hcn e.symm
      go_wp2_with fail
      go_ret
      exact HT.out _ (fun _ => rfl)

def leNum : List UInt8 → Nat
  | [] => 0
  | b :: r => b.toNat + 256 * leNum r
theorem leNum_lt : ∀ l : List UInt8, leNum l < 256 ^ l.length
  | [] => by simp [leNum]
  | b :: r => by
    have := leNum_lt r
    have hb := b.toNat_lt
    rw [leNum, List.length_cons, Nat.pow_succ]
    omega
theorem leNum_snoc (l : List UInt8) (c : UInt8) : leNum (l ++ [c]) = leNum l + 256 ^ l.length * c.toNat := by
  induction l with
  | nil => simp [leNum]
  | cons b r ih => rw [List.cons_append, leNum, ih, leNum, List.length_cons, Nat.pow_succ, Nat.mul_add, Nat.add_assoc, ← Nat.mul_assoc, Nat.mul_comm (256 ^ r.length) 256]

/-- A reading call that went well, or not. -/
def RdOk (w : World) (ib : Nat) (v : Value) (bs : List UInt8) (n : Nat) (res : Value) (e : Ending) (w' : World) : Prop :=
  ∃ v2, e = .returned res ∧ IsIn w' ib v2 (bs.drop n) false ∧ (∀ k, v2.ownBlock = some k → v.ownBlock = some k) ∧ Tch (InF ib) w w'
def RdNo (w : World) (ib : Nat) (v : Value) (bs : List UInt8) (res : Value) (e : Ending) (w' : World) : Prop :=
  e = .returned res ∧ IsIn w' ib v bs true ∧ Tch (InF ib) w w'

set_option maxRecDepth 100000 in
set_option maxHeartbeats 1000000 in
theorem iwide_no (ib : Nat) (v : Value) (bs : List UInt8) (bad : Bool) (n : Nat) (w : World) (hi : IsIn w ib v bs bad) (hn : bad = true ∨ bs.length < n) :
    Calls Try.prog 60 #[.pointer (some ⟨ib, 0, none⟩), .int .i64 n] w (RdNo w ib v bs (.int .u64 0)) := by
  have hc : Hid (Calls Try.prog 69 #[.pointer (some ⟨ib, 0, none⟩), .int .i64 n] w (NextNo w ib v bs)) := by
    cases bad
    · exact next_short ib v bs n w hi (by simpa using hn)
    · exact next_bad ib v bs n w hi
  clear hi hn
  go_enter Try.func60, Try.ntmps60
  go_wp2_with (go_at_call 69; go_must (refine hc.out.mono ?_); rintro e w1 ⟨rfl, q1, q2⟩)
  refine wp_loop_rounds 1 ?_
  rw [rounds_succ]
  go_wp2
  go_ret
  exact ⟨rfl, q1, q2⟩

theorem shl_in (c k : Nat) (hc : c < 256) (hk : k < 8) : IntKind.u64.wrap ((c : Int) * 2 ^ (8 * k)) = ((256 ^ k * c : Nat) : Int) := by
  rw [IntKind.wrap_u64]
  have h3 : (2 : Int) ^ (8 * k) = ((256 ^ k : Nat) : Int) := by rw [Int.pow_mul]; norm_cast
  have h4 : 256 ^ k * c < 18446744073709551616 := by
    have : 256 ^ k ≤ 256 ^ 7 := Nat.pow_le_pow_right (by decide) (by omega)
    calc 256 ^ k * c ≤ 256 ^ 7 * 255 := Nat.mul_le_mul this (by omega)
      _ < _ := by decide
  rw [h3, ← Int.natCast_mul, Nat.mul_comm c]
  omega

theorem or_in (n c k : Nat) (hn : n < 256 ^ k) (hc : c < 256) (hk : k < 8) : bits .or .u64 (n : Int) ((256 ^ k * c : Nat) : Int) = ((n + 256 ^ k * c : Nat) : Int) := by
  have h5 : 256 ^ k ≤ 256 ^ 7 := Nat.pow_le_pow_right (by decide) (by omega)
  have h4 : 256 ^ k * c < 18446744073709551616 := by
    calc 256 ^ k * c ≤ 256 ^ 7 * 255 := Nat.mul_le_mul h5 (by omega)
      _ < _ := by decide
  have h6 : (256 : Nat) ^ 7 < 18446744073709551616 := by decide
  rw [u64_or_nat n _ (by omega) h4, Nat.or_comm]
  congr 1
  have e : (256 : Nat) ^ k = 2 ^ (8 * k) := by rw [Nat.pow_mul]
  rw [e] at hn ⊢
  rw [nat_join (8 * k) (2 ^ (8 * k) * c) n (by simp) hn, Nat.add_comm]

set_option maxRecDepth 100000 in
set_option maxHeartbeats 1000000 in
theorem iwide_ok (ib : Nat) (v : Value) (bs : List UInt8) (n : Nat) (w : World) (hi : IsIn w ib v bs false) (hn : n ≤ bs.length) (h8 : n ≤ 8) :
    Calls Try.prog 60 #[.pointer (some ⟨ib, 0, none⟩), .int .i64 n] w (RdOk w ib v bs n (.int .u64 (leNum (bs.take n) : Nat))) := by
  have hc := Lib.hid (next_ok ib v bs n w hi hn)
  have hl : Hid ((bs.take n).length = n) := by rw [Hid]; simp; omega
  obtain ⟨xs, hxs⟩ : ∃ xs, bs.take n = xs := ⟨_, rfl⟩
  rw [hxs] at hl ⊢
  have HX := Lib.hid hxs
  clear hi hxs
  go_enter Try.func60, Try.ntmps60
  go_wp2_with (go_at_call 69; go_must (refine hc.out.mono ?_); rintro e w1 ⟨r, v2, rfl, q1, q2, q3, q4, q5⟩; have Q1 := Lib.hid q1; clear q1; obtain ⟨a, ml, cap, hr, hml⟩ := Q1.out.shape'; subst hr)
  have hml2 : Hid (ml = xs.length) := by rw [Hid, hml.out, HX.out]
  have Q2 : Hid (SlB w1 (.slice a ml cap) xs) := by rw [Hid, ← HX.out]; exact Q1.out
  clear hml Q1
  have hml' : ml ≤ 8 := by have := hml2.out; have := hl.out; omega
  go_loop [5, 12] (fun s i => ∃ (k m : Nat), k ≤ ml ∧ i = .int .i64 k ∧ s = .int .u64 m ∧ Hid (m = leNum (xs.take k))) (fun _ i => ml - (intOf i).toNat)
  case atStart => exact ⟨0, 0, by omega, rfl, rfl, by simp [Hid, leNum]⟩
  case round =>
    obtain ⟨k, m, hk, rfl, rfl, hm⟩ := hrel
    by_cases hlt : k < ml
    · rcases Q2.out.2 with ⟨_, h⟩ | ⟨b, o, cap', h, c1, c2, c3, c4⟩
      · have := hml2.out; rw [h] at this; simp at this; omega
      · have hxk : k < xs.length := by have := hml2.out; omega
        simp only [Value.slice.injEq] at h
        obtain ⟨rfl, _, rfl⟩ := h
        have hcell := c4 k hxk
        obtain ⟨ch, hch⟩ : ∃ ch, xs[k] = ch := ⟨_, rfl⟩
        rw [hch] at hcell
        have hcl := ch.toNat_lt
        have hsn : Hid (leNum (xs.take (k + 1)) = m + 256 ^ k * ch.toNat) := by
          rw [Hid, List.take_succ_eq_append_getElem hxk, leNum_snoc, hch, ← hm.out, List.length_take, Nat.min_eq_left (by omega)]
        have hmlt : m < 256 ^ k := by
          have := leNum_lt (xs.take k)
          rw [hm.out]; rw [List.length_take, Nat.min_eq_left (by omega)] at this; exact this
        obtain ⟨cn, hcn⟩ : ∃ cn, ch.toNat = cn := ⟨_, rfl⟩
        rw [hcn] at hcell hsn hcl
        have HS := Lib.hid (shl_in cn k hcl (by omega))
        have HO := Lib.hid (or_in m cn k hmlt hcl (by omega))
        clear c4 hch hcn hmlt c1 c2
        go_wp2
        exact ⟨⟨k + 1, m + 256 ^ k * cn, by omega, by go_num, by rw [HS.out, HO.out], hsn.out.symm⟩, by simp [intOf]; omega⟩
    · have hr : Hid (leNum xs = m) := by rw [Hid, hm.out, List.take_of_length_le]; have := hml2.out; omega
      go_wp2
      go_ret
      exact ⟨v2, ret_i (by rw [hr.out]), q3, q4, q5⟩

set_option maxRecDepth 100000 in
set_option maxHeartbeats 1000000 in
theorem ismall_no (ib : Nat) (v : Value) (bs : List UInt8) (bad : Bool) (w : World) (hi : IsIn w ib v bs bad) (hn : bad = true ∨ bs.length < 2) :
    Calls Try.prog 44 #[.pointer (some ⟨ib, 0, none⟩)] w (RdNo w ib v bs (.int .i64 0)) := by
  have hc := Lib.hid (iwide_no ib v bs bad 2 w hi hn)
  clear hi hn
  go_enter Try.func44, Try.ntmps44
  go_wp2_with (go_at_call 60; go_must (refine hc.out.mono ?_); rintro e w1 ⟨rfl, q1, q2⟩)
  go_ret
  exact ⟨rfl, q1, q2⟩
set_option maxRecDepth 100000 in
set_option maxHeartbeats 1000000 in
theorem ismall_ok (ib : Nat) (v : Value) (bs : List UInt8) (w : World) (hi : IsIn w ib v bs false) (hn : 2 ≤ bs.length) :
    Calls Try.prog 44 #[.pointer (some ⟨ib, 0, none⟩)] w (RdOk w ib v bs 2 (.int .i64 (leNum (bs.take 2) : Nat))) := by
  have hc := Lib.hid (iwide_ok ib v bs 2 w hi hn (by omega))
  have hb : leNum (bs.take 2) < 65536 := by
    have := leNum_lt (bs.take 2)
    rw [List.length_take, Nat.min_eq_left hn] at this; exact this
  obtain ⟨m, hm⟩ : ∃ m, leNum (bs.take 2) = m := ⟨_, rfl⟩
  rw [hm] at hc hb ⊢
  clear hi hm
  go_enter Try.func44, Try.ntmps44
  go_wp2_with (go_at_call 60; go_must (refine hc.out.mono ?_); rintro e w1 ⟨v2, rfl, q1, q2, q3⟩)
  go_ret
  exact ⟨v2, rfl, q1, q2, q3⟩
set_option maxRecDepth 100000 in
set_option maxHeartbeats 1000000 in
theorem ilong_ok (ib : Nat) (v : Value) (bs : List UInt8) (w : World) (hi : IsIn w ib v bs false) (hn : 8 ≤ bs.length) :
    Calls Try.prog 89 #[.pointer (some ⟨ib, 0, none⟩)] w (RdOk w ib v bs 8 (.int .i64 (wrap64 (leNum (bs.take 8) : Nat)))) := by
  have hc := Lib.hid (iwide_ok ib v bs 8 w hi hn (by omega))
  obtain ⟨m, hm⟩ : ∃ m, leNum (bs.take 8) = m := ⟨_, rfl⟩
  rw [hm] at hc ⊢
  clear hi hm
  go_enter Try.func89, Try.ntmps89
  go_wp2_with (go_at_call 60; go_must (refine hc.out.mono ?_); rintro e w1 ⟨v2, rfl, q1, q2, q3⟩)
  go_ret
  exact ⟨v2, rfl, q1, q2, q3⟩
set_option maxRecDepth 100000 in
set_option maxHeartbeats 1000000 in
theorem ilong_no (ib : Nat) (v : Value) (bs : List UInt8) (bad : Bool) (w : World) (hi : IsIn w ib v bs bad) (hn : bad = true ∨ bs.length < 8) :
    Calls Try.prog 89 #[.pointer (some ⟨ib, 0, none⟩)] w (RdNo w ib v bs (.int .i64 0)) := by
  have hc := Lib.hid (iwide_no ib v bs bad 8 w hi hn)
  clear hi hn
  go_enter Try.func89, Try.ntmps89
  go_wp2_with (go_at_call 60; go_must (refine hc.out.mono ?_); rintro e w1 ⟨rfl, q1, q2⟩)
  go_ret
  exact ⟨rfl, q1, q2⟩
set_option maxRecDepth 100000 in
set_option maxHeartbeats 1000000 in
theorem ibad_any (ib : Nat) (v : Value) (bs : List UInt8) (bad : Bool) (w : World) (hi : IsIn w ib v bs bad) :
    Calls Try.prog 94 #[.pointer (some ⟨ib, 0, none⟩)] w fun e w' => e = .returned (.bool bad) ∧ w = w' := by
  have h1 := hi.cell1
  clear hi
  go_enter Try.func94, Try.ntmps94
  go_wp2
  go_ret
  exact ⟨rfl, rfl⟩
set_option maxRecDepth 100000 in
set_option maxHeartbeats 1000000 in
theorem ileft_any (ib : Nat) (v : Value) (bs : List UInt8) (bad : Bool) (w : World) (hi : IsIn w ib v bs bad) :
    Calls Try.prog 93 #[.pointer (some ⟨ib, 0, none⟩)] w fun e w' => e = .returned (.int .i64 (if bad then 0 else bs.length : Nat)) ∧ w = w' := by
  have h0 := hi.cell0
  have hc := Lib.hid (ibad_any ib v bs bad w hi)
  obtain ⟨a, ml, cap, hr, hml⟩ := hi.rest.shape'
  rw [hr] at h0
  rw [← hml.out]
  clear hi hr
  cases bad
  · go_enter Try.func93, Try.ntmps93
    go_wp2_with (go_at_call 94; go_must (refine hc.out.mono ?_); rintro e w1 ⟨rfl, rfl⟩)
    go_ret
    exact ⟨rfl, rfl⟩
  · go_enter Try.func93, Try.ntmps93
    go_wp2_with (go_at_call 94; go_must (refine hc.out.mono ?_); rintro e w1 ⟨rfl, rfl⟩)
    go_ret
    exact ⟨rfl, rfl⟩
set_option maxRecDepth 100000 in
set_option maxHeartbeats 1000000 in
theorem iend_any (ib : Nat) (v : Value) (bs : List UInt8) (bad : Bool) (w : World) (hi : IsIn w ib v bs bad) :
    Calls Try.prog 92 #[.pointer (some ⟨ib, 0, none⟩)] w fun e w' => e = .returned (.bool (!bad && bs.isEmpty)) ∧ w = w' := by
  have h0 := hi.cell0
  have hc := Lib.hid (ibad_any ib v bs bad w hi)
  obtain ⟨a, ml, cap, hr, hml⟩ := hi.rest.shape'
  rw [hr] at h0
  have he : Hid (bs.isEmpty = ((ml : Int) == 0)) := by
    rw [Hid, hml.out]; cases bs
    · rfl
    · simp; omega
  rw [he.out]
  clear hi hr
  cases bad
  · cases hz : ((ml : Int) == 0)
    all_goals
      go_enter Try.func92, Try.ntmps92
      go_wp2_with (go_at_call 94; go_must (refine hc.out.mono ?_); rintro e w1 ⟨rfl, rfl⟩)
      go_ret
      exact ⟨rfl, rfl⟩
  · go_enter Try.func92, Try.ntmps92
    go_wp2_with (go_at_call 94; go_must (refine hc.out.mono ?_); rintro e w1 ⟨rfl, rfl⟩)
    go_ret
    exact ⟨rfl, rfl⟩

set_option maxRecDepth 100000 in
set_option maxHeartbeats 1000000 in
theorem itext_ok (ib : Nat) (v : Value) (bs : List UInt8) (w : World) (hi : IsIn w ib v bs false) (hn : 2 ≤ bs.length) (m : Nat) (hm : leNum (bs.take 2) = m) (hl : m + 2 ≤ bs.length) :
    Calls Try.prog 90 #[.pointer (some ⟨ib, 0, none⟩)] w (RdOk w ib v bs (2 + m) (.string ⟨((bs.drop 2).take m).toArray⟩)) := by
  have hc := Lib.hid (ismall_ok ib v bs w hi hn)
  rw [hm] at hc
  clear hm hi
  obtain ⟨ds, hd⟩ : ∃ ds, Hid (ds = bs.drop 2) := ⟨_, rfl⟩
  have hdl : m ≤ ds.length := by rw [hd.out]; simp; omega
  have he : Hid (bs.drop (2 + m) = ds.drop m) := by rw [Hid, hd.out, List.drop_drop]
  rw [← hd.out]
  go_enter Try.func90, Try.ntmps90
  go_wp2_with (go_at_call 44; go_must (refine hc.out.mono ?_); rintro e w1 ⟨v2, rfl, q1, q2, q3⟩; rw [← hd.out] at q1)
  refine (next_ok ib v2 ds m w1 q1 hdl).mono ?_
  rintro e w2 ⟨r, v3, rfl, q4, q5, q6, q7, q8⟩
  have hs := Lib.hid (q4.str (P := Try.prog) Try.underlying22 Try.underlying5 Try.underlying9)
  go_wp2_with fail
  rw [hs.out]
  go_wp2
  go_ret
  refine ⟨v3, rfl, ?_, fun k hk => q2 k (q7 k hk), q3.trans q8 (fun _ _ h => h)⟩
  rw [he.out]; exact q6
set_option maxRecDepth 100000 in
set_option maxHeartbeats 1000000 in
theorem itruth_ok (ib : Nat) (v : Value) (c : UInt8) (bs : List UInt8) (w : World) (hi : IsIn w ib v (c :: bs) false) (hc1 : c.toNat ≤ 1) :
    Calls Try.prog 91 #[.pointer (some ⟨ib, 0, none⟩)] w (RdOk w ib v (c :: bs) 1 (.bool (c == 1))) := by
  have hc := Lib.hid (iwide_ok ib v (c :: bs) 1 w hi (by simp) (by omega))
  have hm : leNum ((c :: bs).take 1) = c.toNat := by simp [leNum]
  rw [hm] at hc
  clear hi hm
  have h2 : c.toNat = 0 ∨ c.toNat = 1 := by omega
  have h3 : (c == 1) = decide (c.toNat = 1) := by
    rw [Bool.eq_iff_iff]; simp [← UInt8.toNat_inj]
  rw [h3]
  rcases h2 with h2 | h2
  all_goals
    rw [h2] at hc ⊢
    clear hc1 h2 h3
    go_enter Try.func91, Try.ntmps91
    go_wp2_with (go_at_call 60; go_must (refine hc.out.mono ?_); rintro e w1 ⟨v2, rfl, q1, q2, q3⟩)
    go_ret
    exact ⟨v2, rfl, q1, q2, q3⟩
end Go.Proofs.Ytcjlgdldhcbcjaa
