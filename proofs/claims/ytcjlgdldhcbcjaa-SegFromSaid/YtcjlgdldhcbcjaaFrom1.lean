/- A log from a segment on, and the row of where each text stands. No condition. -/
import Derived.Test.YtcjlgdldhcbcjaaFrom0
import Derived.Test.YtcjlgdldhcbcjaaTorn2
namespace Go.Proofs.Ytcjlgdldhcbcjaa
open Go.RowKit Go.Maps
set_option linter.unusedVariables false
set_option linter.unusedSimpArgs false

set_option maxRecDepth 100000 in
set_option maxHeartbeats 1000000 in
theorem at_cell {w : World} {lb last : Nat} (c1 : w.cell? ⟨lb, 1, none⟩ = some (.int .i64 (last : Int))) : Calls Try.prog 28 #[.pointer (some ⟨lb, 0, none⟩)] w fun e w' => e = .returned (.int .i64 (last : Int)) ∧ w = w' := by
  go_enter Try.func28, Try.ntmps28
  go_wp2_with fail
  go_ret
  exact ⟨rfl, rfl⟩
section
variable {K : Nat → Prop} {w : World} {db mb room lb last : Nat} {M : List FE} {A : List (List UInt8)}
/-- A second log over the disk; the first one keeps its number. -/
theorem open_beside (h : LSt w lb db mb room M last A K) (f : Nat) (hf : f ≤ 999) (hcnt : M.length ≤ 990000) {q : ARes} (hq : openM room M f = q) (he : q.err = 0) :
    Calls Try.prog 24 #[.pointer (some ⟨db, 0, none⟩), .int .i64 f] w fun e w' => ∃ lm, e = .returned (.tuple #[.pointer (some ⟨lm, 0, none⟩), .int .i64 0]) ∧ LSt w' lm db mb room q.M q.last q.A K ∧ KT K w w' ∧ w'.cell? ⟨lb, 1, none⟩ = some (.int .i64 (last : Int)) := by
  obtain ⟨v, R, h1, h2, h3, h4⟩ := h
  refine (open_ok h3 f hf hcnt hq he).mono ?_
  rintro e w' ⟨lm, rfl, q1, q2⟩
  exact ⟨lm, rfl, q1.less (fun k hk => .inl hk), q2.mono (fun k _ hk => .inl hk), q2.cell h2.cell1 (.inr (.inl rfl))⟩
theorem dk_names (h : DK w db mb room M K) (hcnt : M.length ≤ 999999) :
    Calls Try.prog 37 #[.pointer (some ⟨db, 0, none⟩)] w fun e w' => ∃ a c, e = .returned (.slice a M.length c) ∧ Tch No w w' := by
  obtain ⟨L, rfl, h2, h3⟩ := h
  refine (names_any db mb room L w h2 (by simp at hcnt; omega)).mono ?_
  rintro e w' ⟨v, rfl, q1, q2⟩
  unfold StrRow at q1
  have e1 : (sortN (names (L.map (·.f)))).length = (L.map (·.f)).length := by simp [sortN, names]
  rw [e1] at q1
  obtain ⟨a, c, rfl, _, _⟩ := own_shape q1
  exact ⟨a, c, rfl, q2⟩
end
structure FromS (w1 w : World) (lb db mb : Nat) (M : List FE) (last : Nat) (S : Nat → List (List UInt8)) (T : List Nat) (va : Value) (j i : Nat) : Prop where
  log : LSt w lb db mb 1048576 M last (flatS S (last + 1)) (fun k => K0 w1 k ∨ va.ownBlock = some k)
  ats : w.ownsRow 0 3 1 va T.length (ints T)
  tells : Tells S last T
  segs : Segs M last S
  cnt : T.length = j ∧ last ≤ i ∧ M.length ≤ j
  used : mUsed M ≤ 8 * j ∧ ∀ n, (framed (S n)).length ≤ 8 * j
  fresh : ∀ k, va.ownBlock = some k → w1.heap.size ≤ k
  tch : Tch No w1 w
  low : ∀ n ∈ T, n ≤ last
theorem framed_add' (S : Nat → List (List UInt8)) (last : Nat) (b : List UInt8) (n : Nat) : (framed (addS S last b n)).length ≤ (framed (S n)).length + (6 + b.length) := by
  unfold addS
  split
  · rw [framed_snoc_len]; omega
  · omega
theorem FromS.more {w1 w w' : World} {lb db mb : Nat} {M : List FE} {last : Nat} {S : Nat → List (List UInt8)} {T : List Nat} {va : Value} {j i k : Nat} (h : FromS w1 w lb db mb M last S T va j i) (t : Tch No w w') (hk : i ≤ k) : FromS w1 w' lb db mb M last S T va j k :=
  ⟨h.log.keep t, own_tch h.ats t (fun _ _ h => h), h.tells, h.segs, by have := h.cnt; omega, h.used, h.fresh, h.tch.trans0 t, h.low⟩
theorem FromS.add {w1 w : World} {lb db mb : Nat} {M : List FE} {last : Nat} {S : Nat → List (List UInt8)} {T : List Nat} {va : Value} {j i : Nat} (h : FromS w1 w lb db mb M last S T va j i) {w5 w6 wA w7 : World} {P : Nat → Prop} (t5 : Tch No w w5)
    (l6 : LSt w6 lb db mb 1048576 (mAppL M (segNm last) (frameM (txt j))) last (flatS S (last + 1) ++ [txt j]) (fun k => (K0 w1 k ∨ va.ownBlock = some k) ∨ P k)) (k6 : KT (fun k => (K0 w1 k ∨ va.ownBlock = some k) ∨ P k) w5 w6)
    (tA : Tch No w6 wA) {v1 : Value} (hA : AppI wA va (T ++ [last]) v1 w7) (hsg : Segs (mAppL M (segNm last) (frameM (txt j))) last (addS S last (txt j))) : FromS w1 w7 lb db mb (mAppL M (segNm last) (frameM (txt j))) last (addS S last (txt j)) (T ++ [last]) v1 (j + 1) i := by
  have hs5 := t5.size
  have hs6 := k6.size
  have hsA := tA.size
  have hw := h.tch.size
  have hnd := h.log.dk.nodup
  have hc := h.cnt
  have hl2 : (txt j).length = 2 := rfl
  have q2 : Tch (fun k => va.ownBlock = some k) wA w7 := Tch.grown hA.grow (fun k hk _ => hk)
  have hl : ∀ k, v1.ownBlock = some k → va.ownBlock = some k ∨ k = wA.heap.size := fun k hk => by
    rcases hA.loc with e | e
    · exact .inl (by rw [← e]; exact hk)
    · rw [e] at hk; simp at hk; exact .inr hk.symm
  refine ⟨?_, hA.own, ?_, hsg, ⟨by rw [List.length_append]; simp; omega, hc.2.1, ?_⟩, ⟨?_, fun n => ?_⟩, fun k hk => ?_, ?_, fun n hn => ?_⟩
  · rw [flatS_add]
    refine (l6.keep tA).gen q2 (fun k hk => .inl (.inr hk)) (fun k hk => ?_)
    rcases hk with hk | hk
    · exact .inl (.inl (.inl hk))
    · rcases hl k hk with q | q
      · exact .inl (.inl (.inr q))
      · exact .inr ⟨by omega, (hA.own.lt k hk).2⟩
  · have := h.tells.add; rw [hc.1] at this; exact this
  · have := lenAL M (segNm last) (frameM (txt j)); omega
  · rw [used_appL _ _ _ hnd, frameM_length, hl2]; have := h.used.1; omega
  · have := framed_add' S last (txt j) n; have := h.used.2 n; rw [hl2] at *; omega
  · rcases hl k hk with q | q
    · exact h.fresh k q
    · omega
  · have t56 : Tch No w1 w6 := (h.tch.trans0 t5).fresh (F := fun k => ¬ ((K0 w1 k ∨ va.ownBlock = some k) ∨ P k)) k6 (fun k hk => by
      rcases Nat.lt_or_ge k w1.heap.size with q | q
      · exact absurd (.inl (.inl q)) hk
      · exact q)
    exact (t56.trans0 tA).fresh q2 (fun k hk => h.fresh k hk)
  · rcases List.mem_append.1 hn with q | q
    · exact h.low n q
    · simp at q; omega
theorem FromS.next {w1 w : World} {lb db mb : Nat} {M : List FE} {last : Nat} {S : Nat → List (List UInt8)} {T : List Nat} {va : Value} {j i : Nat} (h : FromS w1 w lb db mb M last S T va j i) (hl : last ≤ 999) {w' : World} (l : LSt w' lb db mb 1048576 (mSync M (segNm last)) (last + 1) (flatS S (last + 1)) (fun k => K0 w1 k ∨ va.ownBlock = some k)) (k : KT (fun k => K0 w1 k ∨ va.ownBlock = some k) w w') : FromS w1 w' lb db mb (mSync M (segNm last)) (last + 1) S T va j (i + 1) := by
  have e : flatS S (last + 1 + 1) = flatS S (last + 1) := flatS_more _ (by omega) (fun n h1 h2 => h.segs.above n (by omega))
  refine ⟨by rw [e]; exact l, k.own h.ats (fun q hq => .inr hq), h.tells.next h.segs.above, h.segs.next hl _ (.inr rfl), by have := h.cnt; rw [lenSy]; omega, by rw [used_sync]; exact h.used, h.fresh, h.tch.fresh (F := fun q => ¬ (K0 w1 q ∨ va.ownBlock = some q)) k (fun q hq => ?_), fun n hn => by have := h.low n hn; omega⟩
  rcases Nat.lt_or_ge q w1.heap.size with p | p
  · exact absurd (.inl p) hq
  · exact p
/-- What is told from a segment on. -/
theorem FromS.open_ {w1 w : World} {lb db mb : Nat} {M : List FE} {last : Nat} {S : Nat → List (List UInt8)} {T : List Nat} {va : Value} {j i : Nat} (h : FromS w1 w lb db mb M last S T va j i) (f : Nat) (hf : f ≤ last) (hl : last ≤ 999) : ∃ t, openM 1048576 (mForget f (mSync M (segNm last))) f = ⟨0, mForget f (mSync M (segNm last)), t, wantK T f T.length⟩ := by
  have h1 := (h.segs.next hl last (.inl rfl)).forget f (by omega)
  obtain ⟨t, _, h2⟩ := h1.open_from f hf hl 1048576
  refine ⟨t, ?_⟩
  rw [h2, ← h.tells f]
  congr 1
  rw [List.flatMap_def, List.flatMap_def]
  congr 1
  refine List.map_congr_left fun n hn => ?_
  rw [List.mem_range'_1] at hn
  exact if_neg (by omega)
theorem FromS.left {w1 w : World} {lb db mb : Nat} {M : List FE} {last : Nat} {S : Nat → List (List UInt8)} {T : List Nat} {va : Value} {j i : Nat} (h : FromS w1 w lb db mb M last S T va j i) (f : Nat) (hf : f ≤ last) (hl : last ≤ 999) (hnd : (names (mForget f (mSync M (segNm last)))).Nodup) : (mForget f (mSync M (segNm last))).length ≤ last + 1 - f :=
  (h.segs.next hl last (.inl rfl)).left f hf hnd
end Go.Proofs.Ytcjlgdldhcbcjaa
