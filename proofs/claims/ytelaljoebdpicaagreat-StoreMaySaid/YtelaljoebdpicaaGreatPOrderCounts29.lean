/- Part 29 of what the proof of OrderCounts rests on. No condition. -/
import Derived.Test.YtelaljoebdpicaaGreatPOrderCounts28
namespace Go.Proofs.YtelaljoebdpicaaGreat
set_option maxRecDepth 100000
set_option maxHeartbeats 60000000
set_option linter.unusedVariables false
set_option linter.unusedSimpArgs false
set_option linter.unusedSectionVars false
namespace Ev
open Go Go.RowKit Go.Maps
section
variable {P : Program} {ρ : Operand -> Value} {o : Oper} {σ : Nat -> Blk} {D : Nat -> Prop} {w : World} {H : Heap} {n : Nat} {A : Operand -> Option S}
def aFa (P : Program) (A : Operand -> Option S) (t : TypeId) (x : Operand) (f : Nat) : Option (S × Ef) := match S.c? (A x), P.underlying t with
 | some (.ptr i off), some (.struct fs) => match fs[f]? with
  | some fd => match szOf P fd.type with
   | some (_ + 1) => some (.v (.c (.ptr i (off + fd.offset))), .no 0)
   | _ => none
  | none => none
 | _, _ => none
theorem adr_add (k : Blk) (off j : Nat) : (adr k off).add j = adr k (off + j) := addr_add _ _ _
theorem fa_ok {t : TypeId} {x : Operand} {f : Nat} {s : S} {e : Ef} (ho : o.op = .fieldAddr t x f) (hA : Eqv σ D A ρ) (h : aFa P A t x f = some (s, e)) (hs : Sat σ D (rst (tb e.F) H) w) : AOK P ρ o σ D w H n s e := by
 unfold aFa at h
 split at h
 ·rename_i i off fs hx ht
  split at h
  ·rename_i fd hfd
   split at h
   ·rename_i k hk
    cases h
    obtain ⟨hD, hp⟩ := hA.c hx
    refine ⟨.value _, .pointer (some (adr (σ i) (off + fd.offset))), _, _, did_no hs ?_ (.inl rfl) ⟨hD, rfl⟩⟩
    unfold execOp; rw [ho]
    simp [hp, Instr.fieldAt, run_underlying ht, hfd, Instr.sureAddr, fieldPlace, run_sz hk, adr_add]
   ·cases h
  ·cases h
 ·cases h
def aPart (P : Program) (t : TypeId) (l : List C) (off : Nat) : Option V := match isAg P t with
 | some true => match szOf P t with
  | some k => if off + k <= l.length then some (.agg ((l.drop off).take k)) else none
  | none => none
 | some false => (l[off]?).map .c
 | none => none
theorem part_ok {t : TypeId} {l : List C} {m : List Value} {off : Nat} {x : V} (hl : RL σ D l m) (h : aPart P t l off = some x) : ∃ v, RV σ D x v /\ (part t m.toArray off).run P w = .ok v w := by
 unfold aPart at h
 split at h
 ·rename_i ha
  split at h
  ·rename_i k hk
   split at h
   ·rename_i hle
    cases h
    refine ⟨.agg (m.toArray.extract off (off + k)), ⟨(m.drop off).take k, (hl.drop off).take k, ?_⟩, ?_⟩
    ·rw [List.extract_toArray, List.extract_eq_take_drop, show off + k - off = k by omega]
    ·simp [part, run_isAg ha, run_sz hk]
   ·cases h
  ·cases h
 ·rename_i ha
  rw [Option.map_eq_some_iff] at h
  obtain ⟨c, h1, rfl⟩ := h
  obtain ⟨v, g1, g2⟩ := hl.get h1
  exact ⟨v, g2, by simp [part, run_isAg ha, g1]⟩
 ·cases h
def aField (P : Program) (A : Operand -> Option S) (t : TypeId) (x : Operand) (f : Nat) : Option (S × Ef) := match S.v? (A x), P.underlying t with
 | some (.agg l), some (.struct fs) => match fs[f]? with
  | some fd => (aPart P fd.type l fd.offset).map fun v => (.v v, .no 0)
  | none => none
 | _, _ => none
theorem field_ok {t : TypeId} {x : Operand} {f : Nat} {s : S} {e : Ef} (ho : o.op = .field t x f) (hA : Eqv σ D A ρ) (h : aField P A t x f = some (s, e)) (hs : Sat σ D (rst (tb e.F) H) w) : AOK P ρ o σ D w H n s e := by
 unfold aField at h
 split at h
 ·rename_i l fs hx ht
  split at h
  ·rename_i fd hfd
   rw [Option.map_eq_some_iff] at h
   obtain ⟨v, h1, h2⟩ := h
   cases h2
   obtain ⟨m, g1, g2⟩ := hA.v hx
   obtain ⟨u, k1, k2⟩ := part_ok (P := P) (w := w) g1 h1
   refine ⟨.value u, u, _, _, did_no hs ?_ (.inl rfl) k1⟩
   unfold execOp; rw [ho]
   simp [g2, Instr.field, run_underlying ht, hfd, asAgg, k2]
  ·cases h
 ·cases h
def aIa (P : Program) (A : Operand -> Option S) (t : TypeId) (x y : Operand) : Option (S × Ef) := match S.c? (A x), S.c? (A y), P.underlying t with
 | some (.sl i off len _), some (.int _ k), some (.slice el) => match szOf P el with
  | some sz => if 0 <= k /\ k < len then some (.v (.c (.ptr i (off + k.toNat * sz))), .no 0) else none
  | none => none
 | some (.ptr i off), some (.int _ k), some (.array len el) => match szOf P el with
  | some sz => if 0 <= k /\ k < len then some (.v (.c (.ptr i (off + k.toNat * sz))), .no 0) else none
  | none => none
 | _, _, _ => none
theorem sl_val {i off len : Nat} {cp : Cp} {v : Value} (h : RC σ D (.sl i off len cp) v) : D i /\ ∃ c, v = .slice (some (adr (σ i) off)) len c := by
 cases cp with
 | ex c => exact ⟨h.1, c, h.2⟩
 | op sz => obtain ⟨h1, c, h2, _⟩ := h; exact ⟨h1, c, h2⟩
theorem ia_ok {t : TypeId} {x y : Operand} {s : S} {e : Ef} (ho : o.op = .indexAddr t x y) (hA : Eqv σ D A ρ) (h : aIa P A t x y = some (s, e)) (hs : Sat σ D (rst (tb e.F) H) w) : AOK P ρ o σ D w H n s e := by
 unfold aIa at h
 split at h
 ·rename_i i off len cp q k el hx hy ht
  split at h
  ·rename_i sz hsz
   split at h
   ·rename_i hk
    cases h
    obtain ⟨hD, c, hp⟩ := sl_val (hA.c hx)
    have hk2 := hA.c hy
    refine ⟨.value _, .pointer (some (adr (σ i) (off + k.toNat * sz))), _, _, did_no hs ?_ (.inl rfl) ⟨hD, rfl⟩⟩
    unfold execOp; rw [ho]
    simp [hp, show ρ y = .int q k from hk2, Instr.indexAt, asIntOf, run_underlying ht, hk, run_sz hsz, adr_add]
   ·cases h
  ·cases h
 ·rename_i i off q k len el hx hy ht
  split at h
  ·rename_i sz hsz
   split at h
   ·rename_i hk
    cases h
    obtain ⟨hD, hp⟩ := hA.c hx
    have hk2 := hA.c hy
    refine ⟨.value _, .pointer (some (adr (σ i) (off + k.toNat * sz))), _, _, did_no hs ?_ (.inl rfl) ⟨hD, rfl⟩⟩
    unfold execOp; rw [ho]
    simp [hp, show ρ y = .int q k from hk2, Instr.indexAt, Instr.sureAddr, asIntOf, run_underlying ht, hk, run_sz hsz, adr_add]
   ·cases h
  ·cases h
 ·cases h
def aIx (P : Program) (A : Operand -> Option S) (t : TypeId) (x y : Operand) : Option (S × Ef) := match S.v? (A x), S.c? (A y), P.underlying t with
 | some (.c (.str b)), some (.int _ k), some .string => if 0 <= k then (b[k.toNat]?).map fun u => (.v (.c (.int .u8 u.toNat)), .no 0) else none
 | some (.agg l), some (.int _ k), some (.array len el) => match szOf P el with
  | some sz => if 0 <= k /\ k < len then (aPart P el l (k.toNat * sz)).map fun v => (.v v, .no 0) else none
  | none => none
 | _, _, _ => none
theorem ix_ok {t : TypeId} {x y : Operand} {s : S} {e : Ef} (ho : o.op = .index t x y) (hA : Eqv σ D A ρ) (h : aIx P A t x y = some (s, e)) (hs : Sat σ D (rst (tb e.F) H) w) : AOK P ρ o σ D w H n s e := by
 unfold aIx at h
 split at h
 ·rename_i b q k hx hy ht
  split at h
  ·rename_i hk
   rw [Option.map_eq_some_iff] at h
   obtain ⟨u, h1, h2⟩ := h
   cases h2
   have hp : ρ x = .string ⟨b.toArray⟩ := hA.v hx
   have hk2 := hA.c hy
   refine ⟨.value _, .int .u8 u.toNat, _, _, did_no hs ?_ (.inl rfl) rfl⟩
   unfold execOp; rw [ho]
   have hb : (ByteArray.mk b.toArray)[k.toNat]? = some u := by
    obtain ⟨hlt, hu⟩ := List.getElem?_eq_some_iff.1 h1
    have hlt2 : k.toNat < (ByteArray.mk b.toArray).size := by simpa [ByteArray.size] using hlt
    rw [getElem?_pos (ByteArray.mk b.toArray) k.toNat hlt2]
    exact congrArg some hu
   simp [hp, show ρ y = .int q k from hk2, Instr.index, asIntOf, run_underlying ht, hk, hb]
  ·cases h
 ·rename_i l q k len el hx hy ht
  split at h
  ·rename_i sz hsz
   split at h
   ·rename_i hk
    rw [Option.map_eq_some_iff] at h
    obtain ⟨v, h1, h2⟩ := h
    cases h2
    obtain ⟨m, g1, g2⟩ := hA.v hx
    have hk2 := hA.c hy
    obtain ⟨u, k1, k2⟩ := part_ok (P := P) (w := w) g1 h1
    refine ⟨.value u, u, _, _, did_no hs ?_ (.inl rfl) k1⟩
    unfold execOp; rw [ho]
    simp [g2, show ρ y = .int q k from hk2, Instr.index, asIntOf, run_underlying ht, hk, run_sz hsz, k2]
   ·cases h
  ·cases h
 ·cases h
def natOf : Option S -> Option Nat
 | some (.v (.c (.int _ (.ofNat k)))) => some k
 | _ => none
theorem natOf_ok {x : Operand} {k : Nat} (hA : Eqv σ D A ρ) (h : natOf (A x) = some k) : ∃ q, ρ x = .int q k := by
 unfold natOf at h
 split at h
 ·rename_i q j e
  cases h
  exact ⟨q, hA x _ e⟩
 ·cases h
def lowOf (A : Operand -> Option S) : Option Operand -> Option Nat | none => some 0 | some x => natOf (A x)
def highOf (A : Operand -> Option S) (len : Nat) : Option Operand -> Option Nat | none => some len | some x => natOf (A x)
theorem bounds_ok {b : Bool} {lo hi : Option Operand} {len cap l hh : Nat} (hA : Eqv σ D A ρ) (hl : lowOf A lo = some l) (hh1 : highOf A len hi = some hh) (h1 : l <= hh) (h2 : hh <= cap) :
  (Instr.sliceBounds b len cap (lo.map ρ) (hi.map ρ) none).run P w = .ok (l, hh, cap) w := by
 cases lo with
 | none =>
  simp only [lowOf, Option.some.injEq] at hl; subst hl
  cases hi with
  | none => simp only [highOf, Option.some.injEq] at hh1; subst hh1; simp [Instr.sliceBounds]
  | some y =>
   obtain ⟨q, e⟩ := natOf_ok hA hh1
   simp [Instr.sliceBounds, Instr.sliceBound, e, asIntOf, h2]
 | some x =>
  obtain ⟨q, e⟩ := natOf_ok hA hl
  cases hi with
  | none => simp only [highOf, Option.some.injEq] at hh1; subst hh1; simp [Instr.sliceBounds, Instr.sliceBound, e, asIntOf, h1]
  | some y =>
   obtain ⟨q2, e2⟩ := natOf_ok hA hh1
   simp [Instr.sliceBounds, Instr.sliceBound, e, e2, asIntOf, h1, h2]
def aSl (P : Program) (A : Operand -> Option S) (t : TypeId) (x : Operand) (lo hi mx : Option Operand) : Option (S × Ef) := match mx, S.c? (A x), P.underlying t with
 | none, some (.sl i off len (.ex c)), some (.slice el) => match lowOf A lo, highOf A len hi, szOf P el with
  | some l, some h, some sz => if l <= h /\ h <= c then some (.v (.c (.sl i (if c = l then off else off + l * sz) (h - l) (.ex (c - l)))), .no 0) else none
  | _, _, _ => none
 | none, some (.sl i off len (.op s1)), some (.slice el) => match lowOf A lo, highOf A len hi, szOf P el with
  | some l, some h, some sz => if l <= h /\ h <= len /\ s1 = sz then some (.v (.c (if l < len ∨ l = 0 then .sl i (off + l * sz) (h - l) (.op sz) else .se)), .no 0) else none
  | _, _, _ => none
 | none, some .snil, some (.slice el) => match lowOf A lo, highOf A 0 hi, szOf P el with
  | some 0, some 0, some _ => some (.v (.c .snil), .no 0)
  | _, _, _ => none
 | none, some (.str b), some .string => match lowOf A lo, highOf A b.length hi with
  | some l, some h => if l <= h /\ h <= b.length then some (.v (.c (.str ((b.drop l).take (h - l)))), .no 0) else none
  | _, _ => none
 | _, _, _ => none
theorem sl_ok {t : TypeId} {x : Operand} {lo hi mx : Option Operand} {s : S} {e : Ef} (ho : o.op = .slice t x lo hi mx) (hA : Eqv σ D A ρ) (h : aSl P A t x lo hi mx = some (s, e)) (hs : Sat σ D (rst (tb e.F) H) w) : AOK P ρ o σ D w H n s e := by
 unfold aSl at h
 split at h
 ·rename_i i off len c el hx ht
  split at h
  ·rename_i l hh sz hl hh1 hsz
   split at h
   ·rename_i hb
    cases h
    obtain ⟨hD, hp⟩ := hA.c hx
    have hbd := bounds_ok (P := P) (w := w) (b := true) hA hl hh1 hb.1 hb.2
    refine ⟨.value _, .slice (some (adr (σ i) (if c = l then off else off + l * sz))) (hh - l) (c - l), _, _, did_no hs ?_ (.inl rfl) ⟨hD, rfl⟩⟩
    unfold execOp; rw [ho]
    simp [hp, Instr.sliceAt, Instr.slice, run_underlying ht, hbd, run_sz hsz]
    split <;> simp [adr_add]
   ·cases h
  ·cases h
 ·rename_i i off len s1 el hx ht
  split at h
  ·rename_i l hh sz hl hh1 hsz
   split at h
   ·rename_i hb
    cases h
    obtain ⟨hb1, hb2, rfl⟩ := hb
    obtain ⟨hD, c, hp, hc1, hc2, hc3⟩ := hA.c hx
    have hbd := bounds_ok (P := P) (w := w) (b := true) hA hl hh1 hb1 (Nat.le_trans hb2 hc1)
    by_cases hlt : l < len ∨ l = 0
    ·refine ⟨.value _, .slice (some (adr (σ i) (off + l * s1))) (hh - l) (c - l), _, _, did_no hs ?_ (.inl rfl) ?_⟩
     ·unfold execOp; rw [ho]
      simp [hp, Instr.sliceAt, Instr.slice, run_underlying ht, hbd, run_sz hsz]
      by_cases e0 : c = l
      ·have : l = 0 := by omega
       subst this
       simp [e0]
      ·simp [e0, adr_add]
     ·rw [if_pos hlt]
      refine ⟨hD, c - l, rfl, by omega, by omega, ?_⟩
      have := Nat.mul_le_mul_right s1 (show l <= c by omega)
      rw [<- hc3, Nat.sub_mul]
      omega
    ·have hh0 : hh - l = 0 := by omega
     refine ⟨.value _, .slice (some (if c = l then adr (σ i) off else adr (σ i) (off + l * s1))) 0 (c - l), _, _, did_no hs ?_ (.inl rfl) (by rw [if_neg hlt]; exact ⟨_, _, rfl⟩)⟩
     unfold execOp; rw [ho]
     simp [hp, Instr.sliceAt, Instr.slice, run_underlying ht, hbd, run_sz hsz, hh0, adr_add]
     split <;> rfl
   ·cases h
  ·cases h
 ·rename_i el hx ht
  split at h
  ·rename_i hl hh1 hsz
   cases h
   have hp : ρ x = .slice none 0 0 := hA.c hx
   have hbd := bounds_ok (P := P) (w := w) (b := true) (cap := 0) hA hl hh1 (Nat.le_refl _) (Nat.le_refl _)
   refine ⟨.value _, .slice none 0 0, _, _, did_no hs ?_ (.inl rfl) rfl⟩
   unfold execOp; rw [ho]
   simp [hp, Instr.sliceAt, Instr.slice, run_underlying ht, hbd, run_sz hsz]
  ·cases h
 ·rename_i b hx ht
  split at h
  ·rename_i l hh hl hh1
   split at h
   ·rename_i hb
    cases h
    have hp : ρ x = .string ⟨b.toArray⟩ := hA.c hx
    have hsz : (ByteArray.mk b.toArray).size = b.length := by simp [ByteArray.size]
    have hbd := bounds_ok (P := P) (w := w) (b := false) (cap := b.length) hA hl hh1 hb.1 hb.2
    refine ⟨.value _, .string ⟨((b.drop l).take (hh - l)).toArray⟩, _, _, did_no hs ?_ (.inl rfl) rfl⟩
    unfold execOp; rw [ho]
    have hex : (ByteArray.mk b.toArray).extract l hh = ⟨((b.drop l).take (hh - l)).toArray⟩ := by
     apply ByteArray.ext
     rw [ByteArray.data_extract]
     simp [List.extract_eq_take_drop]
    simp [hp, Instr.sliceAt, Instr.slice, run_underlying ht, hsz, hbd, hex]
   ·cases h
  ·cases h
 ·cases h
end
end Ev
end Go.Proofs.YtelaljoebdpicaaGreat
