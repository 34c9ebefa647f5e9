/- Part 6 of what the proof of WhereLong rests on. No condition. -/
import Derived.Test.YtafndmnbnmlklaaGreatPWhereLong05
namespace Go.Proofs.YtafndmnbnmlklaaGreat
set_option maxRecDepth 100000
set_option maxHeartbeats 60000000
set_option linter.unusedVariables false
set_option linter.unusedSimpArgs false
set_option linter.unusedSectionVars false
namespace Ev
open Go Go.RowKit Go.Maps
section
variable {P : Program} {ρ : Operand -> Value} {o : Oper} {σ : Nat -> Blk} {D : Nat -> Prop} {w : World} {H : Heap} {n : Nat} {A : Operand -> Option S}
def aFa (P : Program) (A : Operand -> Option S) (t : TypeId) (x : Operand) (f : Nat) : Option (S × Ef) := match S.c? (A x), P.underlying t with
 | some (.ptr i off), some (.struct fs) => match fs[f]? with
  | some fd => match szOf P fd.type with
   | some (_ + 1) => some (.v (.c (.ptr i (off + fd.offset))), .no 0)
   | _ => none
  | none => none
 | _, _ => none
theorem adr_add (k : Blk) (off j : Nat) : (adr k off).add j = adr k (off + j) := addr_add _ _ _
theorem fa_ok {t : TypeId} {x : Operand} {f : Nat} {s : S} {e : Ef} (ho : o.op = .fieldAddr t x f) (hA : Eqv σ D A ρ) (h : aFa P A t x f = some (s, e)) (hs : Sat σ D (rst (tb e.F) H) w) : AOK P ρ o σ D w H n s e := by
 unfold aFa at h
 split at h
 ·rename_i i off fs hx ht
  split at h
  ·rename_i fd hfd
   split at h
   ·rename_i k hk
    cases h
    obtain ⟨hD, hp⟩ := hA.c hx
    refine ⟨.value _, .pointer (some (adr (σ i) (off + fd.offset))), _, _, did_no hs ?_ (.inl rfl) ⟨hD, rfl⟩⟩
    unfold execOp; rw [ho]
    simp [hp, Instr.fieldAt, run_underlying ht, hfd, Instr.sureAddr, fieldPlace, run_sz hk, adr_add]
   ·cases h
  ·cases h
 ·cases h
def aPart (P : Program) (t : TypeId) (l : List C) (off : Nat) : Option V := match isAg P t with
 | some true => match szOf P t with
  | some k => if off + k <= l.length then some (.agg ((l.drop off).take k)) else none
  | none => none
 | some false => (l[off]?).map .c
 | none => none
theorem part_ok {t : TypeId} {l : List C} {m : List Value} {off : Nat} {x : V} (hl : RL σ D l m) (h : aPart P t l off = some x) : ∃ v, RV σ D x v /\ (part t m.toArray off).run P w = .ok v w := by
 unfold aPart at h
 split at h
 ·rename_i ha
  split at h
  ·rename_i k hk
   split at h
   ·rename_i hle
    cases h
    refine ⟨.agg (m.toArray.extract off (off + k)), ⟨(m.drop off).take k, (hl.drop off).take k, ?_⟩, ?_⟩
    ·rw [List.extract_toArray, List.extract_eq_take_drop, show off + k - off = k by omega]
    ·simp [part, run_isAg ha, run_sz hk]
   ·cases h
  ·cases h
 ·rename_i ha
  rw [Option.map_eq_some_iff] at h
  obtain ⟨c, h1, rfl⟩ := h
  obtain ⟨v, g1, g2⟩ := hl.get h1
  exact ⟨v, g2, by simp [part, run_isAg ha, g1]⟩
 ·cases h
def aField (P : Program) (A : Operand -> Option S) (t : TypeId) (x : Operand) (f : Nat) : Option (S × Ef) := match S.v? (A x), P.underlying t with
 | some (.agg l), some (.struct fs) => match fs[f]? with
  | some fd => (aPart P fd.type l fd.offset).map fun v => (.v v, .no 0)
  | none => none
 | _, _ => none
theorem field_ok {t : TypeId} {x : Operand} {f : Nat} {s : S} {e : Ef} (ho : o.op = .field t x f) (hA : Eqv σ D A ρ) (h : aField P A t x f = some (s, e)) (hs : Sat σ D (rst (tb e.F) H) w) : AOK P ρ o σ D w H n s e := by
 unfold aField at h
 split at h
 ·rename_i l fs hx ht
  split at h
  ·rename_i fd hfd
   rw [Option.map_eq_some_iff] at h
   obtain ⟨v, h1, h2⟩ := h
   cases h2
   obtain ⟨m, g1, g2⟩ := hA.v hx
   obtain ⟨u, k1, k2⟩ := part_ok (P := P) (w := w) g1 h1
   refine ⟨.value u, u, _, _, did_no hs ?_ (.inl rfl) k1⟩
   unfold execOp; rw [ho]
   simp [g2, Instr.field, run_underlying ht, hfd, asAgg, k2]
  ·cases h
 ·cases h
def aIa (P : Program) (A : Operand -> Option S) (t : TypeId) (x y : Operand) : Option (S × Ef) := match S.c? (A x), S.c? (A y), P.underlying t with
 | some (.sl i off len _), some (.int _ k), some (.slice el) => match szOf P el with
  | some sz => if 0 <= k /\ k < len then some (.v (.c (.ptr i (off + k.toNat * sz))), .no 0) else none
  | none => none
 | some (.ptr i off), some (.int _ k), some (.array len el) => match szOf P el with
  | some sz => if 0 <= k /\ k < len then some (.v (.c (.ptr i (off + k.toNat * sz))), .no 0) else none
  | none => none
 | _, _, _ => none
theorem sl_val {i off len : Nat} {cp : Cp} {v : Value} (h : RC σ D (.sl i off len cp) v) : D i /\ ∃ c, v = .slice (some (adr (σ i) off)) len c := by
 cases cp with
 | ex c => exact ⟨h.1, c, h.2⟩
 | op sz => obtain ⟨h1, c, h2, _⟩ := h; exact ⟨h1, c, h2⟩
theorem ia_ok {t : TypeId} {x y : Operand} {s : S} {e : Ef} (ho : o.op = .indexAddr t x y) (hA : Eqv σ D A ρ) (h : aIa P A t x y = some (s, e)) (hs : Sat σ D (rst (tb e.F) H) w) : AOK P ρ o σ D w H n s e := by
 unfold aIa at h
 split at h
 ·rename_i i off len cp q k el hx hy ht
  split at h
  ·rename_i sz hsz
   split at h
   ·rename_i hk
    cases h
    obtain ⟨hD, c, hp⟩ := sl_val (hA.c hx)
    have hk2 := hA.c hy
    refine ⟨.value _, .pointer (some (adr (σ i) (off + k.toNat * sz))), _, _, did_no hs ?_ (.inl rfl) ⟨hD, rfl⟩⟩
    unfold execOp; rw [ho]
    simp [hp, show ρ y = .int q k from hk2, Instr.indexAt, asIntOf, run_underlying ht, hk, run_sz hsz, adr_add]
   ·cases h
  ·cases h
 ·rename_i i off q k len el hx hy ht
  split at h
  ·rename_i sz hsz
   split at h
   ·rename_i hk
    cases h
    obtain ⟨hD, hp⟩ := hA.c hx
    have hk2 := hA.c hy
    refine ⟨.value _, .pointer (some (adr (σ i) (off + k.toNat * sz))), _, _, did_no hs ?_ (.inl rfl) ⟨hD, rfl⟩⟩
    unfold execOp; rw [ho]
    simp [hp, show ρ y = .int q k from hk2, Instr.indexAt, Instr.sureAddr, asIntOf, run_underlying ht, hk, run_sz hsz, adr_add]
   ·cases h
  ·cases h
 ·cases h
def aIx (P : Program) (A : Operand -> Option S) (t : TypeId) (x y : Operand) : Option (S × Ef) := match S.v? (A x), S.c? (A y), P.underlying t with
 | some (.c (.str b)), some (.int _ k), some .string => if 0 <= k then (b[k.toNat]?).map fun u => (.v (.c (.int .u8 u.toNat)), .no 0) else none
 | some (.agg l), some (.int _ k), some (.array len el) => match szOf P el with
  | some sz => if 0 <= k /\ k < len then (aPart P el l (k.toNat * sz)).map fun v => (.v v, .no 0) else none
  | none => none
 | _, _, _ => none
theorem ix_ok {t : TypeId} {x y : Operand} {s : S} {e : Ef} (ho : o.op = .index t x y) (hA : Eqv σ D A ρ) (h : aIx P A t x y = some (s, e)) (hs : Sat σ D (rst (tb e.F) H) w) : AOK P ρ o σ D w H n s e := by
 unfold aIx at h
 split at h
 ·rename_i b q k hx hy ht
  split at h
  ·rename_i hk
   rw [Option.map_eq_some_iff] at h
   obtain ⟨u, h1, h2⟩ := h
   cases h2
   have hp : ρ x = .string ⟨b.toArray⟩ := hA.v hx
   have hk2 := hA.c hy
   refine ⟨.value _, .int .u8 u.toNat, _, _, did_no hs ?_ (.inl rfl) rfl⟩
   unfold execOp; rw [ho]
   have hb : (ByteArray.mk b.toArray)[k.toNat]? = some u := by
    obtain ⟨hlt, hu⟩ := List.getElem?_eq_some_iff.1 h1
    have hlt2 : k.toNat < (ByteArray.mk b.toArray).size := by simpa [ByteArray.size] using hlt
    rw [getElem?_pos (ByteArray.mk b.toArray) k.toNat hlt2]
    exact congrArg some hu
   simp [hp, show ρ y = .int q k from hk2, Instr.index, asIntOf, run_underlying ht, hk, hb]
  ·cases h
 ·rename_i l q k len el hx hy ht
  split at h
  ·rename_i sz hsz
   split at h
   ·rename_i hk
    rw [Option.map_eq_some_iff] at h
    obtain ⟨v, h1, h2⟩ := h
    cases h2
    obtain ⟨m, g1, g2⟩ := hA.v hx
    have hk2 := hA.c hy
    obtain ⟨u, k1, k2⟩ := part_ok (P := P) (w := w) g1 h1
    refine ⟨.value u, u, _, _, did_no hs ?_ (.inl rfl) k1⟩
    unfold execOp; rw [ho]
    simp [g2, show ρ y = .int q k from hk2, Instr.index, asIntOf, run_underlying ht, hk, run_sz hsz, k2]
   ·cases h
  ·cases h
 ·cases h
def natOf : Option S -> Option Nat
 | some (.v (.c (.int _ (.ofNat k)))) => some k
 | _ => none
theorem natOf_ok {x : Operand} {k : Nat} (hA : Eqv σ D A ρ) (h : natOf (A x) = some k) : ∃ q, ρ x = .int q k := by
 unfold natOf at h
 split at h
 ·rename_i q j e
  cases h
  exact ⟨q, hA x _ e⟩
 ·cases h
def lowOf (A : Operand -> Option S) : Option Operand -> Option Nat | none => some 0 | some x => natOf (A x)
def highOf (A : Operand -> Option S) (len : Nat) : Option Operand -> Option Nat | none => some len | some x => natOf (A x)
theorem bounds_ok {b : Bool} {lo hi : Option Operand} {len cap l hh : Nat} (hA : Eqv σ D A ρ) (hl : lowOf A lo = some l) (hh1 : highOf A len hi = some hh) (h1 : l <= hh) (h2 : hh <= cap) :
  (Instr.sliceBounds b len cap (lo.map ρ) (hi.map ρ) none).run P w = .ok (l, hh, cap) w := by
 cases lo with
 | none =>
  simp only [lowOf, Option.some.injEq] at hl; subst hl
  cases hi with
  | none => simp only [highOf, Option.some.injEq] at hh1; subst hh1; simp [Instr.sliceBounds]
  | some y =>
   obtain ⟨q, e⟩ := natOf_ok hA hh1
   simp [Instr.sliceBounds, Instr.sliceBound, e, asIntOf, h2]
 | some x =>
  obtain ⟨q, e⟩ := natOf_ok hA hl
  cases hi with
  | none => simp only [highOf, Option.some.injEq] at hh1; subst hh1; simp [Instr.sliceBounds, Instr.sliceBound, e, asIntOf, h1]
  | some y =>
   obtain ⟨q2, e2⟩ := natOf_ok hA hh1
   simp [Instr.sliceBounds, Instr.sliceBound, e, e2, asIntOf, h1, h2]
def aSl (P : Program) (A : Operand -> Option S) (t : TypeId) (x : Operand) (lo hi mx : Option Operand) : Option (S × Ef) := match mx, S.c? (A x), P.underlying t with
 | none, some (.sl i off len (.ex c)), some (.slice el) => match lowOf A lo, highOf A len hi, szOf P el with
  | some l, some h, some sz => if l <= h /\ h <= c then some (.v (.c (.sl i (if c = l then off else off + l * sz) (h - l) (.ex (c - l)))), .no 0) else none
  | _, _, _ => none
 | none, some (.sl i off len (.op s1)), some (.slice el) => match lowOf A lo, highOf A len hi, szOf P el with
  | some l, some h, some sz => if l <= h /\ h <= len /\ s1 = sz then some (.v (.c (if l < len ∨ l = 0 then .sl i (off + l * sz) (h - l) (.op sz) else .se)), .no 0) else none
  | _, _, _ => none
 | none, some .snil, some (.slice el) => match lowOf A lo, highOf A 0 hi, szOf P el with
  | some 0, some 0, some _ => some (.v (.c .snil), .no 0)
  | _, _, _ => none
 | none, some (.str b), some .string => match lowOf A lo, highOf A b.length hi with
  | some l, some h => if l <= h /\ h <= b.length then some (.v (.c (.str ((b.drop l).take (h - l)))), .no 0) else none
  | _, _ => none
 | _, _, _ => none
theorem sl_ok {t : TypeId} {x : Operand} {lo hi mx : Option Operand} {s : S} {e : Ef} (ho : o.op = .slice t x lo hi mx) (hA : Eqv σ D A ρ) (h : aSl P A t x lo hi mx = some (s, e)) (hs : Sat σ D (rst (tb e.F) H) w) : AOK P ρ o σ D w H n s e := by
 unfold aSl at h
 split at h
 ·rename_i i off len c el hx ht
  split at h
  ·rename_i l hh sz hl hh1 hsz
   split at h
   ·rename_i hb
    cases h
    obtain ⟨hD, hp⟩ := hA.c hx
    have hbd := bounds_ok (P := P) (w := w) (b := true) hA hl hh1 hb.1 hb.2
    refine ⟨.value _, .slice (some (adr (σ i) (if c = l then off else off + l * sz))) (hh - l) (c - l), _, _, did_no hs ?_ (.inl rfl) ⟨hD, rfl⟩⟩
    unfold execOp; rw [ho]
    simp [hp, Instr.sliceAt, Instr.slice, run_underlying ht, hbd, run_sz hsz]
    split <;> simp [adr_add]
   ·cases h
  ·cases h
 ·rename_i i off len s1 el hx ht
  split at h
  ·rename_i l hh sz hl hh1 hsz
   split at h
   ·rename_i hb
    cases h
    obtain ⟨hb1, hb2, rfl⟩ := hb
    obtain ⟨hD, c, hp, hc1, hc2, hc3⟩ := hA.c hx
    have hbd := bounds_ok (P := P) (w := w) (b := true) hA hl hh1 hb1 (Nat.le_trans hb2 hc1)
    by_cases hlt : l < len ∨ l = 0
    ·refine ⟨.value _, .slice (some (adr (σ i) (off + l * s1))) (hh - l) (c - l), _, _, did_no hs ?_ (.inl rfl) ?_⟩
     ·unfold execOp; rw [ho]
      simp [hp, Instr.sliceAt, Instr.slice, run_underlying ht, hbd, run_sz hsz]
      by_cases e0 : c = l
      ·have : l = 0 := by omega
       subst this
       simp [e0]
      ·simp [e0, adr_add]
     ·rw [if_pos hlt]
      refine ⟨hD, c - l, rfl, by omega, by omega, ?_⟩
      have := Nat.mul_le_mul_right s1 (show l <= c by omega)
      rw [<- hc3, Nat.sub_mul]
      omega
    ·have hh0 : hh - l = 0 := by omega
     refine ⟨.value _, .slice (some (if c = l then adr (σ i) off else adr (σ i) (off + l * s1))) 0 (c - l), _, _, did_no hs ?_ (.inl rfl) (by rw [if_neg hlt]; exact ⟨_, _, rfl⟩)⟩
     unfold execOp; rw [ho]
     simp [hp, Instr.sliceAt, Instr.slice, run_underlying ht, hbd, run_sz hsz, hh0, adr_add]
     split <;> rfl
   ·cases h
  ·cases h
 ·rename_i el hx ht
  split at h
  ·rename_i hl hh1 hsz
   cases h
   have hp : ρ x = .slice none 0 0 := hA.c hx
   have hbd := bounds_ok (P := P) (w := w) (b := true) (cap := 0) hA hl hh1 (Nat.le_refl _) (Nat.le_refl _)
   refine ⟨.value _, .slice none 0 0, _, _, did_no hs ?_ (.inl rfl) rfl⟩
   unfold execOp; rw [ho]
   simp [hp, Instr.sliceAt, Instr.slice, run_underlying ht, hbd, run_sz hsz]
  ·cases h
 ·rename_i b hx ht
  split at h
  ·rename_i l hh hl hh1
   split at h
   ·rename_i hb
    cases h
    have hp : ρ x = .string ⟨b.toArray⟩ := hA.c hx
    have hsz : (ByteArray.mk b.toArray).size = b.length := by simp [ByteArray.size]
    have hbd := bounds_ok (P := P) (w := w) (b := false) (cap := b.length) hA hl hh1 hb.1 hb.2
    refine ⟨.value _, .string ⟨((b.drop l).take (hh - l)).toArray⟩, _, _, did_no hs ?_ (.inl rfl) rfl⟩
    unfold execOp; rw [ho]
    have hex : (ByteArray.mk b.toArray).extract l hh = ⟨((b.drop l).take (hh - l)).toArray⟩ := by
     apply ByteArray.ext
     rw [ByteArray.data_extract]
     simp [List.extract_eq_take_drop]
    simp [hp, Instr.sliceAt, Instr.slice, run_underlying ht, hsz, hbd, hex]
   ·cases h
  ·cases h
 ·cases h
end
end Ev
namespace Ev
open Go Go.RowKit Go.Maps
section
variable {P : Program} {ρ : Operand -> Value} {o : Oper} {σ : Nat -> Blk} {D : Nat -> Prop} {w : World} {H : Heap} {n : Nat} {A : Operand -> Option S}
def aNil (A : Operand -> Option S) (x : Operand) : Option (S × Ef) := match S.c? (A x) with
 | some (.ptr i off) => some (.v (.c (.ptr i off)), .no 0)
 | some (.fn f cap) => some (.v (.c (.fn f cap)), .no 0)
 | _ => none
theorem nil_ok {x : Operand} {s : S} {e : Ef} (ho : o.op = .nilCheck x) (hA : Eqv σ D A ρ) (h : aNil A x = some (s, e)) (hs : Sat σ D (rst (tb e.F) H) w) : AOK P ρ o σ D w H n s e := by
 unfold aNil at h
 split at h
 ·rename_i i off hx
  cases h
  have hp := hA.c hx
  refine ⟨.value (ρ x), ρ x, _, _, did_no hs ?_ (.inl rfl) hp⟩
  unfold execOp; rw [ho]; simp [hp.2]
 ·rename_i f cap hx
  cases h
  have hp := hA.c hx
  refine ⟨.value (ρ x), ρ x, _, _, did_no hs ?_ (.inl rfl) hp⟩
  unfold execOp; rw [ho]; simp [hp.2]
 ·cases h
def bitsC (op : BinOp) (k : IntKind) (x y : Int) : Option Int :=
 let a := BitVec.ofInt k.bits x
 let b := BitVec.ofInt k.bits y
 match op with
 | .and => some (k.wrap (a &&& b).toNat) | .or => some (k.wrap (a ||| b).toNat) | .xor => some (k.wrap (a ^^^ b).toNat) | .andNot => some (k.wrap (a &&& ~~~b).toNat) | _ => none
def intC (op : BinOp) (k : IntKind) (x : Int) (k' : IntKind) (y : Int) : Option C := match op with
 | .shl => if 0 <= y then some (.int k (k.wrap (x * 2 ^ (min y.toNat k.bits)))) else none
 | .shr => if 0 <= y then some (.int k (x.fdiv (2 ^ (min y.toNat k.bits)))) else none
 | .add => if k = k' then some (.int k (k.wrap (x + y))) else none
 | .sub => if k = k' then some (.int k (k.wrap (x - y))) else none
 | .mul => if k = k' then some (.int k (k.wrap (x * y))) else none
 | .quo => if k = k' /\ y ≠ 0 then some (.int k (k.wrap (x.tdiv y))) else none
 | .rem => if k = k' /\ y ≠ 0 then some (.int k (x.tmod y)) else none
 | .eql => if k = k' then some (.bool (x == y)) else none
 | .neq => if k = k' then some (.bool (x != y)) else none
 | .lss => if k = k' then some (.bool (decide (x < y))) else none
 | .leq => if k = k' then some (.bool (decide (x <= y))) else none
 | .gtr => if k = k' then some (.bool (decide (y < x))) else none
 | .geq => if k = k' then some (.bool (decide (y <= x))) else none
 | op => if k = k' then (bitsC op k x y).map (.int k) else none
theorem intC_ok {op : BinOp} {k k' : IntKind} {x y : Int} {c : C} (t : TypeId) (h : intC op k x k' y = some c) : ∃ v, RC σ D c v /\ (binOp op t (.int k x) (.int k' y)).run P w = .ok v w := by
 cases op <;> simp only [intC] at h
 case shl =>
  split at h
  ·rename_i hy; cases h
   exact ⟨_, rfl, by simp [binOp, Op.shift, show ¬ y < 0 by omega]⟩
  ·cases h
 case shr =>
  split at h
  ·rename_i hy; cases h
   exact ⟨_, rfl, by simp [binOp, Op.shift, show ¬ y < 0 by omega]⟩
  ·cases h
 case quo =>
  split at h
  ·rename_i hy; cases h; obtain ⟨rfl, hy⟩ := hy
   exact ⟨_, rfl, by simp [binOp, Op.intDiv, hy]⟩
  ·cases h
 case rem =>
  split at h
  ·rename_i hy; cases h; obtain ⟨rfl, hy⟩ := hy
   exact ⟨_, rfl, by simp [binOp, Op.intDiv, hy]⟩
  ·cases h
 all_goals
  split at h
  ·rename_i hk; subst hk
   first
    | (cases h; done)
    | (simp only [bitsC, Option.map_some, Option.map_none] at h; cases h; exact ⟨_, rfl, by simp only [binOp]; rw [if_neg (by simp)]; rfl⟩)
    | (cases h; exact ⟨_, rfl, by simp [binOp, Op.intArith, Op.intCmp]⟩)
    | (simp only [bitsC, Option.map_some, Option.map_none] at h; cases h; done)
  ·cases h
def strC (op : BinOp) (a b : List UInt8) : Option C := match op with
 | .eql => some (.bool (a == b)) | .neq => some (.bool (!(a == b))) | .lss => some (.bool (Op.bytesLess a b)) | .leq => some (.bool (Op.bytesLess a b || a == b))
 | .gtr => some (.bool (!(Op.bytesLess a b || a == b))) | .geq => some (.bool (!Op.bytesLess a b))
 | .add => if a.length + b.length <= 1000000000 then some (.str (a ++ b)) else none
 | _ => none
theorem strC_ok {op : BinOp} {a b : List UInt8} {c : C} (t : TypeId) (h : strC op a b = some c) : ∃ v, RC σ D c v /\ (binOp op t (.string ⟨a.toArray⟩) (.string ⟨b.toArray⟩)).run P w = .ok v w := by
 cases op <;> simp only [strC] at h <;> first | (cases h; done) | skip
 case add =>
  split at h
  ·rename_i hl
   cases h
   refine ⟨_, rfl, ?_⟩
   have e : (ByteArray.mk a.toArray ++ ByteArray.mk b.toArray) = ⟨(a ++ b).toArray⟩ := by
    apply ByteArray.ext
    simp
   have hm : ¬ (IntKind.i64.max < ((((ByteArray.mk a.toArray).size + (ByteArray.mk b.toArray).size : Nat)) : Int)) := by
    simp only [IntKind.max, IntKind.signed, IntKind.bits, ByteArray.size, List.size_toArray]
    omega
   simp only [binOp, Op.stringOp]
   rw [if_neg hm, e]
   rfl
  ·cases h
 all_goals
  cases h
  exact ⟨_, rfl, by simp [binOp, Op.stringOp]⟩
def eqC (op : BinOp) (b : Bool) : Option C := match op with | .eql => some (.bool b) | .neq => some (.bool (!b)) | _ => none
def othC (P : Program) (op : BinOp) (t : TypeId) (x y : C) : Option C := match x, y, P.underlying t with
 | .bool a, .bool b, some .bool => eqC op (a == b)
 | .sl _ _ _ _, .snil, some (.slice _) => eqC op false
 | .snil, .snil, some (.slice _) => eqC op true
 | .ptr _ _, .nilp, some (.pointer _) => eqC op false
 | .nilp, .nilp, some (.pointer _) => eqC op true
 | _, _, _ => none
theorem eqC_ok {op : BinOp} {b : Bool} {c : C} {t : TypeId} {x y : Value} (h : eqC op b = some c) (hb : ∀ op', op' = .eql ∨ op' = .neq -> binOp op' t x y = (match op' with | .eql => (do pure (.bool (<- Op.equal t x y))) | _ => (do pure (.bool (!(<- Op.equal t x y)))))) (he : (Op.equal t x y).run P w = .ok b w) : ∃ v, RC σ D c v /\ (binOp op t x y).run P w = .ok v w := by
 unfold eqC at h
 split at h
 ·cases h
  exact ⟨.bool b, rfl, by rw [hb .eql (.inl rfl)]; simp [he]⟩
 ·cases h
  exact ⟨.bool (!b), rfl, by rw [hb .neq (.inr rfl)]; simp [he]⟩
 ·cases h
theorem othC_ok {op : BinOp} {x y c : C} {t : TypeId} {a b : Value} (h : othC P op t x y = some c) (ha : RC σ D x a) (hb : RC σ D y b) : ∃ v, RC σ D c v /\ (binOp op t a b).run P w = .ok v w := by
 unfold othC at h
 split at h
 ·rename_i p q hu
  cases ha; cases hb
  refine eqC_ok h (fun op' ho => ?_) (run_equal_bool w t p q hu)
  rcases ho with rfl | rfl <;> rfl
 ·rename_i i off len cp el hu
  obtain ⟨_, cc, rfl⟩ := sl_val ha
  cases hb
  refine eqC_ok h (fun op' ho => ?_) (run_equal_slice_nil w t el _ len cc hu)
  rcases ho with rfl | rfl <;> rfl
 ·rename_i el hu
  cases ha; cases hb
  refine eqC_ok h (fun op' ho => ?_) (run_equal_slice_nil w t el none 0 0 hu)
  rcases ho with rfl | rfl <;> rfl
 ·rename_i i off el hu
  obtain ⟨_, rfl⟩ := ha
  cases hb
  refine eqC_ok h (fun op' ho => ?_) (run_equal_pointer_nil w t _ (by rw [hu]; simp [Program.pointee, hu]))
  rcases ho with rfl | rfl <;> rfl
 ·rename_i el hu
  cases ha; cases hb
  refine eqC_ok h (fun op' ho => ?_) (run_equal_pointer_nil w t _ (by rw [hu]; simp [Program.pointee, hu]))
  rcases ho with rfl | rfl <;> rfl
 ·cases h
def binC (P : Program) (op : BinOp) (t : TypeId) : C -> C -> Option C
 | .int k a, .int k' b => intC op k a k' b
 | .str a, .str b => strC op a b
 | x, y => othC P op t x y
def aBin (P : Program) (A : Operand -> Option S) (op : BinOp) (t : TypeId) (x y : Operand) : Option (S × Ef) := match S.c? (A x), S.c? (A y) with
 | some a, some b => (binC P op t a b).map fun c => (.v (.c c), .no 0)
 | _, _ => none
theorem guard_ok {op : BinOp} {t : TypeId} {x y : Operand} {a b : Value} (ha : a.oneCell' = true) (hn : a ≠ .nilIface) : (eqGuard op t x y a b).run P w = .ok () w := by
 unfold eqGuard
 cases op <;> first | rfl | (cases a <;> first | rfl | (exact absurd rfl hn) | (cases ha))
theorem bin_ok {op : BinOp} {t ty : TypeId} {x y : Operand} {s : S} {e : Ef} (ho : o.op = .binOp op t x y ty) (hA : Eqv σ D A ρ) (h : aBin P A op t x y = some (s, e)) (hs : Sat σ D (rst (tb e.F) H) w) : AOK P ρ o σ D w H n s e := by
 unfold aBin at h
 split at h
 ·rename_i a b hx hy
  rw [Option.map_eq_some_iff] at h
  obtain ⟨c, h1, h2⟩ := h
  cases h2
  have ha := hA.c hx
  have hb := hA.c hy
  have key : ρ x ≠ .nilIface /\ ∃ v, RC σ D c v /\ (binOp op t (ρ x) (ρ y)).run P w = .ok v w := by
   unfold binC at h1
   split at h1
   ·rename_i k p k' q
    rw [show ρ x = .int k p from ha, show ρ y = .int k' q from hb]
    exact ⟨by simp, intC_ok t h1⟩
   ·rename_i p q
    rw [show ρ x = .string ⟨p.toArray⟩ from ha, show ρ y = .string ⟨q.toArray⟩ from hb]
    exact ⟨by simp, strC_ok t h1⟩
   ·refine ⟨fun e => ?_, othC_ok h1 ha hb⟩
    rw [e] at ha
    unfold othC at h1
    split at h1 <;> first | (cases ha; done) | (cases h1; done) | (obtain ⟨_, h⟩ := ha; cases h; done) | (obtain ⟨_, _, h⟩ := sl_val ha; cases h; done)
  obtain ⟨hne, v, g1, g2⟩ := key
  refine ⟨.value v, v, _, _, did_no hs ?_ (.inl rfl) g1⟩
  unfold execOp; rw [ho]
  simp [guard_ok ha.one hne, g2]
 ·cases h
def aUn (A : Operand -> Option S) (op : UnOp) (x : Operand) : Option (S × Ef) := match op, S.c? (A x) with
 | .not, some (.bool b) => some (.v (.c (.bool (!b))), .no 0)
 | .neg, some (.int k n) => some (.v (.c (.int k (k.wrap (0 - n)))), .no 0)
 | .xor, some (.int k n) => (bitsC .xor k (if k.signed then -1 else k.max) n).map fun v => (.v (.c (.int k v)), .no 0)
 | _, _ => none
theorem un_ok {op : UnOp} {t : TypeId} {x : Operand} {s : S} {e : Ef} (ho : o.op = .unOp op t x) (hA : Eqv σ D A ρ) (h : aUn A op x = some (s, e)) (hs : Sat σ D (rst (tb e.F) H) w) : AOK P ρ o σ D w H n s e := by
 unfold aUn at h
 split at h
 ·rename_i b hx
  cases h
  have hp : ρ x = .bool b := hA.c hx
  exact ⟨.value _, .bool (!b), _, _, did_no hs (by unfold execOp; rw [ho]; simp [hp, Op.unary]) (.inl rfl) rfl⟩
 ·rename_i k m hx
  cases h
  have hp : ρ x = .int k m := hA.c hx
  exact ⟨.value _, .int k (k.wrap (0 - m)), _, _, did_no hs (by unfold execOp; rw [ho]; simp [hp, Op.unary, Op.intArith]) (.inl rfl) rfl⟩
 ·rename_i k m hx
  simp only [bitsC, Option.map_some, Option.some.injEq] at h
  cases h
  have hp : ρ x = .int k m := hA.c hx
  exact ⟨.value _, _, _, _, did_no hs (by unfold execOp; rw [ho]; simp [hp, Op.unary, Op.intBits]) (.inl rfl) rfl⟩
 ·cases h
def u8L : List C -> Option (List UInt8)
 | [] => some []
 | .int .u8 m :: l => if 0 <= m /\ m < 256 then (u8L l).map fun r => UInt8.ofNat m.toNat :: r else none
 | _ => none
theorem u8L_ok : ∀ {l : List C} {m : List Value} {r : List UInt8}, u8L l = some r -> RL σ D l m -> r.length = m.length /\ ∀ j (hj : j < r.length), m[j]? = some (.int .u8 (r[j].toNat : Int))
 | [], [], r, h, _ => by simp only [u8L, Option.some.injEq] at h; subst h; exact ⟨rfl, fun j hj => absurd hj (Nat.not_lt_zero _)⟩
 | .int .u8 k :: l, v :: m, r, h, hl => by
  simp only [u8L] at h
  split at h
  ·rename_i hk
   rw [Option.map_eq_some_iff] at h
   obtain ⟨r', h1, rfl⟩ := h
   obtain ⟨g1, g2⟩ := u8L_ok h1 hl.2
   refine ⟨by simp [g1], fun j hj => ?_⟩
   cases j with
   | zero =>
    rw [List.getElem?_cons_zero, show v = .int .u8 k from hl.1]
    congr 2
    simp only [List.getElem_cons_zero, UInt8.toNat_ofNat']
    omega
   | succ j => simpa using g2 j (by simpa using hj)
  ·cases h
def Kd.cells : Kd -> Bool | .mp _ => false | _ => true
theorem freeze_ok {i : Nat} {ob : AO} (h : ObjAt σ D i ob w) (hk : ob.k.cells = true) (off : Nat) :
  ∃ w', (markStringish (adr (σ i) off)).run P w = .ok () w' /\ ObjAt σ D i { ob with k := .rd } w' /\ Tch (fun k => k = (σ i).b) w w' := by
 have hc : ObjCells σ D i ob w := by
  unfold ObjAt at h
  split at h
  ·rename_i es e; rw [e] at hk; cases hk
  ·exact h
 obtain ⟨cur, fr, h1, h0, h2, h3, h4, h5⟩ := hc
 have hlt : (σ i).b < w.heap.size := (Array.getElem?_eq_some_iff.1 h1).1
 have hget : w.heap[(σ i).b] = .cells cur ob.ty fr := (Array.getElem?_eq_some_iff.1 h1).2
 refine ⟨w.freeze ⟨(σ i).b, cur.size, none⟩ 1, ?_, ?_, ?_⟩
 ·simp [markStringish, adr, World.shape?, h1]
 ·refine ⟨cur, (if fr.1 == fr.2 then (cur.size, cur.size + 1) else (min fr.1 cur.size, max fr.2 (cur.size + 1))), ?_, (fun e => by cases e), h2, h3, h4, h5⟩
  unfold World.freeze
  rw [if_neg (by decide)]
  show (w.heap.modify (σ i).b _)[(σ i).b]? = _
  rw [Array.getElem?_modify, if_pos rfl, h1]
  rfl
 ·refine ⟨by unfold World.freeze; split <;> rfl, by unfold World.freeze; split <;> rfl, by unfold World.freeze; split <;> rfl, by unfold World.freeze; split <;> simp, fun k hk hn => ?_⟩
  unfold World.freeze
  rw [if_neg (by decide)]
  show (w.heap.modify (σ i).b _)[k]? = _
  rw [Array.getElem?_modify, if_neg (fun e => hn e.symm)]
def aConv (P : Program) (H : Heap) (A : Operand -> Option S) (n : Nat) (src dst : TypeId) (x : Operand) : Option (S × Ef) := match P.underlying src, P.underlying dst, S.c? (A x) with
 | some (.int _), some (.int k), some (.int _ m) => some (.v (.c (.int k (k.wrap m))), .no 0)
 | some .string, some .string, some (.str b) => some (.v (.c (.str b)), .no 0)
 | some (.slice e), some .string, some (.sl i off len _) => match P.underlying e, H i with
  | some (.int .u8), some ob => ((ldC ob off len).bind u8L).map fun b => (.v (.c (.str b)), .no (one i))
  | _, _ => none
 | some (.slice e), some .string, some .snil => match P.underlying e with
  | some (.int .u8) => some (.v (.c (.str [])), .no 0)
  | _ => none
 | some (.slice e), some (.slice _), some (.sl i off len cp) => match P.underlying e, H i with
  | some (.int .u8), some ob => if src = dst /\ ob.k.cells = true then some (.v (.c (.sl i off len cp)), .set (one i) i { ob with k := .rd }) else none
  | _, _ => none
 | some .string, some (.slice e), some (.str b) => match P.underlying e with
  | some (.int .u8) => if b.length <= 1000000 then some (.v (.c (.sl n 0 b.length (.op 1))), .new 0 ⟨e, b.map fun u => C.int .u8 u.toNat, true, .rd⟩) else none
  | _ => none
 | _, _, _ => none
theorem conv_ok {src dst : TypeId} {x : Operand} {s : S} {e : Ef} (ho : o.op = .convert src dst x) (hA : Eqv σ D A ρ) (hD : n < e.n' n -> ¬ D n) (h : aConv P H A n src dst x = some (s, e)) (hs : Sat σ D (rst (tb e.F) H) w) : AOK P ρ o σ D w H n s e := by
 unfold aConv at h
 split at h
 ·rename_i k0 k k1 m h1 h2 hx
  cases h
  have hp : ρ x = .int k1 m := hA.c hx
  exact ⟨.value _, .int k (k.wrap m), _, _, did_no hs (by unfold execOp; rw [ho]; simp [hp, convert, run_underlying h1, run_underlying h2, Conv.intToInt]) (.inl rfl) rfl⟩
 ·rename_i b h1 h2 hx
  cases h
  have hp : ρ x = .string ⟨b.toArray⟩ := hA.c hx
  exact ⟨.value _, .string ⟨b.toArray⟩, _, _, did_no hs (by unfold execOp; rw [ho]; simp [hp, convert, run_underlying h1, run_underlying h2]) (.inl rfl) rfl⟩
 ·rename_i el i off len cp h1 h2 hx
  split at h
  ·rename_i ob h3 hob
   rw [Option.map_eq_some_iff] at h
   obtain ⟨b, g, h4⟩ := h
   cases h4
   rw [Option.bind_eq_some_iff] at g
   obtain ⟨l, g1, g2⟩ := g
   obtain ⟨hD, c, hp⟩ := sl_val (hA.c hx)
   obtain ⟨m, k1, k2, k3⟩ := ldC_ok (obj_of hs tb_one hob).2 g1
   obtain ⟨r1, r2⟩ := u8L_ok g2 k2
   have hbl : b.length = len := r1.trans k1
   have := run_convert_bytes_back (P := P) w src dst el (adr (σ i) off) c b h1 h3 h2 (fun j hj => k3 j _ (r2 j hj))
   rw [hbl] at this
   refine ⟨.value _, .string ⟨b.toArray⟩, _, _, did_no hs ?_ (.inl rfl) rfl⟩
   unfold execOp; rw [ho]
   simp [hp, this]
  ·cases h
 ·rename_i el h1 h2 hx
  split at h
  ·rename_i h3
   cases h
   have hp : ρ x = .slice none 0 0 := hA.c hx
   refine ⟨.value _, .string ⟨[].toArray⟩, _, _, did_no hs ?_ (.inl rfl) rfl⟩
   have := run_convert_bytes_nil (P := P) w src el h1 h3 0 0 dst h2
   unfold execOp; rw [ho]
   simp [hp, this]
   rfl
  ·cases h
 ·rename_i el el2 i off len cp h1 h2 hx
  split at h
  ·rename_i ob h3 hob
   split at h
   ·rename_i hc
    cases h
    obtain ⟨rfl, hk⟩ := hc
    rw [h1] at h2; cases h2
    obtain ⟨hD, c, hp⟩ := sl_val (hA.c hx)
    obtain ⟨w', k1, k2, k3⟩ := freeze_ok (P := P) (obj_of hs tb_one hob).2 hk off
    refine ⟨.value (ρ x), ρ x, _, _, did_set hs tb_one (by rw [hob]; rfl) ?_ (.inl rfl) (hA.c hx) k3 k2⟩
    unfold execOp; rw [ho]
    simp [hp, convert, run_underlying h1, run_underlying h3, k1]
   ·cases h
  ·cases h
 ·rename_i el b h1 h2 hx
  split at h
  ·rename_i h3
   split at h
   ·rename_i hbl
    cases h
    have hD' := hD (Nat.lt_succ_self n)
    have hp : ρ x = .string ⟨b.toArray⟩ := hA.c hx
    have hsz : (ByteArray.mk b.toArray).size = b.length := by simp [<- ByteArray.size_data]
    have hr := run_bytes_of_string (P := P) w src dst el ⟨b.toArray⟩ h1 h2 h3
    rw [hsz] at hr
    have hcap := grownCap_ge w b.length 0 el
    have hcle := grownCap_le_maxLen w b.length 0 el (by unfold maxLen; omega)
    have hrow : (bytesRow ⟨b.toArray⟩ (grownCap w b.length 0 el)).size = grownCap w b.length 0 el := by
     simp only [bytesRow, Array.size_append, Array.size_map, Array.size_replicate, List.size_toArray, hsz]; omega
    have hsm : ∀ j, D j -> at_ σ n ⟨w.heap.size, grownCap w b.length 0 el⟩ j = σ j := fun j hj => at_other (fun e => by subst e; exact hD' hj)
    refine ⟨_, .slice (some ⟨w.heap.size, 0, none⟩) b.length (grownCap w b.length 0 el), _, _, did_new (k := ⟨w.heap.size, grownCap w b.length 0 el⟩) (w' := w.drew.alloc (.cells (bytesRow ⟨b.toArray⟩ (grownCap w b.length 0 el)) el ((bytesRow ⟨b.toArray⟩ (grownCap w b.length 0 el)).size, (bytesRow ⟨b.toArray⟩ (grownCap w b.length 0 el)).size + 1))) hs hD' ?_ (.inl rfl) ?_ ((Tch.drew w).trans0 (Tch.alloc _ _)) (Nat.le_refl _) ?_⟩
    ·unfold execOp; rw [ho]; simp only [hp, Sem.run_bind, hr, Result.andThen_ok, Sem.run_pure]
    ·exact ⟨.inr ⟨Nat.le_refl _, Nat.lt_succ_self _⟩, _, by rw [at_same]; rfl, hcap, hcle, by rw [at_same]; simp⟩
    ·refine ⟨_, _, by rw [at_same]; exact heap_alloc_new w.drew _, (fun h => by cases h), by rw [at_same]; exact hrow, ?_, (fun h => by cases h), fun j c e => ?_⟩
     ·rw [at_same]; simpa using hcap
     ·rw [List.getElem?_map, Option.map_eq_some_iff] at e
      obtain ⟨u, g1, g2⟩ := e
      refine ⟨.int .u8 u.toNat, ?_, by rw [<- g2]; rfl⟩
      obtain ⟨hlt, hu⟩ := List.getElem?_eq_some_iff.1 g1
      unfold bytesRow
      rw [Array.getElem?_append_left (by simpa using hlt)]
      simp [g1]
   ·cases h
  ·cases h
 ·cases h
end
end Ev
end Go.Proofs.YtafndmnbnmlklaaGreat
