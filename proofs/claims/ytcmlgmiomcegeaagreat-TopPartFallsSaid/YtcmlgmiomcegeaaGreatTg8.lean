/- The texts EwB, EwK, EwL, EwF, EwX, EwH, EwY, one behind the other. No condition. -/
import Derived.Test.YtcmlgmiomcegeaaGreatTg3
namespace Go.Proofs.YtcmlgmiomcegeaaGreat.Ev
open Go Go.RowKit Go.Maps
set_option linter.unusedVariables false
set_option linter.unusedSimpArgs false
set_option linter.unusedSectionVars false
variable [Env]

abbrev KE := S → Ef → Bool
/-- What an operation yields, handed on. -/
def elP (x : Option (S × Ef)) (K : KE) : Bool := elO x (fun p => K p.1 p.2)
theorem elO_none {α : Type} (k : α → Bool) : elO (none : Option α) k = false := rfl
theorem elO_some {α : Type} (a : α) (k : α → Bool) : elO (some a) k = k a := rfl
/-! ### Cells by kind -/
noncomputable def kBoolU (c : C) (k : Bool → Bool) (u : Unit → Bool) : Bool := C.rec (motive := fun _ => (Bool → Bool) → (Unit → Bool) → Bool) (fun b k _ => k b) (fun _ _ _ _ => false) (fun _ _ _ => false) (fun _ _ _ _ => false) (fun _ _ => false) (fun _ _ _ _ _ _ => false) (fun _ _ => false) (fun _ _ => false) (fun _ _ _ _ => false) (fun _ _ => false) (fun _ _ _ => false) (fun _ _ => false) (fun _ _ => false) (fun _ _ _ _ _ => false) (fun _ _ _ => false) (fun _ _ _ => false) (fun _ _ _ _ _ => false) (fun _ _ _ _ => false) (fun _ _ _ => false) (fun _ u => u ()) (fun _ _ => false) c k u
noncomputable def kPtr (c : C) (k : Nat → Nat → Bool) : Bool := C.rec (motive := fun _ => (Nat → Nat → Bool) → Bool) (fun _ _ => false) (fun _ _ _ => false) (fun _ _ => false) (fun i off k => k i off) (fun _ => false) (fun _ _ _ _ _ => false) (fun _ => false) (fun _ => false) (fun _ _ _ => false) (fun _ => false) (fun _ _ => false) (fun _ => false) (fun _ => false) (fun _ _ _ _ => false) (fun _ _ => false) (fun _ _ => false) (fun _ _ _ _ => false) (fun _ _ _ => false) (fun _ _ => false) (fun _ => false) (fun _ => false) c k
noncomputable def kInt (c : C) (k : IntKind → Int → Bool) : Bool := C.rec (motive := fun _ => (IntKind → Int → Bool) → Bool) (fun _ _ => false) (fun kd n k => k kd n) (fun _ _ => false) (fun _ _ _ => false) (fun _ => false) (fun _ _ _ _ _ => false) (fun _ => false) (fun _ => false) (fun _ _ _ => false) (fun _ => false) (fun _ _ => false) (fun _ => false) (fun _ => false) (fun _ _ _ _ => false) (fun _ _ => false) (fun _ _ => false) (fun _ _ _ _ => false) (fun _ _ _ => false) (fun _ _ => false) (fun _ => false) (fun _ => false) c k
noncomputable def kBool (c : C) (k : Bool → Bool) : Bool := C.rec (motive := fun _ => (Bool → Bool) → Bool) (fun b k => k b) (fun _ _ _ => false) (fun _ _ => false) (fun _ _ _ => false) (fun _ => false) (fun _ _ _ _ _ => false) (fun _ => false) (fun _ => false) (fun _ _ _ => false) (fun _ => false) (fun _ _ => false) (fun _ => false) (fun _ => false) (fun _ _ _ _ => false) (fun _ _ => false) (fun _ _ => false) (fun _ _ _ _ => false) (fun _ _ _ => false) (fun _ _ => false) (fun _ => false) (fun _ => false) c k
/-! ### Lists, handed on -/
noncomputable def forceL {α : Type} (l : List α) (K : List α → Bool) : Bool := List.rec (motive := fun _ => (List α → Bool) → Bool) (fun K => K []) (fun c _ ih K => ih (fun r => K (c :: r))) l K
theorem forceL_eq {α : Type} : ∀ (l : List α) (K : List α → Bool), forceL l K = K l
  | [], _ => rfl
  | c :: l, K => forceL_eq l (fun r => K (c :: r))
noncomputable def takeK {α : Type} (k : Nat) (l : List α) (K : List α → Bool) : Bool := Nat.rec (motive := fun _ => List α → (List α → Bool) → Bool) (fun _ K => K []) (fun _ ih l K => List.rec (motive := fun _ => Bool) false (fun c l _ => ih l (fun r => K (c :: r))) l) k l K
theorem takeK_eq {α : Type} : ∀ (k : Nat) (l : List α) (K : List α → Bool), takeK k l K = (if k ≤ l.length then K (l.take k) else false)
  | 0, l, K => by rw [if_pos (Nat.zero_le _)]; rfl
  | k + 1, [], K => by rw [if_neg (by simp)]; rfl
  | k + 1, c :: l, K => by
    show takeK k l (fun r => K (c :: r)) = _
    rw [takeK_eq k l]
    by_cases h : k ≤ l.length
    · rw [if_pos h, if_pos (by simpa using h)]; rfl
    · rw [if_neg h, if_neg (by simpa using h)]
noncomputable def dropK {α : Type} (k : Nat) (l : List α) (K : List α → Bool) : Bool := Nat.rec (motive := fun _ => List α → Bool) K (fun _ ih l => List.rec (motive := fun _ => Bool) false (fun _ l _ => ih l) l) k l
theorem dropK_eq {α : Type} : ∀ (k : Nat) (l : List α) (K : List α → Bool), dropK k l K = (if k ≤ l.length then K (l.drop k) else false)
  | 0, l, K => by rw [if_pos (Nat.zero_le _)]; rfl
  | k + 1, [], K => by rw [if_neg (by simp)]; rfl
  | k + 1, c :: l, K => by
    show dropK k l K = _
    rw [dropK_eq k l]
    by_cases h : k ≤ l.length
    · rw [if_pos h, if_pos (by simpa using h)]; rfl
    · rw [if_neg h, if_neg (by simpa using h)]
noncomputable def overK {α : Type} (l cs : List α) (K : List α → Bool) : Bool := List.rec (motive := fun _ => List α → (List α → Bool) → Bool) (fun cs K => K cs) (fun c _ ih cs K => List.rec (motive := fun _ => Bool) false (fun _ cs _ => ih cs (fun r => K (c :: r))) cs) l cs K
theorem overK_eq {α : Type} : ∀ (l cs : List α) (K : List α → Bool), overK l cs K = (if l.length ≤ cs.length then K (l ++ cs.drop l.length) else false)
  | [], cs, K => by rw [if_pos (show ([] : List α).length ≤ cs.length from Nat.zero_le _)]; rfl
  | c :: l, [], K => by rw [if_neg (by simp)]; rfl
  | c :: l, d :: cs, K => by
    show overK l cs (fun r => K (c :: r)) = _
    rw [overK_eq l cs]
    by_cases h : l.length ≤ cs.length
    · rw [if_pos h, if_pos (by simpa using h)]; rfl
    · rw [if_neg h, if_neg (by simpa using h)]
noncomputable def setK {α : Type} (off : Nat) (l cs : List α) (K : List α → Bool) : Bool := Nat.rec (motive := fun _ => List α → (List α → Bool) → Bool) (fun cs K => overK l cs K) (fun _ ih cs K => List.rec (motive := fun _ => Bool) false (fun c cs _ => ih cs (fun r => K (c :: r))) cs) off cs K
theorem setK_eq {α : Type} : ∀ (off : Nat) (l cs : List α) (K : List α → Bool), setK off l cs K = (if off + l.length ≤ cs.length then K (cs.take off ++ l ++ cs.drop (off + l.length)) else false)
  | 0, l, cs, K => by show overK l cs K = _; rw [overK_eq, Nat.zero_add]; rfl
  | off + 1, l, [], K => by rw [if_neg (by simp)]; rfl
  | off + 1, l, c :: cs, K => by
    show setK off l cs (fun r => K (c :: r)) = _
    rw [setK_eq off l cs]
    by_cases h : off + l.length ≤ cs.length
    · rw [if_pos h, if_pos (by simp; omega), show off + 1 + l.length = off + l.length + 1 by omega]; rfl
    · rw [if_neg h, if_neg (by simp; omega)]
/-! ### Moves -/
noncomputable def mvK (A : TS) (x : Operand) (K : KE) : Bool := kO (eA A x) (fun s => K s (.no 0))
theorem mvK_eq (A : TS) (x : Operand) (K : KE) : mvK A x K = elP ((opA A x).map fun s => (s, .no 0)) K := by
  unfold mvK elP; rw [kO_eq, eA_eq, elO_map]
noncomputable def pickK (A : TS) (c x y : Operand) (K : KE) : Bool := kC (eA A c) (fun c => kBool c (fun b => kO (Bool.rec (motive := fun _ => Option S) (eA A y) (eA A x) b) (fun s => K s (.no 0))))
theorem pickK_eq (A : TS) (c x y : Operand) (K : KE) : pickK A c x y K = elP (aPick (opA A) c x y) K := by
  unfold pickK elP aPick
  rw [kC_eq, eA_eq, eA_eq, eA_eq]
  cases S.c? (opA A c) with
  | none => rfl
  | some c =>
    cases c with
    | bool b =>
      show kO _ _ = elO ((if b = true then opA A x else opA A y).map _) _
      rw [kO_eq, elO_map]
      cases b <;> rfl
    | _ => rfl
noncomputable def extK (A : TS) (x : Operand) (i : Nat) (K : KE) : Bool := kO (eA A x) (fun s => S.rec (motive := fun _ => Bool) (fun _ => false) (fun l => kO (nthL l i) (fun v => K (.v v) (.no 0))) false s)
theorem extK_eq (A : TS) (x : Operand) (i : Nat) (K : KE) : extK A x i K = elP (aExt (opA A) x i) K := by
  unfold extK elP aExt
  rw [kO_eq, eA_eq]
  cases opA A x with
  | none => rfl
  | some s =>
    cases s with
    | tup l => show kO _ _ = elO ((l[i]?).map _) _; rw [kO_eq, nthL_eq, elO_map]
    | v v => rfl
    | un => rfl
noncomputable def nilK (A : TS) (x : Operand) (K : KE) : Bool := kC (eA A x) (fun c => C.rec (motive := fun _ => Bool) (fun _ => false) (fun _ _ => false) (fun _ => false) (fun i off => K (.v (.c (.ptr i off))) (.no 0)) false (fun _ _ _ _ => false) false false (fun f cap => K (.v (.c (.fn f cap))) (.no 0)) false (fun _ => false) false false (fun f i off => K (.v (.c (.bm f i off))) (.no 0)) (fun _ => false) (fun _ => false) (fun _ _ _ => false) (fun _ _ => false) (fun _ => false) false false c)
theorem nilK_eq (A : TS) (x : Operand) (K : KE) : nilK A x K = elP (aNil (opA A) x) K := by
  unfold nilK elP aNil
  rw [kC_eq, eA_eq]
  cases S.c? (opA A x) with
  | none => rfl
  | some c => cases c <;> rfl
/-! ### Loads, stores, places -/
/-- A place, or one of a row from outside. -/
noncomputable def kPX (c : C) (k r : Nat → Nat → Bool) : Bool := C.rec (motive := fun _ => (Nat → Nat → Bool) → (Nat → Nat → Bool) → Bool) (fun _ _ _ => false) (fun _ _ _ _ => false) (fun _ _ _ => false) (fun i off k _ => k i off) (fun _ _ => false) (fun _ _ _ _ _ _ => false) (fun _ _ => false) (fun _ _ => false) (fun _ _ _ _ => false) (fun _ _ => false) (fun _ _ _ => false) (fun _ _ => false) (fun _ _ => false) (fun _ _ _ _ _ => false) (fun _ _ _ => false) (fun _ _ _ => false) (fun _ _ _ _ _ => false) (fun i j _ r => r i j) (fun _ _ _ => false) (fun _ _ => false) (fun _ _ => false) c k r
noncomputable def loadK (P : Program) (H : HT) (A : TS) (t : TypeId) (x : Operand) (K : KE) : Bool := kC (eA A x) (fun c => kPX c (fun i off => kO (HT.get H i) (fun ob => kO (isAg P t) (fun b => Bool.rec (motive := fun _ => Bool) (kO (nthL ob.cs off) (fun c => K (.v (.c c)) (.no (one i)))) (kO (szOf P t) (fun k => dropK off ob.cs (fun l => takeK k l (fun l => K (.v (.agg l)) (.no (one i)))))) b))) (fun i j => kO (aLdR P (hg H) t i j) (fun c => K (.v (.c c)) (.no (one i)))))
theorem dropTake {α : Type} (off k : Nat) (l : List α) (K : List α → Bool) : dropK off l (fun l => takeK k l K) = elO (if off + k ≤ l.length then some ((l.drop off).take k) else none) K := by
  rw [dropK_eq]
  by_cases h : off + k ≤ l.length
  · rw [if_pos (by omega), takeK_eq, if_pos (by simp; omega), if_pos h]; rfl
  · rw [if_neg h]
    by_cases h2 : off ≤ l.length
    · rw [if_pos h2, takeK_eq, if_neg (by simp; omega)]; rfl
    · rw [if_neg h2]; rfl
theorem loadK_eq (P : Program) (H : HT) (A : TS) (t : TypeId) (x : Operand) (K : KE) : loadK P H A t x K = elP (aLoad P (hg H) (opA A) t x) K := by
  unfold loadK elP aLoad
  rw [kC_eq, eA_eq]
  cases S.c? (opA A x) with
  | none => rfl
  | some c =>
    cases c with
    | ptr i off =>
      show kO (HT.get H i) _ = elO ((aLd P (hg H) t i off).map _) _
      rw [kO_eq, elO_map]
      unfold aLd
      show _ = elO (match HT.get H i with | some ob => _ | none => none) _
      cases HT.get H i with
      | none => rfl
      | some ob =>
        show kO (isAg P t) _ = elO (match isAg P t with | some true => _ | some false => _ | none => none) _
        rw [kO_eq]
        cases isAg P t with
        | none => rfl
        | some b =>
          cases b with
          | true =>
            show kO (szOf P t) _ = elO (match szOf P t with | some k => _ | none => none) _
            rw [kO_eq]
            cases szOf P t with
            | none => rfl
            | some k =>
              show dropK _ _ _ = elO ((ldC ob off k).map _) _
              rw [dropTake, elO_map]; rfl
          | false =>
            show kO _ _ = elO ((ob.cs[off]?).map _) _
            rw [kO_eq, nthL_eq, elO_map]
    | xp i k =>
      show kO (aLdR P (hg H) t i k) _ = elO ((aLdR P (hg H) t i k).map _) _
      rw [kO_eq, elO_map]
    | _ => rfl
noncomputable def kV (s : Option S) (k : V → Bool) : Bool := Option.rec (motive := fun _ => (V → Bool) → Bool) (fun _ => false) (fun s k => S.rec (motive := fun _ => Bool) k (fun _ => false) false s) s k
theorem kV_eq (s : Option S) (k : V → Bool) : kV s k = elO (S.v? s) k := by
  cases s with
  | none => rfl
  | some s => cases s <;> rfl
noncomputable def lenF {α : Type} (l : List α) : Nat := List.rec (motive := fun _ => Nat → Nat) (fun n => n) (fun _ _ ih n => ih (Nat.succ n)) l 0
theorem lenF_go {α : Type} : ∀ (l : List α) (n : Nat), (List.rec (motive := fun _ => Nat → Nat) (fun n => n) (fun _ _ ih n => ih (Nat.succ n)) l n : Nat) = n + l.length
  | [], n => rfl
  | c :: l, n => by
    show (List.rec (motive := fun _ => Nat → Nat) (fun n => n) (fun _ _ ih n => ih (Nat.succ n)) l (Nat.succ n) : Nat) = _
    rw [lenF_go l]; simp; omega
theorem lenF_eq {α : Type} (l : List α) : lenF l = l.length := by unfold lenF; rw [lenF_go]; omega
noncomputable def vCells (v : V) : List C := V.rec (motive := fun _ => List C) (fun x => [x]) (fun l => l) v
theorem vCells_eq (v : V) : vCells v = v.cells := by cases v <;> rfl
noncomputable def okB (ob : AO) : Bool := Kd.rec (motive := fun _ => Bool) true false (fun _ _ => false) (fun _ _ _ _ => false) (fun _ _ => false) (fun _ _ => false) ob.k
theorem okB_eq (ob : AO) : okB ob = !ob.fz := by
  unfold okB AO.fz
  cases ob.k <;> rfl
noncomputable def storeK (P : Program) (H : HT) (A : TS) (t : TypeId) (x y : Operand) (K : KE) : Bool := kC (eA A x) (fun c => kPtr c (fun i off => kV (eA A y) (fun v => kO (HT.get H i) (fun ob => kO (szOf P t) (fun z => Bool.rec (motive := fun _ => Bool) false (setK off (vCells v) ob.cs (fun cs => K .un (.set (one i) i { ob with cs := cs }))) (andB (Nat.beq z (lenF (vCells v))) (okB ob)))))))
theorem storeK_eq (P : Program) (H : HT) (A : TS) (t : TypeId) (x y : Operand) (K : KE) : storeK P H A t x y K = elP (aStore P (hg H) (opA A) t x y) K := by
  unfold storeK elP aStore
  rw [kC_eq, eA_eq, eA_eq]
  cases S.c? (opA A x) with
  | none => rfl
  | some c =>
    cases c with
    | ptr i off =>
      show kV (opA A y) _ = elO (match some (C.ptr i off), S.v? (opA A y) with | some (.ptr i off), some v => _ | _, _ => none) _
      rw [kV_eq]
      cases S.v? (opA A y) with
      | none => rfl
      | some v =>
        show kO (HT.get H i) _ = elO (match HT.get H i with | some ob => _ | none => none) _
        rw [kO_eq]
        cases HT.get H i with
        | none => rfl
        | some ob =>
          show kO (szOf P t) _ = elO (if szOf P t = some v.cells.length then _ else none) _
          rw [kO_eq]
          cases szOf P t with
          | none => rw [if_neg (by simp)]; rfl
          | some z =>
            show Bool.rec (motive := fun _ => Bool) false (setK off (vCells v) ob.cs _) (andB (Nat.beq z (lenF (vCells v))) (okB ob)) = _
            rw [andB_eq, lenF_eq, vCells_eq, okB_eq, beq_eq]
            by_cases h : z = v.cells.length
            · rw [if_pos (by rw [h]), decide_eq_true h, Bool.true_and, elO_map]
              unfold wrC
              by_cases hf : ob.fz = false
              · rw [hf]
                show setK _ _ _ _ = _
                rw [setK_eq]
                by_cases h2 : off + v.cells.length ≤ ob.cs.length
                · rw [if_pos h2, if_pos ⟨h2, rfl⟩]; rfl
                · rw [if_neg h2, if_neg (fun h3 => h2 h3.1)]; rfl
              · have hf' : ob.fz = true := by cases e : ob.fz with | true => rfl | false => exact absurd e hf
                rw [hf', if_neg (by simp)]; rfl
            · rw [if_neg (by intro e; exact h (Option.some.inj e)), decide_eq_false h]; rfl
    | _ => rfl
/-- The place of a field, as far as the type tells it. -/
noncomputable def faOff (P : Program) (t : TypeId) (f : Nat) : Option Nat := match P.underlying t with
  | some (.struct fs) => match fs[f]? with
    | some fd => match szOf P fd.type with
      | some (_ + 1) => some fd.offset
      | _ => none
    | none => none
  | _ => none
noncomputable def faK (P : Program) (A : TS) (t : TypeId) (x : Operand) (f : Nat) (K : KE) : Bool := kC (eA A x) (fun c => kPtr c (fun i off => kO (faOff P t f) (fun d => forceN (Nat.add off d) (fun o => K (.v (.c (.ptr i o))) (.no 0)))))
theorem faK_eq (P : Program) (A : TS) (t : TypeId) (x : Operand) (f : Nat) (K : KE) : faK P A t x f K = elP (aFa P (opA A) t x f) K := by
  unfold faK elP aFa
  rw [kC_eq, eA_eq]
  cases S.c? (opA A x) with
  | none => rfl
  | some c =>
    cases c with
    | ptr i off =>
      show kO (faOff P t f) _ = _
      rw [kO_eq]
      unfold faOff
      cases P.underlying t with
      | none => rfl
      | some d =>
        cases d with
        | struct fs =>
          show elO (match fs[f]? with | some fd => _ | none => none) _ = elO (match fs[f]? with | some fd => _ | none => none) _
          cases fs[f]? with
          | none => rfl
          | some fd =>
            show elO (match szOf P fd.type with | some (_ + 1) => _ | _ => none) _ = elO (match szOf P fd.type with | some (_ + 1) => _ | _ => none) _
            cases szOf P fd.type with
            | none => rfl
            | some k => cases k <;> rfl
        | _ => rfl
    | _ => cases P.underlying t <;> rfl
/-- How many cells an element of a slice has, as far as the type tells it. -/
noncomputable def slSz (P : Program) (t : TypeId) : Option Nat := match P.underlying t with
  | some (.slice el) => szOf P el
  | _ => none
noncomputable def iaK (P : Program) (H : HT) (n : Nat) (A : TS) (t : TypeId) (x y : Operand) (K : KE) : Bool := kC (eA A x) (fun c => C.rec (motive := fun _ => Bool) (fun _ => false) (fun _ _ => false) (fun _ => false) (fun _ _ => elP (aIa P (opA A) t x y) K) false
  (fun i off len _ => kC (eA A y) (fun c => kInt c (fun _ k => kO (slSz P t) (fun sz => Int.rec (motive := fun _ => Bool) (fun m => Bool.rec (motive := fun _ => Bool) false (forceN (Nat.add off (Nat.mul m sz)) (fun o => K (.v (.c (.ptr i o))) (.no 0))) (Nat.ble (Nat.succ m) len)) (fun _ => false) k)))) false false (fun _ _ => false) false (fun _ => false) false false (fun _ _ _ => false) (fun _ => false) (fun _ => false) (fun _ _ _ => elP (aIa P (opA A) t x y) K) (fun _ _ => false) (fun _ => false) false false c)
theorem iaK_eq (P : Program) (H : HT) (n : Nat) (A : TS) (t : TypeId) (x y : Operand) (K : KE) : iaK P H n A t x y K = elP (aIa P (opA A) t x y) K := by
  unfold iaK
  rw [kC_eq, eA_eq, eA_eq]
  cases hx : S.c? (opA A x) with
  | none => unfold elP aIa; rw [hx]; rfl
  | some c =>
    cases c with
    | ptr i off => rfl
    | sl i off len cp =>
      show kC (opA A y) _ = _
      rw [kC_eq]
      unfold elP aIa
      rw [hx]
      cases S.c? (opA A y) with
      | none => rfl
      | some c =>
        cases c with
        | int kd k =>
          show kO (slSz P t) _ = _
          rw [kO_eq]
          unfold slSz
          cases P.underlying t with
          | none => rfl
          | some d =>
            cases d with
            | slice el =>
              show elO (szOf P el) _ = elO (match szOf P el with | some sz => _ | none => none) _
              cases szOf P el with
              | none => rfl
              | some sz =>
                show Int.rec (motive := fun _ => Bool) _ _ k = elO (if 0 ≤ k ∧ k < len then _ else none) _
                cases k with
                | ofNat m =>
                  show Bool.rec (motive := fun _ => Bool) false _ (Nat.ble (Nat.succ m) len) = _
                  rw [ble_eq]
                  by_cases h : m < len
                  · rw [decide_eq_true (show Nat.succ m ≤ len from h), if_pos (by rw [Int.ofNat_eq_natCast]; omega)]; rfl
                  · rw [decide_eq_false (show ¬ Nat.succ m ≤ len from h), if_neg (by rw [Int.ofNat_eq_natCast]; omega)]; rfl
                | negSucc m => rw [if_neg (by rw [Int.negSucc_eq]; omega)]; rfl
            | _ => rfl
        | _ => rfl
    | _ => (unfold elP aIa; rw [hx]; cases S.c? (opA A y) <;> cases P.underlying t <;> rfl)
/-! ### Numbers -/
/-- The kind of a type of numbers. -/
noncomputable def inK (P : Program) (t : TypeId) : Option IntKind := match P.underlying t with | some (.int k) => some k | _ => none
noncomputable def convK (P : Program) (H : HT) (n : Nat) (A : TS) (s d : TypeId) (x : Operand) (K : KE) : Bool := Option.rec (motive := fun _ => Bool) (elP (aConv P (hg H) (opA A) n s d x) K) (fun _ => Option.rec (motive := fun _ => Bool) (elP (aConv P (hg H) (opA A) n s d x) K) (fun k => kC (eA A x) (fun c => kInt c (fun _ m => fI (wrapF k m) (fun r => K (.v (.c (.int k r))) (.no 0))))) (inK P d)) (inK P s)
theorem convK_eq (P : Program) (H : HT) (n : Nat) (A : TS) (s d : TypeId) (x : Operand) (K : KE) : convK P H n A s d x K = elP (aConv P (hg H) (opA A) n s d x) K := by
  unfold convK
  cases h1 : inK P s with
  | none => rfl
  | some k1 =>
    cases h2 : inK P d with
    | none => rfl
    | some k2 =>
      have u1 : P.underlying s = some (.int k1) := by
        unfold inK at h1
        split at h1
        · rename_i k e; rw [e]; cases h1; rfl
        · cases h1
      have u2 : P.underlying d = some (.int k2) := by
        unfold inK at h2
        split at h2
        · rename_i k e; rw [e]; cases h2; rfl
        · cases h2
      show kC (eA A x) _ = _
      rw [kC_eq, eA_eq]
      unfold elP aConv
      rw [u1, u2]
      cases S.c? (opA A x) with
      | none => rfl
      | some c =>
        cases c with
        | int kd m =>
          show fI (wrapF k2 m) (fun r => K (.v (.c (.int k2 r))) (.no 0)) = K (.v (.c (.int k2 (k2.wrap m)))) (.no 0)
          rw [fI_eq, wrapF_eq]
        | _ => rfl
/-- Two numbers. -/
noncomputable def intK (op : BinOp) (k : IntKind) (x : Int) (k' : IntKind) (y : Int) (K : C → Bool) : Bool := BinOp.rec (motive := fun _ => (IntKind → Int → IntKind → Int → (C → Bool) → Bool) → IntKind → Int → IntKind → Int → (C → Bool) → Bool)
  (fun _ k x k' y K => ite (k = k') (fI (wrapF k (addF x y)) (fun r => K (.int k r))) false)
  (fun _ k x k' y K => ite (k = k') (fI (wrapF k (subF x y)) (fun r => K (.int k r))) false)
  (fun g => g) (fun g => g) (fun g => g) (fun g => g) (fun g => g) (fun g => g) (fun g => g) (fun g => g) (fun g => g)
  (fun _ k x k' y K => ite (k = k') (K (.bool (eqF x y))) false)
  (fun _ k x k' y K => ite (k = k') (K (.bool (notB (eqF x y)))) false)
  (fun _ k x k' y K => ite (k = k') (K (.bool (notB (leF y x)))) false)
  (fun _ k x k' y K => ite (k = k') (K (.bool (leF x y))) false)
  (fun _ k x k' y K => ite (k = k') (K (.bool (notB (leF x y)))) false)
  (fun _ k x k' y K => ite (k = k') (K (.bool (leF y x))) false)
  op (fun k x k' y K => kO (intC op k x k' y) K) k x k' y K
theorem intK_eq (op : BinOp) (k : IntKind) (x : Int) (k' : IntKind) (y : Int) (K : C → Bool) : intK op k x k' y K = elO (intC op k x k' y) K := by
  have key : ∀ (p : Prop) [Decidable p] (c : C) (b : Bool), (p → b = K c) → ite p b false = elO (if p then some c else none) K := fun p _ c b h => by
    by_cases hp : p
    · rw [if_pos hp, if_pos hp]; exact h hp
    · rw [if_neg hp, if_neg hp]; rfl
  cases op
  case add => exact key _ _ _ (fun _ => by rw [fI_eq, wrapF_eq, addF_eq])
  case sub => exact key _ _ _ (fun _ => by rw [fI_eq, wrapF_eq, subF_eq])
  case eql => exact key _ _ _ (fun _ => by rw [eqF_eq])
  case neq => exact key _ _ _ (fun _ => by rw [eqF_eq, notB_eq]; rfl)
  case lss => exact key _ _ _ (fun _ => by rw [ltF_eq])
  case leq => exact key _ _ _ (fun _ => by rw [leF_eq])
  case gtr => exact key _ _ _ (fun _ => by rw [ltF_eq])
  case geq => exact key _ _ _ (fun _ => by rw [leF_eq])
  all_goals exact kO_eq _ _
/-- A number, or else. -/
noncomputable def kI (s : Option S) (g : Bool) (k : IntKind → Int → Bool) : Bool := Option.rec (motive := fun _ => Bool → (IntKind → Int → Bool) → Bool) (fun g _ => g) (fun s g k => S.rec (motive := fun _ => Bool) (fun v => V.rec (motive := fun _ => Bool) (fun c => C.rec (motive := fun _ => Bool → (IntKind → Int → Bool) → Bool) (fun _ g _ => g) (fun kd n _ k => k kd n) (fun _ g _ => g) (fun _ _ g _ => g) (fun g _ => g) (fun _ _ _ _ g _ => g) (fun g _ => g) (fun g _ => g) (fun _ _ g _ => g) (fun g _ => g) (fun _ g _ => g) (fun g _ => g) (fun g _ => g) (fun _ _ _ g _ => g) (fun _ g _ => g) (fun _ g _ => g) (fun _ _ _ g _ => g) (fun _ _ g _ => g) (fun _ g _ => g) (fun g _ => g) (fun g _ => g) c g k) (fun _ => g) v) (fun _ => g) g s) s g k
theorem kI_ne {s : Option S} {g : Bool} {k : IntKind → Int → Bool} {b : Bool} (h1 : ∀ kd n, s = some (.v (.c (.int kd n))) → k kd n = b) (h2 : g = b) : kI s g k = b := by
  cases s with
  | none => exact h2
  | some s =>
    cases s with
    | tup l => exact h2
    | un => exact h2
    | v v =>
      cases v with
      | agg l => exact h2
      | c c =>
        cases c with
        | int kd n => exact h1 kd n rfl
        | _ => exact h2
noncomputable def binK (P : Program) (A : TS) (op : BinOp) (t : TypeId) (x y : Operand) (K : KE) : Bool := kI (eA A x) (elP (aBin2 P (opA A) op t x y) K) (fun k a => kI (eA A y) (elP (aBin2 P (opA A) op t x y) K) (fun k' b => intK op k a k' b (fun c => K (.v (.c c)) (.no 0))))
theorem binK_eq (P : Program) (A : TS) (op : BinOp) (t : TypeId) (x y : Operand) (K : KE) : binK P A op t x y K = elP (aBin2 P (opA A) op t x y) K := by
  unfold binK
  refine kI_ne (fun k a hx => kI_ne (fun k' b hy => ?_) rfl) rfl
  rw [eA_eq] at hx hy
  rw [intK_eq]
  unfold elP aBin2 aBin
  rw [hx, hy]
  show _ = elO (match (binC P op t (.int k a) (.int k' b)).map (fun c => (S.v (V.c c), Ef.no 0)) with | some r => some r | none => aBinS P (opA A) op t x y) _
  show _ = elO (match (intC op k a k' b).map (fun c => (S.v (V.c c), Ef.no 0)) with | some r => some r | none => aBinS P (opA A) op t x y) _
  cases intC op k a k' b with
  | some c => rfl
  | none =>
    show _ = elO (aBinS P (opA A) op t x y) _
    unfold aBinS
    rw [hx]
    rfl
/-! ### How long -/
noncomputable def lenK (P : Program) (A : TS) (t : TypeId) (x : Operand) (K : KE) : Bool := kO (slSz P t) (fun _ => false)
end Go.Proofs.YtcmlgmiomcegeaaGreat.Ev
namespace Go.Proofs.YtcmlgmiomcegeaaGreat.Ev
open Go Go.RowKit Go.Maps
set_option linter.unusedVariables false
set_option linter.unusedSimpArgs false
set_option linter.unusedSectionVars false
variable [Env]

abbrev KR := S → HT → Nat → Nat → Nat → Bool
def elR (x : Option (S × HT × Nat × Nat × Nat)) (k : KR) : Bool := match x with | some (s, H, n, F, W) => k s H n F W | none => false
structure CallK where
  call : FuncId → List S → HT → Nat → KR → Bool
  xo : BinOp → C → C → Option C
/-- The two ways of calling agree. -/
def AgreeK (callK : CallK) (call : CallF) : Prop := (∀ f args H n k, callK.call f args H n k = elR (call.call f args H n) k) ∧ callK.xo = call.xo
/-! ### Effects -/
noncomputable def someF {α : Type} (x : Option α) : Bool := Option.rec (motive := fun _ => Bool) false (fun _ => true) x
theorem someF_eq {α : Type} (x : Option α) : someF x = x.isSome := by cases x <;> rfl
noncomputable def effK (n : Nat) (H : HT) (s : S) (e : Ef) (k : KR) : Bool := Ef.rec (motive := fun _ => Nat → HT → S → KR → Bool) (fun F n H s k => k s H n F 0)
  (fun F o n H s k => HT.putK H n (some o) (fun H => forceN (Nat.add n 1) (fun n => k s H n F 0)))
  (fun F i o n H s k => Bool.rec (motive := fun _ => Bool) false (HT.putK H i (some o) (fun H => k s H n F (one i))) (andB (someF (HT.get H i)) (andB (Nat.testBit F i) (Nat.ble (Nat.succ i) n))))
  (fun F i o n H s k => Bool.rec (motive := fun _ => Bool) false (HT.putK H i none (fun H => HT.putK H n (some o) (fun H => forceN (Nat.add n 1) (fun n => k s H n F (one i))))) (andB (someF (HT.get H i)) (andB (Nat.testBit F i) (Nat.ble (Nat.succ i) n)))) e n H s k
theorem effK_eq (n : Nat) (H : HT) (s : S) (e : Ef) (k : KR) : effK n H s e k = elR (if e.chk n H then (e.apT n H).map fun H' => (s, H', e.n' n, e.F, e.Wm) else none) k := by
  have hc : ∀ (F i : Nat), andB (someF (HT.get H i)) (andB (Nat.testBit F i) (Nat.ble (Nat.succ i) n)) = ((hg H i).isSome && tb F i && decide (i < n)) := fun F i => by
    rw [andB_eq, andB_eq, someF_eq, ble_eq, ← Bool.and_assoc]; rfl
  cases e with
  | no F => rfl
  | new F o =>
    show HT.putK H n (some o) (fun H => k s H (n + 1) F 0) = elR ((HT.put H n (some o)).map _) k
    rw [HT.putK_eq]
    cases HT.put H n (some o) <;> rfl
  | set F i o =>
    show Bool.rec (motive := fun _ => Bool) false _ (andB (someF (HT.get H i)) (andB (Nat.testBit F i) (Nat.ble (Nat.succ i) n))) = elR (if ((hg H i).isSome && tb F i && decide (i < n)) = true then (HT.put H i (some o)).map _ else none) k
    rw [hc]
    cases ((hg H i).isSome && tb F i && decide (i < n)) with
    | false => rfl
    | true =>
      show HT.putK H i (some o) _ = elR ((HT.put H i (some o)).map _) k
      rw [HT.putK_eq]
      cases HT.put H i (some o) <;> rfl
  | mv F i o =>
    show Bool.rec (motive := fun _ => Bool) false _ (andB (someF (HT.get H i)) (andB (Nat.testBit F i) (Nat.ble (Nat.succ i) n))) = elR (if ((hg H i).isSome && tb F i && decide (i < n)) = true then (match HT.put H i none with | some t1 => HT.put t1 n (some o) | none => none).map _ else none) k
    rw [hc]
    cases ((hg H i).isSome && tb F i && decide (i < n)) with
    | false => rfl
    | true =>
      show HT.putK H i none _ = elR ((match HT.put H i none with | some t1 => HT.put t1 n (some o) | none => none).map _) k
      rw [HT.putK_eq]
      cases HT.put H i none with
      | none => rfl
      | some t1 =>
        show HT.putK t1 n (some o) (fun H => k s H (n + 1) F (one i)) = elR ((HT.put t1 n (some o)).map _) k
        rw [HT.putK_eq]
        cases HT.put t1 n (some o) <;> rfl
/-- Objects laid out cell by cell. -/
noncomputable def frcK (e : Ef) (k : Ef → Bool) : Bool := Ef.rec (motive := fun _ => (Ef → Bool) → Bool) (fun F k => k (.no F)) (fun F o k => forceL o.cs (fun l => k (.new F { o with cs := l }))) (fun F i o k => forceL o.cs (fun l => k (.set F i { o with cs := l }))) (fun F i o k => forceL o.cs (fun l => k (.mv F i { o with cs := l }))) e k
theorem frcK_eq (e : Ef) (k : Ef → Bool) : frcK e k = k e := by
  cases e with
  | no F => rfl
  | new F o => exact forceL_eq _ _
  | set F i o => exact forceL_eq _ _
  | mv F i o => exact forceL_eq _ _
/-! ### Operations -/
noncomputable def genK (P : Program) (H : HT) (n : Nat) (A : TS) (o : Oper) (k : KR) : Bool := kO (aop P (hg H) n (eA A) o) (fun p => Prod.rec (motive := fun _ => Bool) (fun s e => frcK e (fun e => effK n H s e k)) p)
noncomputable def argsK (A : TS) (l : List Operand) (K : List S → Bool) : Bool := List.rec (motive := fun _ => (List S → Bool) → Bool) (fun K => K []) (fun x _ ih K => kO (eA A x) (fun s => ih (fun m => K (s :: m)))) l K
theorem argsK_eq (A : TS) : ∀ (l : List Operand) (K : List S → Bool), argsK A l K = elO (absArgs (opA A) l) K
  | [], K => rfl
  | x :: l, K => by
    show kO (eA A x) (fun s => argsK A l (fun m => K (s :: m))) = _
    rw [kO_eq, eA_eq]
    simp only [absArgs]
    cases opA A x with
    | none => rfl
    | some s =>
      show argsK A l _ = _
      rw [argsK_eq A l]
      cases absArgs (opA A) l <;> rfl
noncomputable def kFn (c : C) (k : FuncId → List (Nat × Nat) → Bool) (b : FuncId → Nat → Nat → Bool) : Bool := C.rec (motive := fun _ => (FuncId → List (Nat × Nat) → Bool) → (FuncId → Nat → Nat → Bool) → Bool) (fun _ _ _ => false) (fun _ _ _ _ => false) (fun _ _ _ => false) (fun _ _ _ _ => false) (fun _ _ => false) (fun _ _ _ _ _ _ => false) (fun _ _ => false) (fun _ _ => false) (fun f cap k _ => k f cap) (fun _ _ => false) (fun _ _ _ => false) (fun _ _ => false) (fun _ _ => false) (fun f i off _ b => b f i off) (fun _ _ _ => false) (fun _ _ _ => false) (fun _ _ _ _ _ => false) (fun _ _ _ _ => false) (fun _ _ _ => false) (fun _ _ => false) (fun _ _ => false) c k b
noncomputable def callOpK (call : CallK) (P : Program) (H : HT) (n : Nat) (A : TS) (o : Oper) (c : Call) (k : KR) : Bool := Callee.rec (motive := fun _ => CallK → Program → HT → Nat → TS → Oper → List Operand → KR → Bool)
  (fun x call P H n A o l k => kC (eA A x) (fun f => kFn f (fun f caps => argsK A l (fun l => call.call f (l ++ caps.map fun p => S.v (.c (.ptr p.1 p.2))) H n k)) (fun f i off => argsK A l (fun l => call.call f (S.v (.c (.ptr i off)) :: l) H n k))))
  (fun _ _ call P H n A o l k => genK P H n A o k) (fun _ call P H n A o l k => genK P H n A o k) c.callee call P H n A o c.args.toList k
noncomputable def xoK (call : CallK) (H : HT) (n : Nat) (A : TS) (op : BinOp) (x y : Operand) (k : KR) : Bool := kC (eA A x) (fun a => kC (eA A y) (fun b => kO (xoC call.xo op a b) (fun c => k (.v (.c c)) H n 0 0)))
noncomputable def genB (call : CallK) (P : Program) (H : HT) (n : Nat) (A : TS) (op : BinOp) (t : TypeId) (x y : Operand) (k : KR) : Bool := Option.rec (motive := fun _ => Bool) (xoK call H n A op x y k) (fun p => Prod.rec (motive := fun _ => Bool) (fun s e => effK n H s e k) p) (aBin2 P (eA A) op t x y)
noncomputable def binXK (call : CallK) (P : Program) (H : HT) (n : Nat) (A : TS) (op : BinOp) (t : TypeId) (x y : Operand) (k : KR) : Bool := kI (eA A x) (genB call P H n A op t x y k) (fun kd a => kI (eA A y) (genB call P H n A op t x y k) (fun kd' b => intK op kd a kd' b (fun c => k (.v (.c c)) H n 0 0)))
abbrev OpM := CallK → Program → HT → Nat → TS → Oper → KR → Bool
noncomputable def gM : OpM := fun call P H n A o k => genK P H n A o k
noncomputable def opK (call : CallK) (P : Program) (H : HT) (n : Nat) (A : TS) (o : Oper) (k : KR) : Bool := Op.rec (motive := fun _ => OpM)
  (fun x call P H n A o k => mvK A x (fun s e => effK n H s e k))
  (fun x call P H n A o k => mvK A x (fun s e => effK n H s e k))
  (fun c x y call P H n A o k => pickK A c x y (fun s e => effK n H s e k))
  (fun _ => gM) (fun _ _ => gM) (fun _ _ => gM) (fun _ _ _ => gM) (fun _ _ _ _ => gM)
  (fun t x call P H n A o k => loadK P H A t x (fun s e => effK n H s e k))
  (fun t x y call P H n A o k => storeK P H A t x y (fun s e => effK n H s e k))
  (fun _ => gM) (fun _ => gM)
  (fun x call P H n A o k => nilK A x (fun s e => effK n H s e k))
  (fun op t x y _ call P H n A o k => binXK call P H n A op t x y k)
  (fun _ _ _ => gM)
  (fun s d x call P H n A o k => convK P H n A s d x (fun s e => frcK e (fun e => effK n H s e k)))
  (fun _ _ => gM) (fun _ _ => gM) (fun _ _ _ => gM) (fun _ _ => gM) (fun _ _ => gM) (fun _ _ _ => gM) (fun _ _ _ _ _ => gM)
  (fun t x f call P H n A o k => faK P A t x f (fun s e => effK n H s e k))
  (fun _ _ _ => gM)
  (fun t x y call P H n A o k => iaK P H n A t x y (fun s e => effK n H s e k))
  (fun _ _ _ => gM) (fun _ _ _ _ => gM) (fun _ _ _ _ => gM) (fun _ _ _ => gM) (fun _ _ _ _ => gM) (fun _ _ => gM) (fun _ _ => gM) (fun _ => gM) (fun _ _ _ _ => gM)
  (fun x i call P H n A o k => extK A x i (fun s e => effK n H s e k))
  (fun c call P H n A o k => callOpK call P H n A o c k)
  (fun _ => gM) (fun _ => gM) (fun _ => gM) (fun _ _ => gM) (fun _ _ _ => gM) (fun _ _ => gM) o.op call P H n A o k
section
variable {P : Program} {call : CallF} {callK : CallK}
theorem eA_fun (A : TS) : eA A = opA A := funext (eA_eq A)
theorem opRun_aop {st : St} {o : Oper} {A : TS} {k : KR} (h : ∀ c x, o.op = .call c → c.callee = .value x → False) (hb : ∀ op t x y ty, o.op = .binOp op t x y ty → False) : elR (opRun call P st (opA A) o) k = elP (aop P (hg st.H) st.n (opA A) o) (fun s e => effK st.n st.H s e k) := by
  unfold opRun
  cases aop P (hg st.H) st.n (opA A) o with
  | some p =>
    obtain ⟨s, e⟩ := p
    show _ = effK st.n st.H s e k
    rw [effK_eq]
  | none =>
    show elR (match o.op with | .call c => _ | .binOp op t x y _ => _ | _ => none) k = false
    cases ho : o.op with
    | binOp op t x y ty => exact (hb op t x y ty ho).elim
    | call c =>
      show elR (match c.callee with | .value x => _ | _ => none) k = false
      cases hc : c.callee with
      | value x => exact (h c x ho hc).elim
      | invoke r m => rfl
      | builtin b => rfl
    | _ => rfl
theorem genK_eq {H : HT} {n : Nat} {A : TS} {o : Oper} {k : KR} (B : TS) (h : ∀ c x, o.op = .call c → c.callee = .value x → False) (hb : ∀ op t x y ty, o.op = .binOp op t x y ty → False) : genK P H n A o k = elR (opRun call P ⟨B, H, n⟩ (opA A) o) k := by
  rw [opRun_aop h hb]
  unfold genK elP
  rw [kO_eq, eA_fun]
  cases aop P (hg H) n (opA A) o with
  | none => rfl
  | some p => obtain ⟨s, e⟩ := p; exact frcK_eq _ _
theorem opK_eq (hc : AgreeK callK call) (H : HT) (n : Nat) (A B : TS) (o : Oper) (k : KR) : opK callK P H n A o k = elR (opRun call P ⟨B, H, n⟩ (opA A) o) k := by
  unfold opK
  cases ho : o.op with
  | call c =>
    show callOpK callK P H n A o c k = _
    unfold callOpK
    cases hcal : c.callee with
    | value x =>
      show kC (eA A x) _ = _
      rw [kC_eq, eA_eq]
      have hn : aop P (hg H) n (opA A) o = none := by
        unfold aop
        rw [ho]
        show (match c.callee, c.args.toList, c.argTypes.toList with | .builtin .len, [x], [t] => _ | .builtin .max, [x, y], _ => _ | .builtin .delete, [x, y], [t, t2] => _ | .builtin .cap, [x], [t] => _ | .builtin .min, [x, y], _ => _ | .builtin .copy, [d, x], [t, _] => _ | .builtin .clear, [x], [t] => _ | .builtin .append, [s, x], [t, t2] => _ | _, _, _ => none) = none
        rw [hcal]
      unfold opRun
      rw [show aop P (hg (St.mk B H n).H) (St.mk B H n).n (opA A) o = none from hn]
      show _ = elR (match o.op with | .call c => _ | .binOp op t x y _ => _ | _ => none) k
      rw [ho]
      show _ = elR (match c.callee with | .value x => _ | _ => none) k
      rw [hcal]
      show _ = elR (match S.c? (opA A x), absArgs (opA A) c.args.toList with | some (.fn f caps), some l => call.call f (l ++ caps.map fun p => S.v (.c (.ptr p.1 p.2))) H n | some (.bm f i off), some l => call.call f (S.v (.c (.ptr i off)) :: l) H n | _, _ => none) k
      cases S.c? (opA A x) with
      | none => rfl
      | some f =>
        cases f with
        | fn f caps =>
          show argsK A c.args.toList _ = _
          rw [argsK_eq]
          cases absArgs (opA A) c.args.toList with
          | none => rfl
          | some l => exact hc.1 _ _ _ _ _
        | bm f i off =>
          show argsK A c.args.toList _ = _
          rw [argsK_eq]
          cases absArgs (opA A) c.args.toList with
          | none => rfl
          | some l => exact hc.1 _ _ _ _ _
        | _ => rfl
    | invoke r m => exact genK_eq B (fun c' x h1 h2 => by rw [ho] at h1; cases h1; rw [hcal] at h2; cases h2) (fun op t x y ty h => by rw [ho] at h; cases h)
    | builtin b => exact genK_eq B (fun c' x h1 h2 => by rw [ho] at h1; cases h1; rw [hcal] at h2; cases h2) (fun op t x y ty h => by rw [ho] at h; cases h)
  | move x => rw [opRun_aop (fun c x h => by rw [ho] at h; cases h) (fun op t x y ty h => by rw [ho] at h; cases h)]; unfold aop; rw [ho]; exact mvK_eq _ _ _
  | assign x => rw [opRun_aop (fun c x h => by rw [ho] at h; cases h) (fun op t x y ty h => by rw [ho] at h; cases h)]; unfold aop; rw [ho]; exact mvK_eq _ _ _
  | pick c x y => rw [opRun_aop (fun c x h => by rw [ho] at h; cases h) (fun op t x y ty h => by rw [ho] at h; cases h)]; unfold aop; rw [ho]; exact pickK_eq _ _ _ _ _
  | load t x => rw [opRun_aop (fun c x h => by rw [ho] at h; cases h) (fun op t x y ty h => by rw [ho] at h; cases h)]; unfold aop; rw [ho]; exact loadK_eq _ _ _ _ _ _
  | store t x y => rw [opRun_aop (fun c x h => by rw [ho] at h; cases h) (fun op t x y ty h => by rw [ho] at h; cases h)]; unfold aop; rw [ho]; exact storeK_eq _ _ _ _ _ _ _
  | nilCheck x => rw [opRun_aop (fun c x h => by rw [ho] at h; cases h) (fun op t x y ty h => by rw [ho] at h; cases h)]; unfold aop; rw [ho]; exact nilK_eq _ _ _
  | binOp op t x y ty =>
    show binXK callK P H n A op t x y k = _
    have gen : genB callK P H n A op t x y k = elR (opRun call P ⟨B, H, n⟩ (opA A) o) k := by
      unfold genB opRun
      rw [show aop P (hg (St.mk B H n).H) (St.mk B H n).n (opA A) o = aBin2 P (opA A) op t x y by unfold aop; rw [ho], eA_fun]
      cases aBin2 P (opA A) op t x y with
      | some p =>
        obtain ⟨s, e⟩ := p
        show effK n H s e k = _
        rw [effK_eq]
      | none =>
        show xoK callK H n A op x y k = elR (match o.op with | .call c => _ | .binOp op t x y _ => _ | _ => none) k
        rw [ho]
        show _ = elR (match S.c? (opA A x), S.c? (opA A y) with | some a, some b => _ | _, _ => none) k
        unfold xoK
        rw [kC_eq, eA_eq, eA_eq]
        cases S.c? (opA A x) with
        | none => rfl
        | some a =>
          show kC (opA A y) _ = _
          rw [kC_eq]
          cases S.c? (opA A y) with
          | none => rfl
          | some b =>
            show kO (xoC callK.xo op a b) _ = elR ((xoC call.xo op a b).map _) k
            rw [kO_eq, hc.2]
            cases xoC call.xo op a b <;> rfl
    unfold binXK
    refine kI_ne (fun kd a hx => kI_ne (fun kd' b hy => ?_) gen) gen
    rw [eA_eq] at hx hy
    rw [← gen, intK_eq]
    unfold genB
    have e1 : aBin2 P (eA A) op t x y = (intC op kd a kd' b).map (fun c => (S.v (V.c c), Ef.no 0)) := by
      rw [eA_fun]
      unfold aBin2 aBin
      rw [hx, hy]
      show (match (intC op kd a kd' b).map (fun c => (S.v (V.c c), Ef.no 0)) with | some r => some r | none => aBinS P (opA A) op t x y) = _
      cases intC op kd a kd' b with
      | some c => rfl
      | none =>
        show aBinS P (opA A) op t x y = none
        unfold aBinS
        rw [hx]
        rfl
    rw [e1]
    cases intC op kd a kd' b with
    | some c => rfl
    | none =>
      show false = xoK callK H n A op x y k
      unfold xoK
      rw [kC_eq, eA_eq, eA_eq, hx]
      show false = kC (opA A y) _
      rw [kC_eq, hy]
      rfl
  | convert s d x =>
    rw [opRun_aop (fun c x h => by rw [ho] at h; cases h) (fun op t x y ty h => by rw [ho] at h; cases h)]; unfold aop; rw [ho]
    show convK P H n A s d x _ = _
    rw [convK_eq]
    congr 1
    funext s e
    exact frcK_eq _ _
  | fieldAddr t x f => rw [opRun_aop (fun c x h => by rw [ho] at h; cases h) (fun op t x y ty h => by rw [ho] at h; cases h)]; unfold aop; rw [ho]; exact faK_eq _ _ _ _ _ _
  | indexAddr t x y => rw [opRun_aop (fun c x h => by rw [ho] at h; cases h) (fun op t x y ty h => by rw [ho] at h; cases h)]; unfold aop; rw [ho]; exact iaK_eq _ _ _ _ _ _ _ _
  | extract x i => rw [opRun_aop (fun c x h => by rw [ho] at h; cases h) (fun op t x y ty h => by rw [ho] at h; cases h)]; unfold aop; rw [ho]; exact extK_eq _ _ _ _
  | _ => exact genK_eq B (fun c x h => by rw [ho] at h; cases h) (fun op t x y ty h => by rw [ho] at h; cases h)
/-! ### Steps -/
abbrev KS := TS → HT → Nat → Nat → Nat → Bool
def elS (x : Option (St × Nat × Nat)) (k : KS) : Bool := match x with | some (st, F, W) => k st.A st.H st.n F W | none => false
noncomputable def slotK (nt : Nat) (A : TS) (d : Option Tmp) (s : S) (K : TS → Bool) : Bool := Option.rec (motive := fun _ => Nat → TS → S → (TS → Bool) → Bool) (fun nt A s K => K A) (fun d nt A s K => Bool.rec (motive := fun _ => Bool) false (TS.putK A d (some s) K) (Nat.ble (Nat.succ d) nt)) d nt A s K
theorem slotK_eq (nt : Nat) (A : TS) (d : Option Tmp) (s : S) (K : TS → Bool) : slotK nt A d s K = elO (putS nt A d s) K := by
  cases d with
  | none => rfl
  | some d =>
    show Bool.rec (motive := fun _ => Bool) false (TS.putK A d (some s) K) (Nat.ble (Nat.succ d) nt) = elO (if d < nt then TS.put A d (some s) else none) K
    rw [ble_eq]
    by_cases h : d < nt
    · rw [decide_eq_true (show Nat.succ d ≤ nt from h), if_pos h]; show TS.putK A d (some s) K = _; rw [TS.putK_eq]; cases TS.put A d (some s) <;> rfl
    · rw [decide_eq_false (show ¬ Nat.succ d ≤ nt from h), if_neg h]; rfl
noncomputable def goK (call : CallK) (P : Program) (nt : Nat) (A : TS) (H : HT) (n : Nat) (o : Oper) (k : KS) : Bool := opK call P H n A o (fun s H n F W => slotK nt A o.dst s (fun A => k A H n F W))
theorem goK_eq (hc : AgreeK callK call) (nt : Nat) (A : TS) (H : HT) (n : Nat) (o : Oper) (k : KS) : goK callK P nt A H n o k = elS (goS call P nt ⟨A, H, n⟩ o) k := by
  unfold goK
  rw [opK_eq hc H n A A]
  unfold goS
  show elR (opRun call P ⟨A, H, n⟩ (opA A) o) _ = _
  cases opRun call P ⟨A, H, n⟩ (opA A) o with
  | none => rfl
  | some r =>
    obtain ⟨s, H', n', F, W⟩ := r
    show slotK nt A o.dst s _ = elS ((putS nt A o.dst s).map _) k
    rw [slotK_eq]
    cases putS nt A o.dst s <;> rfl
noncomputable def gdK (s : S) (want : Bool) (g h : Unit → Bool) : Bool := S.rec (motive := fun _ => Bool) (fun v => V.rec (motive := fun _ => Bool) (fun c => kBool c (fun b => Bool.rec (motive := fun _ => Bool) (h ()) (g ()) (Bool.rec (motive := fun _ => Bool) (notB want) want b))) (fun _ => false) v) (fun _ => false) (h ()) s
noncomputable def stepK (call : CallK) (P : Program) (ops : Array Oper) (nt : Nat) (A : TS) (H : HT) (n : Nat) (o : Oper) (k : KS) : Bool := Option.rec (motive := fun _ => CallK → Program → Array Oper → Nat → TS → HT → Nat → Oper → KS → Bool)
  (fun call P ops nt A H n o k => goK call P nt A H n o k)
  (fun p call P ops nt A H n o k => kO ((ops[p.1]?).bind (·.dst)) (fun d => kO (TS.get A d) (fun s => gdK s p.2 (fun _ => goK call P nt A H n o k) (fun _ => slotK nt A o.dst .un (fun A => k A H n 0 0))))) o.guard call P ops nt A H n o k
theorem skip_eq (nt : Nat) (A : TS) (H : HT) (n : Nat) (o : Oper) (k : KS) : slotK nt A o.dst .un (fun A => k A H n 0 0) = elS (skipS nt ⟨A, H, n⟩ o) k := by
  rw [slotK_eq]
  unfold skipS
  show _ = elS ((putS nt A o.dst .un).map _) k
  cases putS nt A o.dst .un <;> rfl
theorem stepK_eq (hc : AgreeK callK call) (ops : Array Oper) (nt : Nat) (A : TS) (H : HT) (n : Nat) (o : Oper) (k : KS) : stepK callK P ops nt A H n o k = elS (stepG call P ops nt ⟨A, H, n⟩ o) k := by
  unfold stepK stepG
  cases o.guard with
  | none => exact goK_eq hc _ _ _ _ _ _
  | some p =>
    obtain ⟨j, want⟩ := p
    show kO ((ops[j]?).bind (·.dst)) _ = elS (match (ops[j]?).bind (·.dst) with | some d => _ | none => none) k
    rw [kO_eq]
    cases (ops[j]?).bind (·.dst) with
    | none => rfl
    | some d =>
      show kO (TS.get A d) _ = elS (match TS.get A d with | some (.v (.c (.bool b))) => _ | some .un => _ | _ => none) k
      rw [kO_eq]
      cases TS.get A d with
      | none => rfl
      | some s =>
        cases s with
        | un => exact skip_eq _ _ _ _ _ _
        | tup l => rfl
        | v v =>
          cases v with
          | agg l => rfl
          | c c =>
            cases c with
            | bool b =>
              show Bool.rec (motive := fun _ => Bool) (slotK nt A o.dst .un (fun A => k A H n 0 0)) (goK callK P nt A H n o k) (Bool.rec (motive := fun _ => Bool) (notB want) want b) = elS (if (b == want) = true then goS call P nt ⟨A, H, n⟩ o else skipS nt ⟨A, H, n⟩ o) k
              rw [goK_eq hc, skip_eq]
              cases b <;> cases want <;> rfl
            | _ => rfl
/-! ### Regions -/
abbrev KL := TS → HT → Nat → List (Nat × Nat × Nat) → Bool
def elL (x : Option (St × List (Nat × Nat × Nat))) (k : KL) : Bool := match x with | some (st, rs) => k st.A st.H st.n rs | none => false
noncomputable def evLK (call : CallK) (P : Program) (ops : Array Oper) (nt : Nat) (l : List Oper) (A : TS) (H : HT) (n : Nat) (k : KL) : Bool := List.rec (motive := fun _ => TS → HT → Nat → KL → Bool) (fun A H n k => k A H n []) (fun o _ ih A H n k => stepK call P ops nt A H n o (fun A1 H1 n1 F W => ih A1 H1 n1 (fun A2 H2 n2 rs => k A2 H2 n2 ((F, W, nwm n n1) :: rs)))) l A H n k
theorem evLK_eq (hc : AgreeK callK call) (ops : Array Oper) (nt : Nat) : ∀ (l : List Oper) (A : TS) (H : HT) (n : Nat) (k : KL), evLK callK P ops nt l A H n k = elL (evL call P ops nt l ⟨A, H, n⟩) k
  | [], A, H, n, k => rfl
  | o :: l, A, H, n, k => by
    show stepK callK P ops nt A H n o (fun A1 H1 n1 F W => evLK callK P ops nt l A1 H1 n1 (fun A2 H2 n2 rs => k A2 H2 n2 ((F, W, nwm n n1) :: rs))) = _
    rw [stepK_eq hc]
    simp only [evL]
    cases stepG call P ops nt ⟨A, H, n⟩ o with
    | none => rfl
    | some r =>
      obtain ⟨st1, F, W⟩ := r
      show evLK callK P ops nt l st1.A st1.H st1.n _ = _
      rw [evLK_eq hc ops nt l]
      show elL (evL call P ops nt l st1) _ = elL (match evL call P ops nt l st1 with | some (st2, rs) => some (st2, (F, W, nwm n st1.n) :: rs) | none => none) k
      cases evL call P ops nt l st1 <;> rfl
noncomputable def evUK (call : CallK) (P : Program) (ops : Array Oper) (nt : Nat) (l : List Oper) (A : TS) (H : HT) (n : Nat) (k : KS) : Bool := List.rec (motive := fun _ => TS → HT → Nat → KS → Bool) (fun A H n k => k A H n 0 0) (fun o _ ih A H n k => stepK call P ops nt A H n o (fun A1 H1 n1 F W => ih A1 H1 n1 (fun A2 H2 n2 F2 W2 => k A2 H2 n2 (Nat.lor F F2) (Nat.lor W W2)))) l A H n k
theorem evUK_eq (hc : AgreeK callK call) (ops : Array Oper) (nt : Nat) : ∀ (l : List Oper) (A : TS) (H : HT) (n : Nat) (k : KS), evUK callK P ops nt l A H n k = elL (evL call P ops nt l ⟨A, H, n⟩) (fun A H n rs => k A H n (orL1 rs) (orL2 rs))
  | [], A, H, n, k => rfl
  | o :: l, A, H, n, k => by
    show stepK callK P ops nt A H n o (fun A1 H1 n1 F W => evUK callK P ops nt l A1 H1 n1 (fun A2 H2 n2 F2 W2 => k A2 H2 n2 (Nat.lor F F2) (Nat.lor W W2))) = _
    rw [stepK_eq hc]
    simp only [evL]
    cases stepG call P ops nt ⟨A, H, n⟩ o with
    | none => rfl
    | some r =>
      obtain ⟨st1, F, W⟩ := r
      show evUK callK P ops nt l st1.A st1.H st1.n _ = _
      rw [evUK_eq hc ops nt l]
      show elL (evL call P ops nt l st1) _ = elL (match evL call P ops nt l st1 with | some (st2, rs) => some (st2, (F, W, nwm n st1.n) :: rs) | none => none) _
      cases evL call P ops nt l st1 <;> rfl
abbrev KX := X → TS → HT → Nat → Nat → Nat → Bool
def elX (x : CRes) (k : KX) : Bool := match x with | some (e, st, F, W) => k e st.A st.H st.n F W | none => false
noncomputable def evRK (call : CallK) (P : Program) (nt : Nat) (ops : Array Oper) (draw : Bool) (A : TS) (H : HT) (n : Nat) (k : KX) : Bool := Bool.rec (motive := fun _ => CallK → Program → Nat → Array Oper → TS → HT → Nat → KX → Bool)
  (fun call P nt ops A H n k => evUK call P ops nt ops.toList A H n (fun A H n F W => k .nm A H n F W))
  (fun call P nt ops A H n k => evLK call P ops nt ops.toList A H n (fun A2 H2 n2 rs => Bool.rec (motive := fun _ => Bool) false (k .nm A2 H2 n2 (orL1 rs) (orL2 rs)) (okD ops rs n n2))) draw call P nt ops A H n k
theorem evRK_eq (hc : AgreeK callK call) (nt : Nat) (ops : Array Oper) (draw : Bool) (A : TS) (H : HT) (n : Nat) (k : KX) : evRK callK P nt ops draw A H n k = elX (evR call P nt ops draw ⟨A, H, n⟩) k := by
  cases draw with
  | false =>
    show evUK callK P ops nt ops.toList A H n _ = _
    rw [evUK_eq hc]
    unfold evR
    cases evL call P ops nt ops.toList ⟨A, H, n⟩ <;> rfl
  | true =>
    show evLK callK P ops nt ops.toList A H n _ = _
    rw [evLK_eq hc]
    unfold evR
    cases evL call P ops nt ops.toList ⟨A, H, n⟩ with
    | none => rfl
    | some r =>
      obtain ⟨st2, rs⟩ := r
      show Bool.rec (motive := fun _ => Bool) false (k .nm st2.A st2.H st2.n (orL1 rs) (orL2 rs)) (okD ops rs n st2.n) = elX (if (true && !okD ops rs n st2.n) = true then none else some (.nm, st2, orL1 rs, orL2 rs)) k
      cases okD ops rs n st2.n <;> rfl
/-! ### Code -/
noncomputable def onNm (x : X) (g : Unit → Bool) (h : Unit → Bool) : Bool := X.rec (motive := fun _ => Bool) (g ()) (fun _ => h ()) (h ()) x
noncomputable def seqK (ia ib : TS → HT → Nat → KX → Bool) (A : TS) (H : HT) (n : Nat) (k : KX) : Bool := ia A H n (fun x A1 H1 n1 F1 W1 => onNm x (fun _ => ib A1 H1 n1 (fun x A2 H2 n2 F2 W2 => k x A2 H2 n2 (Nat.lor F1 F2) (Nat.lor W1 W2))) (fun _ => k x A1 H1 n1 F1 W1))
noncomputable def iterK (f : TS → HT → Nat → KX → Bool) (N : Nat) (A : TS) (H : HT) (n : Nat) (k : KX) : Bool := Nat.rec (motive := fun _ => TS → HT → Nat → KX → Bool) (fun _ _ _ _ => false) (fun _ ih A H n k => f A H n (fun x A1 H1 n1 F1 W1 => onNm x (fun _ => ih A1 H1 n1 (fun x A2 H2 n2 F2 W2 => k x A2 H2 n2 (Nat.lor F1 F2) (Nat.lor W1 W2))) (fun _ => k x A1 H1 n1 F1 W1))) N A H n k
noncomputable def meetK (A1 A2 : TS) (t : Nat) (B : TS) (K : TS → Bool) : Bool := Nat.rec (motive := fun _ => TS → Bool) (fun B => K B) (fun t ih B => Option.rec (motive := fun _ => Bool) (ih B) (fun s1 => Option.rec (motive := fun _ => Bool) (ih B) (fun s2 => Bool.rec (motive := fun _ => Bool) (ih B) (TS.putK B t (some s1) ih) (eqSS s1 s2)) (TS.get A2 t)) (TS.get A1 t)) t B
theorem meetK_eq (A1 A2 : TS) : ∀ (t : Nat) (B : TS) (K : TS → Bool), meetK A1 A2 t B K = elO (meetT A1 A2 t B) K
  | 0, B, K => rfl
  | t + 1, B, K => by
    show Option.rec (motive := fun _ => Bool) (meetK A1 A2 t B K) (fun s1 => Option.rec (motive := fun _ => Bool) (meetK A1 A2 t B K) (fun s2 => Bool.rec (motive := fun _ => Bool) (meetK A1 A2 t B K) (TS.putK B t (some s1) (fun B => meetK A1 A2 t B K)) (eqSS s1 s2)) (TS.get A2 t)) (TS.get A1 t) = _
    simp only [meetT]
    cases TS.get A1 t with
    | none => exact meetK_eq A1 A2 t B K
    | some s1 =>
      cases TS.get A2 t with
      | none => exact meetK_eq A1 A2 t B K
      | some s2 =>
        show Bool.rec (motive := fun _ => Bool) (meetK A1 A2 t B K) (TS.putK B t (some s1) (fun B => meetK A1 A2 t B K)) (eqSS s1 s2) = elO (if eqSS s1 s2 = true then _ else _) K
        cases eqSS s1 s2 with
        | false => exact meetK_eq A1 A2 t B K
        | true =>
          show TS.putK B t (some s1) (fun B => meetK A1 A2 t B K) = elO (match TS.put B t (some s1) with | some B' => _ | none => none) K
          rw [TS.putK_eq]
          cases TS.put B t (some s1) with
          | none => rfl
          | some B1 => exact meetK_eq A1 A2 t B1 K
noncomputable def joinK (nt : Nat) (ia ib : TS → HT → Nat → KX → Bool) (A : TS) (H : HT) (n : Nat) (k : KX) : Bool := ia A H n (fun x1 A1 _ n1 F1 W1 => ib A H n (fun x2 A2 _ n2 F2 W2 => Bool.rec (motive := fun _ => Bool) false (meetK A1 A2 nt TS.lf (fun B => k .nm B H n (Nat.lor F1 F2) 0)) (andB (okJ x1 n n1 W1) (okJ x2 n n2 W2))))
theorem joinK_eq {nt : Nat} {ia ib : TS → HT → Nat → KX → Bool} {fa fb : St → CRes} (ha : ∀ A H n k, ia A H n k = elX (fa ⟨A, H, n⟩) k) (hb : ∀ A H n k, ib A H n k = elX (fb ⟨A, H, n⟩) k) (A : TS) (H : HT) (n : Nat) (k : KX) : joinK nt ia ib A H n k = elX (joinC nt H n (fa ⟨A, H, n⟩) (fb ⟨A, H, n⟩)) k := by
  unfold joinK joinC
  rw [ha]
  cases fa ⟨A, H, n⟩ with
  | none => rfl
  | some r =>
    obtain ⟨x1, s1, F1, W1⟩ := r
    show ib A H n _ = _
    rw [hb]
    cases fb ⟨A, H, n⟩ with
    | none => rfl
    | some r =>
      obtain ⟨x2, s2, F2, W2⟩ := r
      show Bool.rec (motive := fun _ => Bool) false (meetK s1.A s2.A nt TS.lf (fun B => k .nm B H n (Nat.lor F1 F2) 0)) (andB (okJ x1 n s1.n W1) (okJ x2 n s2.n W2)) = elX (if andB (okJ x1 n s1.n W1) (okJ x2 n s2.n W2) = true then _ else none) k
      cases andB (okJ x1 n s1.n W1) (okJ x2 n s2.n W2) with
      | false => rfl
      | true =>
        show meetK s1.A s2.A nt TS.lf _ = elX ((meetT s1.A s2.A nt TS.lf).map _) k
        rw [meetK_eq]
        cases meetT s1.A s2.A nt TS.lf <;> rfl
noncomputable def condK (nt : Nat) (c : Operand) (ia ib : TS → HT → Nat → KX → Bool) (A : TS) (H : HT) (n : Nat) (k : KX) : Bool := kC (eA A c) (fun c => kBoolU c (fun b => Bool.rec (motive := fun _ => Bool) (ib A H n k) (ia A H n k) b) (fun _ => joinK nt ia ib A H n k))
noncomputable def blockK (id : Nat) (ia : TS → HT → Nat → KX → Bool) (A : TS) (H : HT) (n : Nat) (k : KX) : Bool := ia A H n (fun x A H n F W => X.rec (motive := fun _ => Bool) (k .nm A H n F W) (fun i => k (Bool.rec (motive := fun _ => X) (.ex i) .nm (Nat.beq i id)) A H n F W) (k .rt A H n F W) x)
noncomputable def skipK (g : St → Option (St × Nat)) (it : TS → HT → Nat → KX → Bool) (A : TS) (H : HT) (n : Nat) (k : KX) : Bool := Option.rec (motive := fun _ => Bool) (it A H n k) (fun r => Prod.rec (motive := fun _ => Bool) (fun s F => St.rec (motive := fun _ => Bool) (fun A1 H1 n1 => it A1 H1 n1 (fun x A2 H2 n2 F2 W2 => k x A2 H2 n2 (Nat.lor F F2) W2)) s) r) (g ⟨A, H, n⟩)
theorem skipK_eq {g : St → Option (St × Nat)} {it : TS → HT → Nat → KX → Bool} {it' : St → CRes} (h : ∀ A H n k, it A H n k = elX (it' ⟨A, H, n⟩) k) (A : TS) (H : HT) (n : Nat) (k : KX) : skipK g it A H n k = elX (skipC g it' ⟨A, H, n⟩) k := by
  unfold skipK skipC
  cases g ⟨A, H, n⟩ with
  | none => exact h A H n k
  | some r =>
    obtain ⟨s, F⟩ := r
    obtain ⟨A1, H1, n1⟩ := s
    show it A1 H1 n1 _ = elX (match it' ⟨A1, H1, n1⟩ with | some (x, st2, F2, W2) => some (x, st2, F ||| F2, W2) | none => none) k
    rw [h]
    cases it' ⟨A1, H1, n1⟩ <;> rfl
noncomputable def evCK (hk : Hook) (call : CallK) (P : Program) (nt N : Nat) (c : Code) (A : TS) (H : HT) (n : Nat) (k : KX) : Bool := Code.rec (motive := fun _ => TS → HT → Nat → KX → Bool)
  (fun A H n k => k .nm A H n 0 0)
  (fun _ ops draw A H n k => evRK call P nt ops draw A H n k)
  (fun _ _ ia ib A H n k => seqK ia ib A H n k)
  (fun c _ _ ia ib A H n k => condK nt c ia ib A H n k)
  (fun id _ ia A H n k => blockK id ia A H n k)
  (fun c ia A H n k => Option.rec (motive := fun _ => Bool) (iterK ia N A H n k) (fun g => skipK g (iterK ia N) A H n k) (hk c))
  (fun _ _ _ _ _ _ _ _ _ _ => false)
  (fun id A H n k => k (.ex id) A H n 0 0)
  (fun _ _ _ _ _ _ => false)
  (fun _ A H n k => k .nm A H n 0 0)
  (fun _ _ _ _ _ => false)
  (fun A H n k => k .rt A H n 0 0)
  (fun _ _ _ _ _ => false) c A H n k
theorem iterK_eq {g : St → CRes} {f : TS → HT → Nat → KX → Bool} (h : ∀ A H n k, f A H n k = elX (g ⟨A, H, n⟩) k) : ∀ (N : Nat) (A : TS) (H : HT) (n : Nat) (k : KX), iterK f N A H n k = elX (iter g N ⟨A, H, n⟩) k
  | 0, A, H, n, k => rfl
  | N + 1, A, H, n, k => by
    show f A H n (fun x A1 H1 n1 F1 W1 => onNm x (fun _ => iterK f N A1 H1 n1 (fun x A2 H2 n2 F2 W2 => k x A2 H2 n2 (Nat.lor F1 F2) (Nat.lor W1 W2))) (fun _ => k x A1 H1 n1 F1 W1)) = _
    rw [h]
    simp only [iter]
    cases g ⟨A, H, n⟩ with
    | none => rfl
    | some r =>
      obtain ⟨x, st1, F1, W1⟩ := r
      cases x with
      | nm =>
        show iterK f N st1.A st1.H st1.n _ = _
        rw [iterK_eq h N]
        show elX (iter g N st1) _ = elX (match iter g N st1 with | some (x, st2, F2, W2) => some (x, st2, F1 ||| F2, W1 ||| W2) | none => none) k
        cases iter g N st1 <;> rfl
      | ex id => rfl
      | rt => rfl
theorem evCK_eq (hk : Hook) (hc : AgreeK callK call) (nt N : Nat) : ∀ (c : Code) (A : TS) (H : HT) (n : Nat) (k : KX), evCK hk callK P nt N c A H n k = elX (evC hk call P nt N c ⟨A, H, n⟩) k
  | .skip, A, H, n, k => rfl
  | .label _, A, H, n, k => rfl
  | .exit _, A, H, n, k => rfl
  | .ret, A, H, n, k => rfl
  | .rangeFunc .., A, H, n, k => rfl
  | .scope _, A, H, n, k => rfl
  | .goto _, A, H, n, k => rfl
  | .refuse _, A, H, n, k => rfl
  | .region _ ops draw, A, H, n, k => evRK_eq hc nt ops draw A H n k
  | .seq a b, A, H, n, k => by
    show evCK hk callK P nt N a A H n (fun x A1 H1 n1 F1 W1 => onNm x (fun _ => evCK hk callK P nt N b A1 H1 n1 (fun x A2 H2 n2 F2 W2 => k x A2 H2 n2 (Nat.lor F1 F2) (Nat.lor W1 W2))) (fun _ => k x A1 H1 n1 F1 W1)) = _
    rw [evCK_eq hk hc nt N a]
    simp only [evC]
    cases evC hk call P nt N a ⟨A, H, n⟩ with
    | none => rfl
    | some r =>
      obtain ⟨x, st1, F1, W1⟩ := r
      cases x with
      | nm =>
        show evCK hk callK P nt N b st1.A st1.H st1.n _ = _
        rw [evCK_eq hk hc nt N b]
        show elX (evC hk call P nt N b st1) _ = elX (match evC hk call P nt N b st1 with | some (x, st2, F2, W2) => some (x, st2, F1 ||| F2, W1 ||| W2) | none => none) k
        cases evC hk call P nt N b st1 <;> rfl
      | ex id => rfl
      | rt => rfl
  | .cond c a b, A, H, n, k => by
    show kC (eA A c) (fun c => kBoolU c (fun b' => Bool.rec (motive := fun _ => Bool) (evCK hk callK P nt N b A H n k) (evCK hk callK P nt N a A H n k) b') (fun _ => joinK nt (evCK hk callK P nt N a) (evCK hk callK P nt N b) A H n k)) = _
    rw [kC_eq, eA_eq, joinK_eq (fun A H n k => evCK_eq hk hc nt N a A H n k) (fun A H n k => evCK_eq hk hc nt N b A H n k), evCK_eq hk hc nt N a, evCK_eq hk hc nt N b]
    simp only [evC]
    show _ = elX (match S.c? (opA A c) with | some (.bool true) => _ | some (.bool false) => _ | some .ub => _ | _ => none) k
    cases S.c? (opA A c) with
    | none => rfl
    | some x =>
      cases x with
      | bool b' => cases b' <;> rfl
      | _ => rfl
  | .block id c, A, H, n, k => by
    show evCK hk callK P nt N c A H n _ = _
    rw [evCK_eq hk hc nt N c]
    simp only [evC]
    cases evC hk call P nt N c ⟨A, H, n⟩ with
    | none => rfl
    | some r =>
      obtain ⟨x, st1, F1, W1⟩ := r
      cases x with
      | nm => rfl
      | rt => rfl
      | ex i =>
        show k (Bool.rec (motive := fun _ => X) (.ex i) .nm (Nat.beq i id)) st1.A st1.H st1.n F1 W1 = k (if (i == id) = true then .nm else .ex i) st1.A st1.H st1.n F1 W1
        rw [beq_eq]
        by_cases e : i = id
        · rw [decide_eq_true e, if_pos (by simp [e])]
        · rw [decide_eq_false e, if_neg (by simp [e])]
  | .loop c, A, H, n, k => by
    show Option.rec (motive := fun _ => Bool) (iterK (fun A H n k => evCK hk callK P nt N c A H n k) N A H n k) (fun g => skipK g (iterK (fun A H n k => evCK hk callK P nt N c A H n k) N) A H n k) (hk c) = _
    simp only [evC]
    cases hk c with
    | some g => exact skipK_eq (fun A H n k => iterK_eq (fun A H n k => evCK_eq hk hc nt N c A H n k) N A H n k) A H n k
    | none => exact iterK_eq (fun A H n k => evCK_eq hk hc nt N c A H n k) N A H n k
end
end Go.Proofs.YtcmlgmiomcegeaaGreat.Ev
namespace Go.Proofs.YtcmlgmiomcegeaaGreat.Ev
open Go Go.RowKit Go.Maps
set_option linter.unusedVariables false
set_option linter.unusedSimpArgs false
set_option linter.unusedSectionVars false
variable [Env]

noncomputable def kA (A : TS) (x : Operand) (k : S → Bool) : Bool := Operand.rec (motive := fun _ => TS → (S → Bool) → Bool) (fun t A k => Option.rec (motive := fun _ => Bool) false k (TS.getF A t)) (fun v _ k => Option.rec (motive := fun _ => Bool) false k (constS v)) (fun _ _ _ => false) (fun f _ k => k (.v (.c (.fn f [])))) x A k
theorem kA_eq (A : TS) (x : Operand) (k : S → Bool) : kA A x k = kO (eA A x) k := by cases x <;> rfl
noncomputable def pS (nt : Nat) (A : TS) (d : Option Tmp) (s : S) (K : TS → Bool) : Bool := Option.rec (motive := fun _ => Nat → TS → S → (TS → Bool) → Bool) (fun nt A s K => K A) (fun d nt A s K => Bool.rec (motive := fun _ => Bool) false (TS.putF A d s K) (Nat.ble (Nat.succ d) nt)) d nt A s K
theorem pS_eq (nt : Nat) (A : TS) (d : Option Tmp) (s : S) (K : TS → Bool) : pS nt A d s K = slotK nt A d s K := by cases d <;> rfl
/-- A cell, or nothing. -/
noncomputable def kAC (A : TS) (x : Operand) (k : C → Bool) : Bool := kA A x (fun s => S.rec (motive := fun _ => (C → Bool) → Bool) (fun v k => V.rec (motive := fun _ => Bool) k (fun _ => false) v) (fun _ _ => false) (fun _ => false) s k)
theorem kAC_eq (A : TS) (x : Operand) (k : C → Bool) : kAC A x k = kC (eA A x) k := by
  unfold kAC
  rw [kA_eq]
  cases eA A x with
  | none => rfl
  | some s => cases s <;> rfl
/-- A number, or else. -/
noncomputable def kAI (A : TS) (x : Operand) (g : Unit → Bool) (k : IntKind → Int → Bool) : Bool := Operand.rec (motive := fun _ => TS → (S → Bool) → Bool → Bool) (fun t A k g => Option.rec (motive := fun _ => Bool) g k (TS.getF A t)) (fun v _ k g => Option.rec (motive := fun _ => Bool) g k (constS v)) (fun _ _ _ g => g) (fun f _ k _ => k (.v (.c (.fn f [])))) x A
  (fun s => S.rec (motive := fun _ => (Unit → Bool) → (IntKind → Int → Bool) → Bool) (fun v g k => V.rec (motive := fun _ => Bool) (fun c => C.rec (motive := fun _ => (Unit → Bool) → (IntKind → Int → Bool) → Bool) (fun _ g _ => g ()) (fun kd n _ k => k kd n) (fun _ g _ => g ()) (fun _ _ g _ => g ()) (fun g _ => g ()) (fun _ _ _ _ g _ => g ()) (fun g _ => g ()) (fun g _ => g ()) (fun _ _ g _ => g ()) (fun g _ => g ()) (fun _ g _ => g ()) (fun g _ => g ()) (fun g _ => g ()) (fun _ _ _ g _ => g ()) (fun _ g _ => g ()) (fun _ g _ => g ()) (fun _ _ _ g _ => g ()) (fun _ _ g _ => g ()) (fun _ g _ => g ()) (fun g _ => g ()) (fun g _ => g ()) c g k) (fun _ => g ()) v) (fun _ g _ => g ()) (fun g _ => g ()) s g k) (g ())
theorem kAI_eq (A : TS) (x : Operand) (g : Unit → Bool) (k : IntKind → Int → Bool) : kAI A x g k = kI (eA A x) (g ()) k := by
  have key : ∀ s : S, (S.rec (motive := fun _ => (Unit → Bool) → (IntKind → Int → Bool) → Bool) (fun v g k => V.rec (motive := fun _ => Bool) (fun c => C.rec (motive := fun _ => (Unit → Bool) → (IntKind → Int → Bool) → Bool) (fun _ g _ => g ()) (fun kd n _ k => k kd n) (fun _ g _ => g ()) (fun _ _ g _ => g ()) (fun g _ => g ()) (fun _ _ _ _ g _ => g ()) (fun g _ => g ()) (fun g _ => g ()) (fun _ _ g _ => g ()) (fun g _ => g ()) (fun _ g _ => g ()) (fun g _ => g ()) (fun g _ => g ()) (fun _ _ _ g _ => g ()) (fun _ g _ => g ()) (fun _ g _ => g ()) (fun _ _ _ g _ => g ()) (fun _ _ g _ => g ()) (fun _ g _ => g ()) (fun g _ => g ()) (fun g _ => g ()) c g k) (fun _ => g ()) v) (fun _ g _ => g ()) (fun g _ => g ()) s g k : Bool) = kI (some s) (g ()) k := fun s => by
    cases s with
    | v v =>
      cases v with
      | c c => cases c <;> rfl
      | agg l => rfl
    | tup l => rfl
    | un => rfl
  have opt : ∀ o : Option S, (Option.rec (motive := fun _ => Bool) (g ()) (fun s => kI (some s) (g ()) k) o : Bool) = kI o (g ()) k := fun o => by cases o <;> rfl
  unfold kAI
  simp only [key]
  cases x with
  | tmp t => exact opt _
  | const v => exact opt _
  | global g => rfl
  | func f => rfl
/-! ### Numbers of sixty-four bits -/
noncomputable def ikB (a b : IntKind) : Bool := decide (a = b)
theorem ite_ikB (a b : IntKind) (x : Bool) : Bool.rec (motive := fun _ => Bool) false x (ikB a b) = ite (a = b) x false := by
  unfold ikB
  by_cases h : a = b
  · rw [decide_eq_true h, if_pos h]
  · rw [decide_eq_false h, if_neg h]
noncomputable def litK (k : IntKind) (m : Nat) (K : C → Bool) : Bool := Nat.rec (motive := fun _ => IntKind → (C → Bool) → Bool) (fun k K => K (.int k (.ofNat 0))) (fun j _ k K => K (.int k (.ofNat j))) (Nat.add m 1) k K
noncomputable def addK (k : IntKind) (x y : Int) (K : C → Bool) : Bool := Int.rec (motive := fun _ => IntKind → Int → (C → Bool) → Bool) (fun m k y K => Int.rec (motive := fun _ => IntKind → Nat → (C → Bool) → Bool)
  (fun n k m K => Bool.rec (motive := fun _ => Bool) (fI (wrapF k (.ofNat (Nat.add m n))) (fun r => K (.int k r))) (litK k (Nat.add m n) K) (Nat.ble (Nat.add m n) 127))
  (fun n k m K => fI (wrapF k (subNN m (Nat.succ n))) (fun r => K (.int k r))) y k m K) (fun m k y K => fI (wrapF k (addF (.negSucc m) y)) (fun r => K (.int k r))) x k y K
theorem wrap_small (k : IntKind) (m : Nat) (h : m ≤ 127) : k.wrap (.ofNat m) = .ofNat m := by
  rw [Int.ofNat_eq_natCast]
  cases k
  · unfold IntKind.wrap; simp [IntKind.bits, IntKind.signed]; omega
  · unfold IntKind.wrap; simp [IntKind.bits, IntKind.signed]; omega
  · rw [IntKind.wrap_i32]; omega
  · rw [IntKind.wrap_i64]; omega
  · rw [IntKind.wrap_u8]; omega
  · rw [IntKind.wrap_u16]; omega
  · rw [IntKind.wrap_u32]; omega
  · rw [IntKind.wrap_u64]; omega
theorem addK_eq (k : IntKind) (x y : Int) (K : C → Bool) : addK k x y K = fI (wrapF k (addF x y)) (fun r => K (.int k r)) := by
  cases x with
  | negSucc m => rfl
  | ofNat m =>
    cases y with
    | negSucc n => rfl
    | ofNat n =>
      show Bool.rec (motive := fun _ => Bool) (fI (wrapF k (.ofNat (Nat.add m n))) (fun r => K (.int k r))) (litK k (Nat.add m n) K) (Nat.ble (Nat.add m n) 127) = fI (wrapF k (.ofNat (Nat.add m n))) (fun r => K (.int k r))
      cases h : Nat.ble (Nat.add m n) 127 with
      | false => rfl
      | true =>
        have := Nat.le_of_ble_eq_true h
        rw [fI_eq, wrapF_eq, wrap_small k _ this]; rfl
noncomputable def sbK (k : IntKind) (x y : Int) (K : C → Bool) : Bool := Int.rec (motive := fun _ => IntKind → Int → (C → Bool) → Bool) (fun m k y K => Int.rec (motive := fun _ => IntKind → Nat → (C → Bool) → Bool)
  (fun n k m K => Bool.rec (motive := fun _ => Bool) (fI (wrapF k (subNN m n)) (fun r => K (.int k r))) (Bool.rec (motive := fun _ => Bool) (fI (wrapF k (subNN m n)) (fun r => K (.int k r))) (litK k (Nat.sub m n) K) (Nat.ble n m)) (Nat.ble (Nat.sub m n) 127))
  (fun n k m K => fI (wrapF k (subF (.ofNat m) (.negSucc n))) (fun r => K (.int k r))) y k m K) (fun m k y K => fI (wrapF k (subF (.negSucc m) y)) (fun r => K (.int k r))) x k y K
theorem sbK_eq (k : IntKind) (x y : Int) (K : C → Bool) : sbK k x y K = fI (wrapF k (subF x y)) (fun r => K (.int k r)) := by
  cases x with
  | negSucc m => rfl
  | ofNat m =>
    cases y with
    | negSucc n => rfl
    | ofNat n =>
      show Bool.rec (motive := fun _ => Bool) (fI (wrapF k (subNN m n)) (fun r => K (.int k r))) (Bool.rec (motive := fun _ => Bool) (fI (wrapF k (subNN m n)) (fun r => K (.int k r))) (litK k (Nat.sub m n) K) (Nat.ble n m)) (Nat.ble (Nat.sub m n) 127) = fI (wrapF k (subNN m n)) (fun r => K (.int k r))
      cases h : Nat.ble (Nat.sub m n) 127 with
      | false => rfl
      | true =>
        cases h2 : Nat.ble n m with
        | false => rfl
        | true =>
          have := Nat.le_of_ble_eq_true h
          have h3 := Nat.le_of_ble_eq_true h2
          have e : subNN m n = .ofNat (m - n) := by unfold subNN; rw [h2]; rfl
          rw [e, fI_eq, wrapF_eq]
          show K (.int k (.ofNat (Nat.sub m n))) = _
          exact (congrArg (fun r => K (.int k r)) (wrap_small k (m - n) this)).symm
noncomputable def cmK (x y : Int) (f : Nat → Nat → Bool) (g : Unit → Bool) : Bool := Int.rec (motive := fun _ => Int → (Nat → Nat → Bool) → (Unit → Bool) → Bool) (fun m y f g => Int.rec (motive := fun _ => Nat → (Nat → Nat → Bool) → (Unit → Bool) → Bool) (fun n m f _ => f m n) (fun _ _ _ g => g ()) y m f g) (fun _ _ _ g => g ()) x y f g
theorem cmK_eq {x y : Int} {f : Nat → Nat → Bool} {g : Unit → Bool} {b : Bool} (h1 : ∀ m n : Nat, x = .ofNat m → y = .ofNat n → f m n = b) (h2 : g () = b) : cmK x y f g = b := by
  cases x with
  | negSucc m => exact h2
  | ofNat m =>
    cases y with
    | negSucc n => exact h2
    | ofNat n => exact h1 m n rfl rfl
noncomputable def intL (op : BinOp) (k : IntKind) (x : Int) (k' : IntKind) (y : Int) (K : C → Bool) : Bool := BinOp.rec (motive := fun _ => BinOp → IntKind → Int → IntKind → Int → (C → Bool) → Bool)
  (fun _ k x k' y K => Bool.rec (motive := fun _ => Bool) false (addK k x y K) (ikB k k'))
  (fun _ k x k' y K => Bool.rec (motive := fun _ => Bool) false (sbK k x y K) (ikB k k'))
  (fun op k x k' y K => intK op k x k' y K) (fun op k x k' y K => intK op k x k' y K) (fun op k x k' y K => intK op k x k' y K) (fun op k x k' y K => intK op k x k' y K) (fun op k x k' y K => intK op k x k' y K) (fun op k x k' y K => intK op k x k' y K) (fun op k x k' y K => intK op k x k' y K) (fun op k x k' y K => intK op k x k' y K) (fun op k x k' y K => intK op k x k' y K)
  (fun op k x k' y K => Bool.rec (motive := fun _ => Bool) false (cmK x y (fun m n => K (.bool (Nat.beq m n))) (fun _ => K (.bool (eqF x y)))) (ikB k k'))
  (fun op k x k' y K => Bool.rec (motive := fun _ => Bool) false (K (.bool (notB (eqF x y)))) (ikB k k'))
  (fun op k x k' y K => Bool.rec (motive := fun _ => Bool) false (cmK x y (fun m n => K (.bool (Nat.ble (Nat.succ m) n))) (fun _ => K (.bool (notB (leF y x))))) (ikB k k'))
  (fun op k x k' y K => Bool.rec (motive := fun _ => Bool) false (cmK x y (fun m n => K (.bool (Nat.ble m n))) (fun _ => K (.bool (leF x y)))) (ikB k k'))
  (fun op k x k' y K => Bool.rec (motive := fun _ => Bool) false (cmK x y (fun m n => K (.bool (Nat.ble (Nat.succ n) m))) (fun _ => K (.bool (notB (leF x y))))) (ikB k k'))
  (fun op k x k' y K => Bool.rec (motive := fun _ => Bool) false (cmK x y (fun m n => K (.bool (Nat.ble n m))) (fun _ => K (.bool (leF y x)))) (ikB k k')) op op k x k' y K
theorem lt_b (m n : Nat) : Nat.ble (Nat.succ m) n = notB (leF (.ofNat n) (.ofNat m)) := by
  rw [ltF_eq, ble_eq]
  congr 1
  apply propext
  rw [Int.ofNat_eq_natCast, Int.ofNat_eq_natCast]
  omega
theorem intL_eq (op : BinOp) (k : IntKind) (x : Int) (k' : IntKind) (y : Int) (K : C → Bool) : intL op k x k' y K = intK op k x k' y K := by
  cases op
  case add => show Bool.rec (motive := fun _ => Bool) false (addK k x y K) (ikB k k') = _; rw [ite_ikB, addK_eq]; rfl
  case sub => show Bool.rec (motive := fun _ => Bool) false (sbK k x y K) (ikB k k') = _; rw [ite_ikB, sbK_eq]; rfl
  case eql => show Bool.rec (motive := fun _ => Bool) false (cmK x y _ _) (ikB k k') = _; rw [ite_ikB, cmK_eq (b := K (.bool (eqF x y))) (fun m n h1 h2 => by subst h1; subst h2; rfl) rfl]; rfl
  case neq => show Bool.rec (motive := fun _ => Bool) false (K (.bool (notB (eqF x y)))) (ikB k k') = _; rw [ite_ikB]; rfl
  case lss => show Bool.rec (motive := fun _ => Bool) false (cmK x y _ _) (ikB k k') = _; rw [ite_ikB, cmK_eq (b := K (.bool (notB (leF y x)))) (fun m n h1 h2 => by subst h1; subst h2; rw [lt_b]) rfl]; rfl
  case leq => show Bool.rec (motive := fun _ => Bool) false (cmK x y _ _) (ikB k k') = _; rw [ite_ikB, cmK_eq (b := K (.bool (leF x y))) (fun m n h1 h2 => by subst h1; subst h2; rfl) rfl]; rfl
  case gtr => show Bool.rec (motive := fun _ => Bool) false (cmK x y _ _) (ikB k k') = _; rw [ite_ikB, cmK_eq (b := K (.bool (notB (leF x y)))) (fun m n h1 h2 => by subst h1; subst h2; rw [lt_b]) rfl]; rfl
  case geq => show Bool.rec (motive := fun _ => Bool) false (cmK x y _ _) (ikB k k') = _; rw [ite_ikB, cmK_eq (b := K (.bool (leF y x))) (fun m n h1 h2 => by subst h1; subst h2; rfl) rfl]; rfl
  all_goals rfl
/-! ### Operations -/
abbrev OpL := CallK → Program → Nat → TS → HT → Nat → Option Tmp → Oper → KS → Bool
/-- What yields a value and nothing else. -/
noncomputable def vK (nt : Nat) (A : TS) (H : HT) (n : Nat) (d : Option Tmp) (k : KS) (s : S) : Bool := pS nt A d s (fun A => k A H n 0 0)
noncomputable def restL : OpL := fun call P nt A H n d o k => opK call P H n A o (fun s H n F W => pS nt A d s (fun A => k A H n F W))
noncomputable def opL (op : Op) : OpL := Op.rec (motive := fun _ => OpL)
  (fun x _ _ nt A H n d _ k => kA A x (fun s => pS nt A d s (fun A => k A H n 0 0)))
  (fun x _ _ nt A H n d _ k => kA A x (fun s => pS nt A d s (fun A => k A H n 0 0)))
  (fun c x y _ _ nt A H n d _ k => kAC A c (fun c => kBool c (fun b => kA A (Bool.rec (motive := fun _ => Operand) y x b) (fun s => pS nt A d s (fun A => k A H n 0 0)))))
  (fun _ => restL) (fun _ _ => restL) (fun _ _ => restL) (fun _ _ _ => restL) (fun _ _ _ _ => restL)
  (fun _ _ => restL)
  (fun _ _ _ => restL)
  (fun _ => restL) (fun _ => restL)
  (fun _ => restL)
  (fun op t x y _ call P nt A H n d _ k => kAI A x (fun _ => genB call P H n A op t x y (fun s H n F W => pS nt A d s (fun A => k A H n F W))) (fun kd a => kAI A y (fun _ => genB call P H n A op t x y (fun s H n F W => pS nt A d s (fun A => k A H n F W))) (fun kd' b => intL op kd a kd' b (fun c => pS nt A d (.v (.c c)) (fun A => k A H n 0 0)))))
  (fun _ _ _ => restL)
  (fun _ _ _ => restL)
  (fun _ _ => restL) (fun _ _ => restL) (fun _ _ _ => restL) (fun _ _ => restL) (fun _ _ => restL) (fun _ _ _ => restL) (fun _ _ _ _ _ => restL)
  (fun t x f _ P nt A H n d _ k => kAC A x (fun c => kPtr c (fun i off => Option.rec (motive := fun _ => Bool) false (fun df => forceN (Nat.add off df) (fun o => pS nt A d (.v (.c (.ptr i o))) (fun A => k A H n 0 0))) (faOff P t f))))
  (fun _ _ _ => restL)
  (fun _ _ _ => restL)
  (fun _ _ _ => restL) (fun _ _ _ _ => restL) (fun _ _ _ _ => restL) (fun _ _ _ => restL) (fun _ _ _ _ => restL) (fun _ _ => restL) (fun _ _ => restL) (fun _ => restL) (fun _ _ _ _ => restL)
  (fun _ _ => restL)
  (fun _ => restL)
  (fun _ => restL) (fun _ => restL) (fun _ => restL) (fun _ _ => restL) (fun _ _ _ => restL) (fun _ _ => restL) op
noncomputable def stepL (call : CallK) (P : Program) (ops : Array Oper) (nt : Nat) (A : TS) (H : HT) (n : Nat) (o : Oper) (k : KS) : Bool := Oper.rec (motive := fun _ => CallK → Program → Array Oper → Nat → TS → HT → Nat → Oper → KS → Bool) (fun dst op _ _ _ guard call P ops nt A H n o k => Option.rec (motive := fun _ => Op → CallK → Program → Array Oper → Nat → TS → HT → Nat → Option Tmp → Oper → KS → Bool)
  (fun op call P _ nt A H n d o k => opL op call P nt A H n d o k)
  (fun p op call P ops nt A H n d o k => kO ((ops[p.1]?).bind (·.dst)) (fun g => kO (TS.getF A g) (fun s => gdK s p.2 (fun _ => opL op call P nt A H n d o k) (fun _ => pS nt A d .un (fun A => k A H n 0 0))))) guard op call P ops nt A H n dst o k) o call P ops nt A H n o k
theorem pS_fun (nt : Nat) (A : TS) (d : Option Tmp) (s : S) : pS nt A d s = slotK nt A d s := funext (pS_eq nt A d s)
theorem opL_eq (call : CallK) (P : Program) (nt : Nat) (A : TS) (H : HT) (n : Nat) (o : Oper) (k : KS) : opL o.op call P nt A H n o.dst o k = goK call P nt A H n o k := by
  have rest : restL call P nt A H n o.dst o k = goK call P nt A H n o k := by
    unfold restL goK
    simp only [pS_fun]
  cases ho : o.op with
  | move x =>
    show kA A x _ = _
    rw [kA_eq]; unfold goK opK; rw [ho]
    simp only [pS_fun]; rfl
  | assign x =>
    show kA A x _ = _
    rw [kA_eq]; unfold goK opK; rw [ho]
    simp only [pS_fun]; rfl
  | pick c x y =>
    show kAC A c _ = _
    rw [kAC_eq]; unfold goK opK; rw [ho]
    show _ = pickK A c x y _
    unfold pickK
    congr 1
    funext c
    congr 1
    funext b
    rw [kA_eq]
    simp only [pS_fun]
    cases b <;> rfl
  | binOp op t x y ty =>
    show kAI A x _ _ = _
    unfold goK opK; rw [ho]
    show _ = binXK call P H n A op t x y _
    unfold binXK
    rw [kAI_eq]
    simp only [kAI_eq, intL_eq, pS_fun]
    first | done | rfl
  | fieldAddr t x f =>
    show kAC A x _ = _
    rw [kAC_eq]; unfold goK opK; rw [ho]
    show _ = faK P A t x f _
    unfold faK
    simp only [pS_fun]
    rfl
  | _ => exact rest
theorem stepL_eq (call : CallK) (P : Program) (ops : Array Oper) (nt : Nat) (A : TS) (H : HT) (n : Nat) (o : Oper) (k : KS) : stepL call P ops nt A H n o k = stepK call P ops nt A H n o k := by
  obtain ⟨dst, op, ty, pos, after, guard⟩ := o
  cases guard with
  | none => exact opL_eq call P nt A H n ⟨dst, op, ty, pos, after, none⟩ k
  | some p =>
    show kO ((ops[p.1]?).bind (·.dst)) _ = kO ((ops[p.1]?).bind (·.dst)) _
    congr 1
    funext g
    show kO (TS.getF A g) _ = kO (TS.get A g) _
    rw [TS.getF_eq]
    congr 1
    funext s
    rw [pS_eq]
    have := opL_eq call P nt A H n ⟨dst, op, ty, pos, after, some p⟩ k
    simp only at this
    rw [this]
noncomputable def evUL (call : CallK) (P : Program) (ops : Array Oper) (nt : Nat) (l : List Oper) (A : TS) (H : HT) (n : Nat) (k : KS) : Bool := List.rec (motive := fun _ => TS → HT → Nat → KS → Bool) (fun A H n k => k A H n 0 0) (fun o _ ih A H n k => stepL call P ops nt A H n o (fun A1 H1 n1 F W => ih A1 H1 n1 (fun A2 H2 n2 F2 W2 => k A2 H2 n2 (Nat.lor F F2) (Nat.lor W W2)))) l A H n k
noncomputable def evLL (call : CallK) (P : Program) (ops : Array Oper) (nt : Nat) (l : List Oper) (A : TS) (H : HT) (n : Nat) (k : KL) : Bool := List.rec (motive := fun _ => TS → HT → Nat → KL → Bool) (fun A H n k => k A H n []) (fun o _ ih A H n k => stepL call P ops nt A H n o (fun A1 H1 n1 F W => ih A1 H1 n1 (fun A2 H2 n2 rs => k A2 H2 n2 ((F, W, nwm n n1) :: rs)))) l A H n k
theorem evUL_eq (call : CallK) (P : Program) (ops : Array Oper) (nt : Nat) (l : List Oper) (A : TS) (H : HT) (n : Nat) (k : KS) : evUL call P ops nt l A H n k = evUK call P ops nt l A H n k := by
  unfold evUL evUK
  simp only [stepL_eq]
theorem evLL_eq (call : CallK) (P : Program) (ops : Array Oper) (nt : Nat) (l : List Oper) (A : TS) (H : HT) (n : Nat) (k : KL) : evLL call P ops nt l A H n k = evLK call P ops nt l A H n k := by
  unfold evLL evLK
  simp only [stepL_eq]
noncomputable def evRL (call : CallK) (P : Program) (nt : Nat) (ops : Array Oper) (draw : Bool) (A : TS) (H : HT) (n : Nat) (k : KX) : Bool := Bool.rec (motive := fun _ => CallK → Program → Nat → Array Oper → TS → HT → Nat → KX → Bool)
  (fun call P nt ops A H n k => evUL call P ops nt ops.toList A H n (fun A H n F W => k .nm A H n F W))
  (fun call P nt ops A H n k => evLL call P ops nt ops.toList A H n (fun A2 H2 n2 rs => Bool.rec (motive := fun _ => Bool) false (k .nm A2 H2 n2 (orL1 rs) (orL2 rs)) (okD ops rs n n2))) draw call P nt ops A H n k
theorem evRL_eq (call : CallK) (P : Program) (nt : Nat) (ops : Array Oper) (draw : Bool) (A : TS) (H : HT) (n : Nat) (k : KX) : evRL call P nt ops draw A H n k = evRK call P nt ops draw A H n k := by
  unfold evRL evRK
  simp only [evUL_eq, evLL_eq]
noncomputable def evCL (hk : Hook) (call : CallK) (P : Program) (nt N : Nat) (c : Code) (A : TS) (H : HT) (n : Nat) (k : KX) : Bool := Code.rec (motive := fun _ => TS → HT → Nat → KX → Bool)
  (fun A H n k => k .nm A H n 0 0)
  (fun _ ops draw A H n k => evRL call P nt ops draw A H n k)
  (fun _ _ ia ib A H n k => ia A H n (fun x A1 H1 n1 F1 W1 => X.rec (motive := fun _ => Bool) (ib A1 H1 n1 (fun x A2 H2 n2 F2 W2 => k x A2 H2 n2 (Nat.lor F1 F2) (Nat.lor W1 W2))) (fun i => k (.ex i) A1 H1 n1 F1 W1) (k .rt A1 H1 n1 F1 W1) x))
  (fun c _ _ ia ib A H n k => kAC A c (fun c => kBoolU c (fun b => Bool.rec (motive := fun _ => Bool) (ib A H n k) (ia A H n k) b) (fun _ => joinK nt ia ib A H n k)))
  (fun id _ ia A H n k => blockK id ia A H n k)
  (fun c ia A H n k => Option.rec (motive := fun _ => Bool) (iterK ia N A H n k) (fun g => skipK g (iterK ia N) A H n k) (hk c))
  (fun _ _ _ _ _ _ _ _ _ _ => false)
  (fun id A H n k => k (.ex id) A H n 0 0)
  (fun _ _ _ _ _ _ => false)
  (fun _ A H n k => k .nm A H n 0 0)
  (fun _ _ _ _ _ => false)
  (fun A H n k => k .rt A H n 0 0)
  (fun _ _ _ _ _ => false) c A H n k
theorem evCL_eq (hk : Hook) (call : CallK) (P : Program) (nt N : Nat) : ∀ (c : Code) (A : TS) (H : HT) (n : Nat) (k : KX), evCL hk call P nt N c A H n k = evCK hk call P nt N c A H n k
  | .skip, A, H, n, k => rfl
  | .label _, A, H, n, k => rfl
  | .exit _, A, H, n, k => rfl
  | .ret, A, H, n, k => rfl
  | .rangeFunc .., A, H, n, k => rfl
  | .scope _, A, H, n, k => rfl
  | .goto _, A, H, n, k => rfl
  | .refuse _, A, H, n, k => rfl
  | .region _ ops draw, A, H, n, k => evRL_eq _ _ _ _ _ _ _ _ _
  | .seq a b, A, H, n, k => by
    show evCL hk call P nt N a A H n (fun x A1 H1 n1 F1 W1 => X.rec (motive := fun _ => Bool) (evCL hk call P nt N b A1 H1 n1 (fun x A2 H2 n2 F2 W2 => k x A2 H2 n2 (Nat.lor F1 F2) (Nat.lor W1 W2))) (fun i => k (.ex i) A1 H1 n1 F1 W1) (k .rt A1 H1 n1 F1 W1) x) = evCK hk call P nt N a A H n (fun x A1 H1 n1 F1 W1 => onNm x (fun _ => evCK hk call P nt N b A1 H1 n1 (fun x A2 H2 n2 F2 W2 => k x A2 H2 n2 (Nat.lor F1 F2) (Nat.lor W1 W2))) (fun _ => k x A1 H1 n1 F1 W1))
    rw [evCL_eq hk call P nt N a]
    congr 1
    funext x A1 H1 n1 F1 W1
    cases x with
    | nm => exact evCL_eq hk call P nt N b _ _ _ _
    | ex i => rfl
    | rt => rfl
  | .cond c a b, A, H, n, k => by
    have ea : (fun A H n k => evCL hk call P nt N a A H n k) = (fun A H n k => evCK hk call P nt N a A H n k) := by
      funext A H n k
      exact evCL_eq hk call P nt N a A H n k
    have eb : (fun A H n k => evCL hk call P nt N b A H n k) = (fun A H n k => evCK hk call P nt N b A H n k) := by
      funext A H n k
      exact evCL_eq hk call P nt N b A H n k
    show kAC A c (fun c => kBoolU c (fun b' => Bool.rec (motive := fun _ => Bool) (evCL hk call P nt N b A H n k) (evCL hk call P nt N a A H n k) b') (fun _ => joinK nt (fun A H n k => evCL hk call P nt N a A H n k) (fun A H n k => evCL hk call P nt N b A H n k) A H n k)) = kC (eA A c) (fun c => kBoolU c (fun b' => Bool.rec (motive := fun _ => Bool) (evCK hk call P nt N b A H n k) (evCK hk call P nt N a A H n k) b') (fun _ => joinK nt (fun A H n k => evCK hk call P nt N a A H n k) (fun A H n k => evCK hk call P nt N b A H n k) A H n k))
    rw [kAC_eq, evCL_eq hk call P nt N a, evCL_eq hk call P nt N b, ea, eb]
  | .block id c, A, H, n, k => by
    show evCL hk call P nt N c A H n _ = evCK hk call P nt N c A H n _
    exact evCL_eq hk call P nt N c _ _ _ _
  | .loop c, A, H, n, k => by
    have e : (fun A H n k => evCL hk call P nt N c A H n k) = (fun A H n k => evCK hk call P nt N c A H n k) := by
      funext A H n k
      exact evCL_eq hk call P nt N c A H n k
    show Option.rec (motive := fun _ => Bool) (iterK (fun A H n k => evCL hk call P nt N c A H n k) N A H n k) (fun g => skipK g (iterK (fun A H n k => evCL hk call P nt N c A H n k) N) A H n k) (hk c) = Option.rec (motive := fun _ => Bool) (iterK (fun A H n k => evCK hk call P nt N c A H n k) N A H n k) (fun g => skipK g (iterK (fun A H n k => evCK hk call P nt N c A H n k) N) A H n k) (hk c)
    rw [e]
end Go.Proofs.YtcmlgmiomcegeaaGreat.Ev
namespace Go.Proofs.YtcmlgmiomcegeaaGreat.Ev
open Go Go.RowKit Go.Maps
set_option linter.unusedVariables false
set_option linter.unusedSimpArgs false
set_option linter.unusedSectionVars false
variable [Env]

noncomputable def argTK (l : List S) (i : Nat) (A : TS) (K : TS → Bool) : Bool := List.rec (motive := fun _ => Nat → TS → (TS → Bool) → Bool) (fun _ A K => K A) (fun s _ ih i A K => TS.putK A i (some s) (fun A => ih (Nat.succ i) A K)) l i A K
theorem argTK_eq : ∀ (l : List S) (i : Nat) (A : TS) (K : TS → Bool), argTK l i A K = elO (argT i l A) K
  | [], i, A, K => rfl
  | s :: l, i, A, K => by
    show TS.putK A i (some s) (fun A => argTK l (i + 1) A K) = _
    rw [TS.putK_eq]
    simp only [argT]
    cases TS.put A i (some s) with
    | none => rfl
    | some A' => exact argTK_eq l (i + 1) A' K
noncomputable def resK (P : Program) (fn : Func) (A : TS) (H : HT) (n F W : Nat) (K : KR) : Bool := kO (resL P (hg H) A fn.results.toList) (fun r => K (resS r.1) H n (Nat.lor F r.2) W)
noncomputable def bodyK (hk : Hook) (call : CallK) (P : Program) (N : Nat) (fn : Func) (c : Code) (args : List S) (H : HT) (n : Nat) (K : KR) : Bool := Bool.rec (motive := fun _ => Bool) false (argTK args 0 TS.lf (fun A => evCL hk call P fn.ntmps N c A H n (fun x A H n F W => X.rec (motive := fun _ => Bool) (resK P fn A H n F W K) (fun _ => false) (resK P fn A H n F W K) x))) (Nat.ble args.length fn.ntmps)
/-- A number is laid out. -/
noncomputable def frcR (K : KR) : KR := fun s H n F W => kI (some s) (K s H n F W) (fun kd i => fI i (fun i => K (.v (.c (.int kd i))) H n F W))
theorem frcR_eq (K : KR) : frcR K = K := by
  funext s H n F W
  unfold frcR
  refine kI_ne (fun kd i h => ?_) rfl
  cases h
  rw [fI_eq]
noncomputable def evFK (hk : FuncId → Hook) (xo : BinOp → C → C → Option C) (orc : Orc) (P : Program) (N k : Nat) (f : FuncId) (args : List S) (H : HT) (n : Nat) (K : KR) : Bool := Nat.rec (motive := fun _ => FuncId → List S → HT → Nat → KR → Bool) (fun _ _ _ _ _ => false) (fun _ ih f args H n K => Option.rec (motive := fun _ => Bool) (kO (P.funcs[f]?) (fun fn => kO fn.body (fun c => bodyK (hk f) ⟨ih, xo⟩ P N fn c args H n K))) (fun r => elR (some r) (frcR K)) (orc f args H n)) k f args H n K
theorem evFK_eq (hk : FuncId → Hook) (xo : BinOp → C → C → Option C) (orc : Orc) (P : Program) (N : Nat) : ∀ (k : Nat) (f : FuncId) (args : List S) (H : HT) (n : Nat) (K : KR), evFK hk xo orc P N k f args H n K = elR (evF hk xo orc P N k f args H n) K
  | 0, f, args, H, n, K => rfl
  | k + 1, f, args, H, n, K => by
    show Option.rec (motive := fun _ => Bool) (kO (P.funcs[f]?) (fun fn => kO fn.body (fun c => bodyK (hk f) ⟨fun f args H n K => evFK hk xo orc P N k f args H n K, xo⟩ P N fn c args H n K))) (fun r => elR (some r) (frcR K)) (orc f args H n) = _
    simp only [evF]
    rw [frcR_eq]
    cases orc f args H n with
    | some r => rfl
    | none =>
      show kO (P.funcs[f]?) _ = elR (match P.funcs[f]? with | some fn => _ | none => none) K
      rw [kO_eq]
      cases P.funcs[f]? with
      | none => rfl
      | some fn =>
        show kO fn.body _ = elR (match fn.body with | some c => _ | none => none) K
        rw [kO_eq]
        cases fn.body with
        | none => rfl
        | some c =>
          show bodyK _ _ P N fn c args H n K = elR (if args.length ≤ fn.ntmps then _ else none) K
          unfold bodyK
          rw [ble_eq]
          by_cases hle : args.length ≤ fn.ntmps
          · rw [decide_eq_true hle, if_pos hle]
            show argTK args 0 TS.lf _ = elR (match argT 0 args TS.lf with | some A => _ | none => none) K
            rw [argTK_eq]
            cases argT 0 args TS.lf with
            | none => rfl
            | some A =>
              show evCL _ _ P fn.ntmps N c A H n _ = _
              rw [evCL_eq, evCK_eq _ (call := ⟨evF hk xo orc P N k, xo⟩) ⟨fun f args H n K => evFK_eq hk xo orc P N k f args H n K, rfl⟩]
              show _ = elR (match evC (hk f) ⟨evF hk xo orc P N k, xo⟩ P fn.ntmps N c ⟨A, H, n⟩ with | some (.rt, st, F, W) => _ | some (.nm, st, F, W) => _ | _ => none) K
              cases evC (hk f) ⟨evF hk xo orc P N k, xo⟩ P fn.ntmps N c ⟨A, H, n⟩ with
              | none => rfl
              | some r =>
                obtain ⟨x, st, F, W⟩ := r
                have res : resK P fn st.A st.H st.n F W K = elR ((resL P (hg st.H) st.A fn.results.toList).map fun r => (resS r.1, st.H, st.n, F ||| r.2, W)) K := by
                  unfold resK
                  rw [kO_eq]
                  cases resL P (hg st.H) st.A fn.results.toList <;> rfl
                cases x with
                | nm => exact res
                | ex id => rfl
                | rt => exact res
          · rw [decide_eq_false hle, if_neg hle]; rfl
/-- A truth that is so. -/
noncomputable def isB (s : S) (b : Bool) : Bool := S.rec (motive := fun _ => Bool) (fun v => V.rec (motive := fun _ => Bool) (fun c => kBool c (fun x => Bool.rec (motive := fun _ => Bool) (notB b) b x)) (fun _ => false) v) (fun _ => false) false s
theorem isB_eq {s : S} {b : Bool} (h : isB s b = true) : s = .v (.c (.bool b)) := by
  cases s with
  | tup l => cases h
  | un => cases h
  | v v =>
    cases v with
    | agg l => cases h
    | c c =>
      cases c with
      | bool x =>
        have h' : Bool.rec (motive := fun _ => Bool) (notB b) b x = true := h
        cases x <;> cases b <;> first | rfl | cases h'
      | _ => cases h
/-- A closed call. -/
theorem closedK {P : Program} {hk : FuncId → Hook} {xo : BinOp → C → C → Option C} {orc : Orc} {N k : Nat} (hh : HooksOK P hk) (hx : XoOK P xo) (ho : OrcOK P orc) (hP : POk P) {f : FuncId} {c : Bool} (h : evFK hk xo orc P N k f [] HT.lf 0 (fun s _ _ _ _ => isB s c) = true) (w : World) :
    Calls P f #[] w fun e w' => e = .returned (.bool c) ∧ Tch No w w' := by
  refine closed (N := N) (k := k) hh hx ho hP ?_ w
  rw [evFK_eq] at h
  cases he : evF hk xo orc P N k f [] HT.lf 0 with
  | none => rw [he] at h; cases h
  | some r =>
    obtain ⟨s, H, n, F, W⟩ := r
    rw [he] at h
    have := isB_eq (show isB s c = true from h)
    subst this
    cases c <;> rfl
end Go.Proofs.YtcmlgmiomcegeaaGreat.Ev
namespace Go.Proofs.YtcmlgmiomcegeaaGreat.Ev
open Go Go.RowKit Go.Maps
set_option linter.unusedVariables false
set_option linter.unusedSimpArgs false
set_option linter.unusedSectionVars false
variable [Env]
theorem closedA {P : Program} {hk : FuncId → Hook} {xo : BinOp → C → C → Option C} {orc : Orc} {N k : Nat} (hh : HooksOK P hk) (hx : XoOK P xo) (ho : OrcOK P orc) (hP : POk P) {f : FuncId} {c : Bool} (args : List S) (vals : List Value) (hv : RSL (fun _ => ⟨0, 0⟩) (fun _ => False) args vals) (h : evFK hk xo orc P N k f args HT.lf 0 (fun s _ _ _ _ => isB s c) = true) (w : World) :
    Calls P f vals.toArray w fun e w' => e = .returned (.bool c) ∧ Tch No w w' := by
  rw [evFK_eq] at h
  cases he : evF hk xo orc P N k f args HT.lf 0 with
  | none => rw [he] at h; cases h
  | some r =>
    obtain ⟨s, H, n, F, W⟩ := r
    rw [he] at h
    have := isB_eq (show isB s c = true from h)
    subst this
    obtain ⟨_, q⟩ := evF_ok hh hx ho hP k f args HT.lf 0 _ _ _ _ _ he
    have hlf : ∀ i, hg (HT.lf : HT) i = none := fun i => HT.get_lf i
    refine (q (fun _ => ⟨0, 0⟩) (fun _ => False) w vals hv ⟨fun i o e => ?_, fun i j e => ?_⟩ (fun i _ => hlf i) (fun _ _ _ h => h)).mono ?_
    · obtain ⟨_, e⟩ := rst_some.1 e; rw [hlf] at e; cases e
    · obtain ⟨x, hx⟩ := Option.isSome_iff_exists.1 e
      obtain ⟨_, e⟩ := rst_some.1 hx; rw [hlf] at e; cases e
    · rintro e w' ⟨v, σ', rfl, h1, h2⟩
      refine ⟨by rw [show v = .bool c from h1], h2.tch.mono (fun k _ ⟨i, _, g, _⟩ => ?_)⟩
      obtain ⟨x, hx⟩ := Option.isSome_iff_exists.1 g
      obtain ⟨_, e⟩ := rst_some.1 hx; rw [hlf] at e; cases e
/-! ### A number from outside between bounds, and not one of some -/
noncomputable def someB (b : Bool) : Option C := some (.bool b)
noncomputable def ltR (lo hi : Option Int) (c : Int) : Option Bool := match hi with
  | some h => if h < c then some true else (match lo with | some l => if c ≤ l then some false else none | none => none)
  | none => match lo with | some l => if c ≤ l then some false else none | none => none
noncomputable def eqR (lo hi : Option Int) (ne : List Int) (c : Int) : Option Bool := if ltR lo hi c = some true then some false else if ltR lo hi (c + 1) = some false then some false else if ne.contains c then some false else none
/-- x op c, for x from outside. -/
noncomputable def cmpR (lo hi : Option Int) (ne : List Int) (op : BinOp) (c : Int) : Option Bool := match op with
  | .lss => ltR lo hi c
  | .leq => ltR lo hi (c + 1)
  | .gtr => (ltR lo hi (c + 1)).map not
  | .geq => (ltR lo hi c).map not
  | .eql => eqR lo hi ne c
  | .neq => (eqR lo hi ne c).map not
  | _ => none
noncomputable def flipR : BinOp → BinOp
  | .lss => .gtr | .leq => .geq | .gtr => .lss | .geq => .leq | op => op
noncomputable def xoR (j : Nat) (lo hi : Option Int) (ne : List Int) (op : BinOp) (a b : C) : Option C := match a, b with
  | .ext i, .int .i64 c => if i = j then (cmpR lo hi ne op c).map .bool else none
  | .int .i64 c, .ext i => if i = j then (cmpR lo hi ne (flipR op) c).map .bool else none
  | _, _ => none
theorem ltR_ok {lo hi : Option Int} {c x : Int} {b : Bool} (h : ltR lo hi c = some b) (hl : ∀ l, lo = some l → l ≤ x) (hh : ∀ l, hi = some l → x ≤ l) : decide (x < c) = b := by
  unfold ltR at h
  split at h
  · rename_i u
    have := hh u rfl
    split at h
    · cases h; simp; omega
    · split at h
      · rename_i l
        have := hl l rfl
        split at h
        · cases h; simp; omega
        · cases h
      · cases h
  · split at h
    · rename_i l
      have := hl l rfl
      split at h
      · cases h; simp; omega
      · cases h
    · cases h
theorem eqR_ok {lo hi : Option Int} {ne : List Int} {c x : Int} {b : Bool} (h : eqR lo hi ne c = some b) (hl : ∀ l, lo = some l → l ≤ x) (hh : ∀ l, hi = some l → x ≤ l) (hn : ∀ y ∈ ne, x ≠ y) : (x == c) = b := by
  unfold eqR at h
  split at h
  · rename_i h1
    cases h
    have := ltR_ok h1 hl hh
    simp at this ⊢; omega
  · split at h
    · rename_i h1
      cases h
      have := ltR_ok h1 hl hh
      simp at this ⊢; omega
    · split at h
      · rename_i h1
        cases h
        have := hn c (List.contains_iff_mem.1 h1)
        simp [this]
      · cases h
theorem cmpR_ok {lo hi : Option Int} {ne : List Int} {op : BinOp} {c x : Int} {b : Bool} (h : cmpR lo hi ne op c = some b) (hl : ∀ l, lo = some l → l ≤ x) (hh : ∀ l, hi = some l → x ≤ l) (hn : ∀ y ∈ ne, x ≠ y) : intC op .i64 x .i64 c = some (.bool b) := by
  unfold cmpR at h
  split at h
  · have := ltR_ok h hl hh; simp only [intC, if_true]; rw [this]
  · have := ltR_ok h hl hh; simp only [intC, if_true]; rw [← this]; congr 2; simp; omega
  · rw [Option.map_eq_some_iff] at h
    obtain ⟨b', h1, rfl⟩ := h
    have := ltR_ok h1 hl hh; simp only [intC, if_true]; rw [← this]; congr 2; rw [Bool.eq_iff_iff]; simp; omega
  · rw [Option.map_eq_some_iff] at h
    obtain ⟨b', h1, rfl⟩ := h
    have := ltR_ok h1 hl hh; simp only [intC, if_true]; rw [← this]; congr 2; rw [Bool.eq_iff_iff]; simp
  · have := eqR_ok h hl hh hn; simp only [intC, if_true]; rw [this]
  · rw [Option.map_eq_some_iff] at h
    obtain ⟨b', h1, rfl⟩ := h
    have := eqR_ok h1 hl hh hn; simp only [intC, if_true]; rw [← this]; rfl
  · cases h
theorem flipR_ok {op : BinOp} {c x : Int} {b : Bool} (hop : op = .lss ∨ op = .leq ∨ op = .gtr ∨ op = .geq ∨ op = .eql ∨ op = .neq) (h : intC (flipR op) .i64 x .i64 c = some (.bool b)) : intC op .i64 c .i64 x = some (.bool b) := by
  rcases hop with rfl | rfl | rfl | rfl | rfl | rfl <;> simp only [flipR, intC, if_true] at h ⊢
  · exact h
  · exact h
  · exact h
  · exact h
  · rw [← h, show (c == x) = (x == c) by rw [Bool.eq_iff_iff, beq_iff_eq, beq_iff_eq]; exact ⟨Eq.symm, Eq.symm⟩]
  · rw [← h, bne, bne, show (c == x) = (x == c) by rw [Bool.eq_iff_iff, beq_iff_eq, beq_iff_eq]; exact ⟨Eq.symm, Eq.symm⟩]
theorem cmpR_op {lo hi : Option Int} {ne : List Int} {op : BinOp} {c : Int} {b : Bool} (h : cmpR lo hi ne (flipR op) c = some b) : op = .lss ∨ op = .leq ∨ op = .gtr ∨ op = .geq ∨ op = .eql ∨ op = .neq := by
  cases op <;> simp [flipR, cmpR] at h ⊢
/-- What is said of a number from outside is so. -/
theorem xoR_ok {P : Program} {j : Nat} {lo hi : Option Int} {ne : List Int} {x : Int} (hj : Env.val j = .int .i64 x) (hl : ∀ l, lo = some l → l ≤ x) (hh : ∀ l, hi = some l → x ≤ l) (hn : ∀ y ∈ ne, x ≠ y) : XoOK P (xoR j lo hi ne) := by
  intro op a b c h σ D u v w t ha hb
  unfold xoR at h
  split at h
  · rename_i i q
    split at h
    · rename_i hij
      subst hij
      rw [Option.map_eq_some_iff] at h
      obtain ⟨r, h1, rfl⟩ := h
      have e1 : u = .int .i64 x := (show u = Env.val i from ha).trans hj
      have e2 : v = .int .i64 q := hb
      subst e1; subst e2
      obtain ⟨z, g1, g2⟩ := intC_ok (P := P) (σ := σ) (D := D) (w := w) t (cmpR_ok h1 hl hh hn)
      exact ⟨z, g1, rfl, by simp, g2⟩
    · cases h
  · rename_i q i
    split at h
    · rename_i hij
      subst hij
      rw [Option.map_eq_some_iff] at h
      obtain ⟨r, h1, rfl⟩ := h
      have e1 : v = .int .i64 x := (show v = Env.val i from hb).trans hj
      have e2 : u = .int .i64 q := ha
      subst e1; subst e2
      obtain ⟨z, g1, g2⟩ := intC_ok (P := P) (σ := σ) (D := D) (w := w) t (flipR_ok (cmpR_op h1) (cmpR_ok h1 hl hh hn))
      exact ⟨z, g1, rfl, by simp, g2⟩
    · cases h
  · cases h
end Go.Proofs.YtcmlgmiomcegeaaGreat.Ev
namespace Go.Proofs.YtcmlgmiomcegeaaGreat.Ev
open Go Go.RowKit Go.Maps
set_option linter.unusedVariables false
set_option linter.unusedSimpArgs false
set_option linter.unusedSectionVars false
variable [Env]

/-! ### A segment's name -/
def segN (n : Nat) : List UInt8 := [108, 111, 103, UInt8.ofNat (48 + n / 100), UInt8.ofNat (48 + n / 10 % 10), UInt8.ofNat (48 + n % 10)]
def nameN (n : Nat) : ByteArray := ⟨(segN n).toArray⟩
def digN (n : Nat) : List UInt8 := [UInt8.ofNat (48 + n / 100), UInt8.ofNat (48 + n / 10 % 10), UInt8.ofNat (48 + n % 10)]
theorem addN {P : Program} (n : Nat) (w : World) : (Op.stringOp .add ⟨#[108, 111, 103]⟩ ⟨(digN n).toArray⟩).run P w = .ok (.string (nameN n)) w := by
  rw [run_string_add (P := P) (w := w) ⟨#[108, 111, 103]⟩ ⟨(digN n).toArray⟩ (by decide) (by
    have h1 : (⟨#[108, 111, 103]⟩ : ByteArray).size = 3 := rfl
    have h2 : (⟨(digN n).toArray⟩ : ByteArray).size = 3 := rfl
    omega)]
  rfl
set_option maxRecDepth 100000 in
theorem convN (n : Nat) (hn : n ≤ 999) (w : World) : (convert 128 9 (.slice (some ⟨w.heap.size, 0, none⟩) 3 3)).run Tryz.prog (w.alloc (.cells #[.int .u8 (48 + (n : Int) / 100), .int .u8 (48 + (n : Int) / 10 % 10), .int .u8 (48 + (n : Int) % 10)] 5)) = .ok (.string ⟨(digN n).toArray⟩) (w.alloc (.cells #[.int .u8 (48 + (n : Int) / 100), .int .u8 (48 + (n : Int) / 10 % 10), .int .u8 (48 + (n : Int) % 10)] 5)) := by
  have h1 : ((UInt8.ofNat (48 + n / 100)).toNat : Int) = 48 + (n : Int) / 100 := by simp; omega
  have h2 : ((UInt8.ofNat (48 + n / 10 % 10)).toNat : Int) = 48 + (n : Int) / 10 % 10 := by simp; omega
  have h3 : ((UInt8.ofNat (48 + n % 10)).toNat : Int) = 48 + (n : Int) % 10 := by simp; omega
  have hC : (#[.int .u8 (48 + (n : Int) / 100), .int .u8 (48 + (n : Int) / 10 % 10), .int .u8 (48 + (n : Int) % 10)] : Array Value) = (u8s (digN n)).toArray := by
    simp only [digN, u8s, List.map_cons, List.map_nil, h1, h2, h3]
  exact (SlB.lit w _ (digN n) 3 5 (0, 0) rfl hC (by simp [lim])).str (P := Tryz.prog) Tryz.underlying128 Tryz.underlying5 Tryz.underlying9
set_option maxRecDepth 100000 in
set_option maxHeartbeats 1000000 in
theorem nameN_any (n : Nat) (hn : n ≤ 999) (w : World) : Calls Tryz.prog 246 #[.int .i64 n] w fun e w' => e = .returned (.string (nameN n)) ∧ Tch No w w' := by
  have p1 : (0 : Int) ≤ (n : Int) := by omega
  have p2 : (n : Int) ≤ 999 := by omega
  have p3 : ¬ (n : Int) < 0 := by omega
  have p4 : ¬ 999 < (n : Int) := by omega
  have hc := convN n hn w
  have ha := fun W => addN (P := Tryz.prog) n W
  go_enter Tryz.func246, Tryz.ntmps246
  go_wp2_with fail
  go_ret
  exact ⟨rfl, Tch.alloc _ _⟩
/-! ### A file that is not there -/
structure NoKey (w : World) (db mb : Nat) (s : ByteArray) : Prop where
  cell : w.cell? ⟨db, 1, none⟩ = some (.map (some mb))
  map : ∃ (m : Array MapEntry) (cl : Nat), w.heap[mb]? = some (.map m cl) ∧ Instr.findNow .string (.string s) m.toList 0 = some none
theorem NoKey.keep {w w' : World} {db mb : Nat} {s : ByteArray} (h : NoKey w db mb s) (t : Tch No w w') : NoKey w' db mb s := by
  obtain ⟨m, cl, h1, h2⟩ := h.map
  have hlt : mb < w.heap.size := (Array.getElem?_eq_some_iff.1 h1).1
  exact ⟨t.cell h.cell (fun h => h), m, cl, (t.block mb hlt (fun h => h)).trans h1, h2⟩
theorem zeroN (w : World) : (zeroValue 141).run Tryz.prog w = .ok (.pointer none) w := by kernel_rfl
theorem NoKey.look {w : World} {db mb : Nat} {s : ByteArray} (h : NoKey w db mb s) : (Instr.lookup 111 (.map (some mb)) (.string s) false).run Tryz.prog w = .ok (.pointer none) w := by
  obtain ⟨m, cl, h1, h2⟩ := h.map
  have hd : Tryz.prog.underlying 9 = some .string := Tryz.underlying9
  have hk := fun b v w => run_checkKey (P := Tryz.prog) hd rfl b v w
  have hfk := fun w => run_findKey (P := Tryz.prog) (r := none) hd h2 w
  simp [Instr.lookup, run_underlying Tryz.underlying111, getObj, Sem.run, h1, hk, hfk, zeroN]
set_option maxRecDepth 100000 in
set_option maxHeartbeats 1000000 in
theorem get_no {w : World} {db mb : Nat} {s : ByteArray} (h : NoKey w db mb s) :
    Calls Tryz.prog 244 #[.pointer (some ⟨db, 0, none⟩), .string s] w fun e w' => e = .returned (.pointer none) ∧ w = w' := by
  have hl := h.look
  have h1 := h.cell
  clear h
  go_enter Tryz.func244, Tryz.ntmps244
  go_wp2
  go_ret
  exact ⟨rfl, rfl⟩
set_option maxRecDepth 100000 in
set_option maxHeartbeats 1000000 in
theorem read_no {w : World} {db mb : Nat} {s : ByteArray} (h : NoKey w db mb s) :
    Calls Tryz.prog 159 #[.pointer (some ⟨db, 0, none⟩), .string s] w fun e w' => e = .returned (.tuple #[.slice none 0 0, .bool false]) ∧ w = w' := by
  have hc := Lib.hid (get_no h)
  clear h
  go_enter Tryz.func159, Tryz.ntmps159
  go_wp2_with (go_at_call 244; go_must (refine hc.out.mono ?_); rintro e w1 ⟨rfl, rfl⟩)
  go_ret2
  exact ⟨rfl, rfl⟩
/-! ### A round -/
def firstLoop : Code → Option Code
  | .loop c => some c
  | .seq a b => match firstLoop a with | some c => some c | none => firstLoop b
  | .cond _ a b => match firstLoop a with | some c => some c | none => firstLoop b
  | .block _ c => firstLoop c
  | _ => none
def kept : List Nat := [2, 3, 4, 5, 6, 10, 11, 12, 13, 14, 15, 16, 17, 18, 19, 20, 21, 22, 23, 24, 25, 26, 27, 28, 29, 43, 44, 45, 46, 47, 48, 49, 50, 51, 52, 53, 54, 55, 56, 57, 58, 59, 60, 61, 62, 63, 64, 65, 66, 67, 68, 69, 70, 71, 72, 73, 74, 75, 76, 77, 78, 79, 80, 81, 82, 83, 84, 85, 86, 87, 88, 89, 90, 91, 92, 93, 94, 95, 96]
def gone : List Nat := [8, 9, 30, 31, 32, 33, 34, 35, 36, 37, 38, 39, 40, 41, 42]
set_option maxRecDepth 100000 in
set_option maxHeartbeats 4000000 in
theorem scan_round : ∃ c, firstLoop (Tryz.f161.body.getD .skip) = some c ∧ ∀ (x : Nat → Value) (d : _) (w : World) (db mb n f : Nat) (Q : Exit → Act → World → Prop), f < n → n ≤ 999 → NoKey w db mb (nameN n) → x 0 = .pointer (some ⟨db, 0, none⟩) → x 1 = .int .i64 f → x 7 = .int .i64 n →
    (∀ (L : List Value) (w' : World), L.length = 97 → L.getD 0 undef = .pointer (some ⟨db, 0, none⟩) → L.getD 1 undef = .int .i64 f → L.getD 7 undef = .int .i64 ((n - 1 : Nat) : Int) → kept.map (fun i => L.getD i undef) = kept.map x → Tch No w w' → Q .normal ⟨L.toArray, d⟩ w') →
    c.wp Tryz.prog Q ⟨((List.range 97).map x).toArray, d⟩ w := by
  refine ⟨_, rfl, fun x d w db mb n f Q hfn hn hk h0 h1 h7 hQ => ?_⟩
  have hx : ((List.range 97).map x).toArray = #[x 0, x 1, x 2, x 3, x 4, x 5, x 6, x 7, x 8, x 9, x 10, x 11, x 12, x 13, x 14, x 15, x 16, x 17, x 18, x 19, x 20, x 21, x 22, x 23, x 24, x 25, x 26, x 27, x 28, x 29, x 30, x 31, x 32, x 33, x 34, x 35, x 36, x 37, x 38, x 39, x 40, x 41, x 42, x 43, x 44, x 45, x 46, x 47, x 48, x 49, x 50, x 51, x 52, x 53, x 54, x 55, x 56, x 57, x 58, x 59, x 60, x 61, x 62, x 63, x 64, x 65, x 66, x 67, x 68, x 69, x 70, x 71, x 72, x 73, x 74, x 75, x 76, x 77, x 78, x 79, x 80, x 81, x 82, x 83, x 84, x 85, x 86, x 87, x 88, x 89, x 90, x 91, x 92, x 93, x 94, x 95, x 96] := rfl
  rw [hx, h0, h1, h7]
  clear hx h0 h1 h7
  have HQ := Lib.hid hQ
  have HR : Hid (∀ W, Tch No w W → Calls Tryz.prog 159 #[.pointer (some ⟨db, 0, none⟩), .string (nameN n)] W fun e w' => e = .returned (.tuple #[.slice none 0 0, .bool false]) ∧ W = w') := fun W hW => read_no (hk.keep hW)
  have p1 : (f : Int) < (n : Int) := by omega
  clear hQ hk
  go_wp2_with fail
  refine (nameN_any n hn w).mono ?_
  rintro e w4 ⟨rfl, t4⟩
  have T4 := Lib.hid t4; clear t4
  go_wp2_with fail
  refine (HR.out _ T4.out).mono ?_
  rintro e w5 ⟨rfl, rfl⟩
  go_wp2_with fail
  exact HQ.out _ _ rfl rfl rfl (by show (Value.int .i64 _) = _; go_num) rfl T4.out
/-! ### All rounds -/
noncomputable def loopsOf : Code → List Code
  | .loop c => c :: loopsOf c
  | .seq a b => loopsOf a ++ loopsOf b
  | .cond _ a b => loopsOf a ++ loopsOf b
  | .block _ c => loopsOf c
  | _ => []
noncomputable def scanC : Code := (firstLoop (Tryz.f161.body.getD .skip)).getD .skip
theorem list_of {L : List Value} {n : Nat} (h : L.length = n) : L = (List.range n).map (fun i => L.getD i undef) := by
  refine List.ext_getElem (by simp [h]) (fun i h1 h2 => ?_)
  simp [List.getD, h1]
theorem scan_skip (f m : Nat) (d : _) (db mb k : Nat) (Q : Exit → Act → World → Prop) (hfm : f ≤ m) : ∀ (j : Nat) (x : Nat → Value) (w : World), m + j ≤ 999 → (∀ i, m < i → i ≤ m + j → NoKey w db mb (nameN i)) → x 0 = .pointer (some ⟨db, 0, none⟩) → x 1 = .int .i64 f → x 7 = .int .i64 ((m + j : Nat) : Int) →
    (∀ (x' : Nat → Value) (w' : World), x' 0 = .pointer (some ⟨db, 0, none⟩) → x' 1 = .int .i64 f → x' 7 = .int .i64 (m : Int) → (∀ i ∈ kept, x' i = x i) → Tch No w w' → LoopN Tryz.prog scanC Q k ⟨((List.range 97).map x').toArray, d⟩ w') →
    LoopN Tryz.prog scanC Q (k + j) ⟨((List.range 97).map x).toArray, d⟩ w
  | 0, x, w, _, _, h0, h1, h7, h => h x w h0 h1 h7 (fun _ _ => rfl) (Tch.refl _ _)
  | j + 1, x, w, hm, hk, h0, h1, h7, h => by
    obtain ⟨c, hc, hr⟩ := scan_round
    have e : scanC = c := by unfold scanC; rw [hc]; rfl
    show scanC.wp Tryz.prog (Exit.then (LoopN Tryz.prog scanC Q (k + j)) Q) _ w
    have hr2 := hr x d w db mb (m + (j + 1)) f (Exit.then (LoopN Tryz.prog scanC Q (k + j)) Q) (by omega) hm (hk _ (by omega) (Nat.le_refl _)) h0 h1 h7 (fun L w' hl e0 e1 e7 ek ht => ?_)
    · rw [← e] at hr2; exact hr2
    · show LoopN Tryz.prog scanC Q (k + j) _ w'
      have hx : L.toArray = ((List.range 97).map (fun i => L.getD i undef)).toArray := congrArg List.toArray (list_of hl)
      rw [hx]
      refine scan_skip f m d db mb k Q hfm j (fun i => L.getD i undef) w' (by omega) (fun i a b => (hk i a (by omega)).keep ht) e0 e1 (by rw [e7]; rfl) (fun x' w2 a0 a1 a7 ak at2 => h x' w2 a0 a1 a7 (fun i hi => ?_) (ht.trans0 at2))
      rw [ak i hi]
      exact List.map_inj_left.1 ek i hi
/-! ### What an abstract run is told -/
noncomputable def segNo : List UInt8 → Nat
  | [_, _, _, a, b, c] => (a.toNat - 48) * 100 + (b.toNat - 48) * 10 + (c.toNat - 48)
  | _ => 0
theorem segNo_segN (n : Nat) (h : n ≤ 999) : segNo (segN n) = n := by
  have h1 : (UInt8.ofNat (48 + n / 100)).toNat = 48 + n / 100 := by simp; omega
  have h2 : (UInt8.ofNat (48 + n / 10 % 10)).toNat = 48 + n / 10 % 10 := by simp; omega
  have h3 : (UInt8.ofNat (48 + n % 10)).toNat = 48 + n % 10 := by simp; omega
  simp only [segNo, segN, h1, h2, h3]
  omega
/-- No name of a segment above it is there; a thousand: that is not told. -/
noncomputable def topSeg (f : Nat) : List (C × V × Nat) → Nat
  | [] => f
  | e :: es => match e.1 with
    | .str s => Nat.max (segNo s) (topSeg f es)
    | _ => 1000
theorem topSeg_none {f n : Nat} : ∀ {es : List (C × V × Nat)} (i : Nat), topSeg f es < n → n ≤ 999 → findK .string (.str (segN n)) es i = some none
  | [], i, _, _ => rfl
  | e :: es, i, h, hn => by
    unfold topSeg at h
    split at h
    · rename_i s hs
      have h1 : segNo s < n := Nat.lt_of_le_of_lt (Nat.le_max_left _ _) h
      have h2 : topSeg f es < n := Nat.lt_of_le_of_lt (Nat.le_max_right _ _) h
      have hne : (segN n == s) = false := by
        rw [beq_eq_false_iff_ne]
        intro e1
        rw [← e1, segNo_segN n hn] at h1
        exact Nat.lt_irrefl _ h1
      simp only [findK, hs, eqX, eqK, hne]
      exact topSeg_none (i + 1) h2 hn
    · omega
theorem topSeg_ge {f : Nat} : ∀ {es : List (C × V × Nat)}, f ≤ 1000 → f ≤ topSeg f es
  | [], _ => Nat.le_refl _
  | e :: es, h => by
    unfold topSeg
    split
    · exact Nat.le_trans (topSeg_ge h) (Nat.le_max_right _ _)
    · exact h
noncomputable def forgetL : List Nat → TS → Option TS
  | [], A => some A
  | k :: l, A => match TS.put A k none with
    | some A' => forgetL l A'
    | none => none
theorem forgetL_ok : ∀ {l : List Nat} {A A' : TS}, forgetL l A = some A' → ∀ t, A'.get t = if t ∈ l then none else A.get t
  | [], A, A', h, t => by simp only [forgetL, Option.some.injEq] at h; subst h; simp
  | k :: l, A, A', h, t => by
    simp only [forgetL] at h
    split at h
    · rename_i A1 h1
      rw [forgetL_ok h t, TS.get_put h1]
      by_cases e : t ∈ l
      · rw [if_pos e, if_pos (List.mem_cons_of_mem _ e)]
      · rw [if_neg e]
        by_cases e2 : t = k
        · rw [if_pos e2, if_pos (by rw [e2]; exact List.mem_cons_self ..)]
        · rw [if_neg e2, if_neg (by simp [e, e2])]
    · cases h
noncomputable def scanTo (st : St) (di mi f v m : Nat) : Option (St × Nat) := Bool.rec (motive := fun _ => Option (St × Nat)) none (match forgetL gone st.A with
    | some A1 => match TS.put A1 7 (some (.v (.c (.int .i64 (Int.ofNat m))))) with
      | some A2 => some (⟨A2, st.H, st.n⟩, one di ||| one mi)
      | none => none
    | none => none) (Nat.ble v 999 && Nat.ble f 999 && Nat.ble (Nat.succ m) v)
noncomputable def scanG (st : St) : Option (St × Nat) := match st.A.get 0, st.A.get 1, st.A.get 7 with
  | some (.v (.c (.ptr di 0))), some (.v (.c (.int .i64 (Int.ofNat f)))), some (.v (.c (.int .i64 (Int.ofNat v)))) => match hg st.H di with
    | some ob => match (ob.cs[1]? : Option C) with
      | some (C.map mi) => match hg st.H mi with
        | some mo => match mo.k with
          | .mp es cl => scanTo st di mi f v (topSeg f es)
          | _ => none
        | none => none
      | _ => none
    | none => none
  | _, _, _ => none
theorem scanG_ok {st st' : St} {F : Nat} (h : scanG st = some (st', F)) : SkipOK Tryz.prog 97 scanC st st' F := by
  unfold scanG at h
  split at h
  · rename_i di f v g0 g1 g7
    split at h
    · rename_i ob hob
      split at h
      · rename_i mi hmi
        split at h
        · rename_i mo hmo
          split at h
          · rename_i es cl hes
            unfold scanTo at h
            cases hb : (Nat.ble v 999 && Nat.ble f 999 && Nat.ble (Nat.succ (topSeg f es)) v) with
            | false => rw [hb] at h; cases h
            | true =>
              rw [hb] at h
              simp only [Bool.and_eq_true] at hb
              obtain ⟨⟨b1, b2⟩, b3⟩ := hb
              have c1 := Nat.le_of_ble_eq_true b1
              have c2 := Nat.le_of_ble_eq_true b2
              have c3 := Nat.le_of_ble_eq_true b3
              simp only at h
              split at h
              · rename_i A1 hA1
                split at h
                · rename_i A2 hA2
                  simp only [Option.some.injEq, Prod.mk.injEq] at h
                  obtain ⟨rfl, rfl⟩ := h
                  have hget : ∀ t, A2.get t = if t = 7 then some (.v (.c (.int .i64 (Int.ofNat (topSeg f es))))) else if t ∈ gone then none else st.A.get t := fun t => by
                    rw [TS.get_put hA2, forgetL_ok hA1]
                  refine ⟨rfl, rfl, fun σ D w a Q k hA hs hK => ?_⟩
                  have hF1 : tb (one di ||| one mi) di = true := tb_or_l tb_one
                  have hF2 : tb (one di ||| one mi) mi = true := tb_or_r tb_one
                  obtain ⟨_, hO⟩ := obj_of hs hF1 hob
                  obtain ⟨v0, c4, c5⟩ := cell_of hO hmi
                  have c6 : v0 = .map (some (σ mi).b) := c5.2
                  subst c6
                  obtain ⟨_, mm, hm1, hm2⟩ := map_of hs hF2 hmo hes
                  have ha0 := hA.2 0 _ g0
                  have ha1 := hA.2 1 _ g1
                  have ha7 := hA.2 7 _ g7
                  obtain ⟨tmps, df⟩ := a
                  have hsz : tmps.size = 97 := hA.1
                  have hT : tmps = ((List.range 97).map (fun i => tmps.getD i undef)).toArray := by
                    have := congrArg List.toArray (list_of (L := tmps.toList) (n := 97) (by simpa using hsz))
                    simpa [List.getD] using this
                  have hev : ∀ t, (Act.mk tmps df).eval (.tmp t) = tmps.getD t undef := fun t => rfl
                  refine ⟨k + (v - topSeg f es), ?_⟩
                  rw [hT]
                  have hge := topSeg_ge (f := f) (es := es) (by omega)
                  refine scan_skip f (topSeg f es) df (σ di).b (σ mi).b k Q hge (v - topSeg f es) _ w (by omega) (fun i h1 h2 => ⟨c4, mm, cl, hm1, ?_⟩) ha0.2.2 ha1.2 (by rw [show topSeg f es + (v - topSeg f es) = v by omega]; exact ha7.2) (fun x' w' e0 e1 e7 ek ht => ?_)
                  · exact findK_ok (k := .str (segN i)) (x := .string (nameN i)) rfl (topSeg_none 0 h1 (by omega)) hm2
                  · refine hK _ w' ⟨by simp, fun t s e => ?_⟩ rfl ht
                    rw [hget] at e
                    have hev2 : ∀ t : Nat, t < 97 → (Act.mk ((List.range 97).map x').toArray df).eval (.tmp t) = x' t := fun t ht => by
                      show ((List.range 97).map x').toArray.getD t undef = x' t
                      simp [Array.getD, ht]
                    split at e
                    · rename_i e2
                      subst e2
                      cases e
                      refine ⟨by omega, ?_⟩
                      rw [hev2 7 (by decide), e7]
                      exact rfl
                    · rename_i hn7
                      split at e
                      · cases e
                      · rename_i hng
                        obtain ⟨q1, q2⟩ := hA.2 t s e
                        refine ⟨q1, ?_⟩
                        rw [hev2 t q1]
                        have hq : x' t = tmps.getD t undef := by
                          by_cases t0 : t = 0
                          · subst t0; rw [e0]; exact ha0.2.2.symm
                          by_cases t1 : t = 1
                          · subst t1; rw [e1]; exact ha1.2.symm
                          refine ek t ?_
                          have key : ∀ t : Fin 97, t.val ≠ 7 → t.val ∉ gone → t.val ≠ 0 → t.val ≠ 1 → t.val ∈ kept := by decide +kernel
                          exact key ⟨t, q1⟩ hn7 hng t0 t1
                        rw [hq]; exact q2
                · cases h
              · cases h
          · cases h
        · cases h
      · cases h
    · cases h
  · cases h
noncomputable def regId : Code → Nat
  | .region id _ _ => id
  | .seq a _ => regId a
  | .block _ c => regId c
  | _ => 0
noncomputable def scanK : Hook := fun c => Bool.rec (motive := fun _ => Option (St → Option (St × Nat))) none (some scanG) (Nat.beq (regId c) 8)
noncomputable def scanH : FuncId → Hook := fun f => Bool.rec (motive := fun _ => Hook) noHook scanK (Nat.beq f 161)
theorem hookOK_of {P : Program} {nt : Nat} {hk : Hook} : ∀ (c : Code), (∀ c' ∈ loopsOf c, ∀ g, hk c' = some g → ∀ st st' F, g st = some (st', F) → SkipOK P nt c' st st' F) → HookOK P nt hk c
  | .seq a b, h => ⟨hookOK_of a (fun c hc => h c (List.mem_append_left _ hc)), hookOK_of b (fun c hc => h c (List.mem_append_right _ hc))⟩
  | .cond _ a b, h => ⟨hookOK_of a (fun c hc => h c (List.mem_append_left _ hc)), hookOK_of b (fun c hc => h c (List.mem_append_right _ hc))⟩
  | .block _ c, h => hookOK_of c h
  | .loop c, h => ⟨h c (List.mem_cons_self ..), hookOK_of c (fun c' hc => h c' (List.mem_cons_of_mem _ hc))⟩
  | .skip, _ => trivial
  | .region .., _ => trivial
  | .rangeFunc .., _ => trivial
  | .exit _, _ => trivial
  | .scope _, _ => trivial
  | .label _, _ => trivial
  | .goto _, _ => trivial
  | .ret, _ => trivial
  | .refuse _, _ => trivial
theorem scan_loops : (loopsOf (Tryz.f161.body.getD .skip)).map regId = [8, 14] ∧ (loopsOf (Tryz.f161.body.getD .skip))[0]? = some scanC := ⟨by kernel_rfl, by kernel_rfl⟩
theorem scanH_ok : HooksOK Tryz.prog scanH := by
  intro f fn c hfn hc
  unfold scanH scanK
  cases hb : Nat.beq f 161 with
  | false => exact noHook_ok _ _ c
  | true =>
    have hf := Nat.eq_of_beq_eq_true hb
    subst hf
    have e := Tryz.func161
    rw [e] at hfn
    cases hfn
    have hnt : Tryz.f161.ntmps = 97 := by kernel_rfl
    rw [hnt]
    obtain ⟨h1, h2⟩ := scan_loops
    rw [hc] at h1 h2
    simp only [Option.getD_some] at h1 h2
    refine hookOK_of c (fun c' hc' g hg st st' F h => ?_)
    obtain ⟨i, hi, rfl⟩ := List.getElem_of_mem hc'
    have hlen : (loopsOf c).length = 2 := by have := congrArg List.length h1; simpa using this
    have hreg : ∀ j : Nat, ((loopsOf c).map regId)[j]? = ([8, 14] : List Nat)[j]? := fun j => by rw [h1]
    have hi2 : i = 0 ∨ i = 1 := by omega
    rcases hi2 with rfl | rfl
    · rw [List.getElem?_eq_getElem hi, Option.some.injEq] at h2
      rw [h2] at hg ⊢
      have hg : Bool.rec (motive := fun _ => Option (St → Option (St × Nat))) none (some scanG) (Nat.beq (regId scanC) 8) = some g := hg
      cases hb2 : Nat.beq (regId scanC) 8 with
      | false => rw [hb2] at hg; cases hg
      | true => rw [hb2] at hg; cases hg; exact scanG_ok h
    · have := hreg 1
      rw [List.getElem?_map, List.getElem?_eq_getElem hi] at this
      simp only [Option.map_some, List.getElem?_cons_succ, List.getElem?_cons_zero, Option.some.injEq] at this
      have hg : Bool.rec (motive := fun _ => Option (St → Option (St × Nat))) none (some scanG) (Nat.beq (regId (loopsOf c)[1]) 8) = some g := hg
      rw [this] at hg
      cases hg
end Go.Proofs.YtcmlgmiomcegeaaGreat.Ev
namespace Go.Proofs.YtcmlgmiomcegeaaGreat.Ev
open Go Go.RowKit Go.Maps
set_option linter.unusedVariables false
set_option linter.unusedSimpArgs false
set_option linter.unusedSectionVars false
variable [Env]
/-- A heap that has a row from outside alone. -/
noncomputable def rowH (f m : Nat) : Option HT := HT.put HT.lf 0 (some ⟨0, [], false, .row f m⟩)
noncomputable def rowK (f m : Nat) (k : HT → Bool) : Bool := HT.putK HT.lf 0 (some ⟨0, [], false, .row f m⟩) k
noncomputable def isB0 (s : S) (c : Bool) (W : Nat) : Bool := Bool.rec (motive := fun _ => Bool) (isB s c) false (Nat.testBit W 0)
theorem closed1 {P : Program} {hk : FuncId → Hook} {xo : BinOp → C → C → Option C} {orc : Orc} {N k : Nat} (hh : HooksOK P hk) (hx : XoOK P xo) (ho : OrcOK P orc) (hP : POk P) {f : FuncId} {c : Bool} {fr m b : Nat} (args : List S) (vals : List Value) (hv : RSL (fun _ => ⟨b, 0⟩) (fun i => i = 0) args vals) (w : World) (hr : ObjRow (fun _ => ⟨b, 0⟩) 0 fr m w)
    (h : rowK fr m (fun H => evFK hk xo orc P N k f args H 1 (fun s _ _ _ W => isB0 s c W)) = true) :
    Calls P f vals.toArray w fun e w' => e = .returned (.bool c) ∧ Tch No w w' := by
  unfold rowK at h
  rw [HT.putK_eq] at h
  cases hH : HT.put HT.lf 0 (some ⟨0, [], false, .row fr m⟩) with
  | none => rw [hH] at h; cases h
  | some H0 =>
    rw [hH] at h
    have h : evFK hk xo orc P N k f args H0 1 (fun s _ _ _ W => isB0 s c W) = true := h
    rw [evFK_eq] at h
    cases he : evF hk xo orc P N k f args H0 1 with
    | none => rw [he] at h; cases h
    | some r =>
      obtain ⟨s, H, n, F, W⟩ := r
      rw [he] at h
      have h' : isB0 s c W = true := h
      have hW : tb W 0 = false := by
        unfold isB0 at h'
        unfold tb
        cases e : Nat.testBit W 0 with
        | false => rfl
        | true => rw [e] at h'; cases h'
      have h2 : isB s c = true := by
        unfold isB0 at h'
        rw [show Nat.testBit W 0 = false from hW] at h'
        exact h'
      have := isB_eq h2
      subst this
      obtain ⟨_, q⟩ := evF_ok hh hx ho hP k f args H0 1 _ _ _ _ _ he
      have hg0 : ∀ i, hg H0 i = if i = 0 then some ⟨0, [], false, .row fr m⟩ else none := fun i => by
        show HT.get H0 i = _
        rw [HT.get_put hH, HT.get_lf]
      have hob : ∀ i o, hg H0 i = some o → i = 0 ∧ o = ⟨0, [], false, .row fr m⟩ := fun i o e => by
        rw [hg0] at e
        split at e
        · rename_i hi; cases e; exact ⟨hi, rfl⟩
        · cases e
      refine (q (fun _ => ⟨b, 0⟩) (fun i => i = 0) w vals hv ⟨fun i o e => ?_, fun i j hi hj e => ?_⟩ (fun i hi => ?_) (fun i h1 _ h2 => ?_)).mono ?_
      · obtain ⟨_, e⟩ := rst_some.1 e
        obtain ⟨rfl, rfl⟩ := hob i o e
        exact ⟨rfl, rfl, hr⟩
      · obtain ⟨x, hx⟩ := Option.isSome_iff_exists.1 hi
        obtain ⟨y, hy⟩ := Option.isSome_iff_exists.1 hj
        rw [(hob i x (rst_some.1 hx).2).1, (hob j y (rst_some.1 hy).2).1]
      · rw [hg0, if_neg (by omega)]
      · omega
      · rintro e w' ⟨v, σ', rfl, h1, h2⟩
        refine ⟨by rw [show v = .bool c from h1], h2.tch.mono (fun k _ ⟨i, g1, g2, _⟩ => ?_)⟩
        obtain ⟨x, hx⟩ := Option.isSome_iff_exists.1 g2
        obtain ⟨rfl, _⟩ := hob i x (rst_some.1 hx).2
        rw [hW] at g1; cases g1
/-! ### What is told of numbers from outside -/
noncomputable def opN (o : BinOp) : Nat := BinOp.rec (motive := fun _ => Nat) 0 1 2 3 4 5 6 7 8 9 10 11 12 13 14 15 16 o
theorem opN_inj {a b : BinOp} (h : opN a = opN b) : a = b := by cases a <;> cases b <;> first | rfl | (cases h)
/-- The numbers from i to j, with that operation and that number: what it gives. -/
structure XE where
  op : BinOp
  i : Nat
  j : Nat
  c : Int
  r : C
  /-- The number from outside stands behind. -/
  sw : Bool := false
noncomputable def xoL (sw : Bool) : List XE → BinOp → Nat → Int → Option C
  | [], _, _, _ => none
  | e :: l, op, i, c => if (Nat.beq (opN e.op) (opN op) && Nat.ble e.i i && Nat.ble i e.j && eqF e.c c && (e.sw == sw)) = true then some e.r else xoL sw l op i c
noncomputable def xoE (l : List XE) (op : BinOp) (a b : C) : Option C := match a, b with
  | .ext i, .int .i64 c => xoL false l op i c
  | .int .i64 c, .ext i => xoL true l op i c
  | _, _ => none
/-- That is so. -/
def XE.Ok (e : XE) : Prop := ∀ i, e.i ≤ i → i ≤ e.j → ∃ x y, Env.val i = .int .i64 x ∧ (if e.sw then intC e.op .i64 e.c .i64 x else intC e.op .i64 x .i64 e.c) = some y ∧ ∀ (σ : Nat → Blk) (D : Nat → Prop) v, RC σ D y v → RC σ D e.r v
theorem xoL_mem {sw : Bool} : ∀ {l : List XE} {op : BinOp} {i : Nat} {c : Int} {r : C}, xoL sw l op i c = some r → ∃ e ∈ l, e.op = op ∧ e.i ≤ i ∧ i ≤ e.j ∧ e.c = c ∧ e.r = r ∧ e.sw = sw
  | e :: l, op, i, c, r, h => by
    simp only [xoL] at h
    split at h
    · rename_i hc
      rw [eqF_eq] at hc
      simp only [Bool.and_eq_true, beq_iff_eq] at hc
      obtain ⟨⟨⟨⟨h1, h2⟩, h3⟩, h4⟩, h5⟩ := hc
      cases h
      exact ⟨e, by simp, opN_inj (Nat.eq_of_beq_eq_true h1), Nat.le_of_ble_eq_true h2, Nat.le_of_ble_eq_true h3, h4, rfl, h5⟩
    · obtain ⟨e', h1, h2⟩ := xoL_mem h
      exact ⟨e', List.mem_cons_of_mem _ h1, h2⟩
theorem xoE_ok {P : Program} {l : List XE} (h : ∀ e ∈ l, e.Ok) : XoOK P (xoE l) := by
  intro op a b c hx σ D u v w t ha hb
  unfold xoE at hx
  split at hx
  · rename_i i q
    obtain ⟨e, he, rfl, h1, h2, rfl, rfl, hsw⟩ := xoL_mem hx
    obtain ⟨x, y, g1, g2, g3⟩ := h e he i h1 h2
    rw [hsw] at g2
    simp only [Bool.false_eq_true, if_false] at g2
    have e1 : u = .int .i64 x := (show u = Env.val i from ha).trans g1
    have e2 : v = .int .i64 e.c := hb
    subst e1; subst e2
    obtain ⟨z, k1, k2⟩ := intC_ok (P := P) (σ := σ) (D := D) (w := w) t g2
    exact ⟨z, g3 σ D z k1, rfl, by simp, k2⟩
  · rename_i q i
    obtain ⟨e, he, rfl, h1, h2, rfl, rfl, hsw⟩ := xoL_mem hx
    obtain ⟨x, y, g1, g2, g3⟩ := h e he i h1 h2
    rw [hsw] at g2
    simp only [if_true] at g2
    have e1 : v = .int .i64 x := (show v = Env.val i from hb).trans g1
    have e2 : u = .int .i64 e.c := ha
    subst e1; subst e2
    obtain ⟨z, k1, k2⟩ := intC_ok (P := P) (σ := σ) (D := D) (w := w) t g2
    exact ⟨z, g3 σ D z k1, rfl, by simp, k2⟩
  · cases hx
end Go.Proofs.YtcmlgmiomcegeaaGreat.Ev
