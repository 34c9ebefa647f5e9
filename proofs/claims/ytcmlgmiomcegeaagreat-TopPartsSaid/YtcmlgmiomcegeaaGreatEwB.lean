/- Operations of an abstract run, handed on; each is what it was. No condition. -/
import Derived.Test.YtcmlgmiomcegeaaGreatEwA
namespace Go.Proofs.YtcmlgmiomcegeaaGreat.Ev
open Go Go.RowKit Go.Maps
set_option linter.unusedVariables false
set_option linter.unusedSimpArgs false
set_option linter.unusedSectionVars false
variable [Env]

abbrev KE := S → Ef → Bool
/-- What an operation yields, handed on. -/
def elP (x : Option (S × Ef)) (K : KE) : Bool := elO x (fun p => K p.1 p.2)
theorem elO_none {α : Type} (k : α → Bool) : elO (none : Option α) k = false := rfl
theorem elO_some {α : Type} (a : α) (k : α → Bool) : elO (some a) k = k a := rfl
/-! ### Cells by kind -/
noncomputable def kBoolU (c : C) (k : Bool → Bool) (u : Unit → Bool) : Bool := C.rec (motive := fun _ => (Bool → Bool) → (Unit → Bool) → Bool) (fun b k _ => k b) (fun _ _ _ _ => false) (fun _ _ _ => false) (fun _ _ _ _ => false) (fun _ _ => false) (fun _ _ _ _ _ _ => false) (fun _ _ => false) (fun _ _ => false) (fun _ _ _ _ => false) (fun _ _ => false) (fun _ _ _ => false) (fun _ _ => false) (fun _ _ => false) (fun _ _ _ _ _ => false) (fun _ _ _ => false) (fun _ _ _ => false) (fun _ _ _ _ _ => false) (fun _ _ _ _ => false) (fun _ _ _ => false) (fun _ u => u ()) (fun _ _ => false) c k u
noncomputable def kPtr (c : C) (k : Nat → Nat → Bool) : Bool := C.rec (motive := fun _ => (Nat → Nat → Bool) → Bool) (fun _ _ => false) (fun _ _ _ => false) (fun _ _ => false) (fun i off k => k i off) (fun _ => false) (fun _ _ _ _ _ => false) (fun _ => false) (fun _ => false) (fun _ _ _ => false) (fun _ => false) (fun _ _ => false) (fun _ => false) (fun _ => false) (fun _ _ _ _ => false) (fun _ _ => false) (fun _ _ => false) (fun _ _ _ _ => false) (fun _ _ _ => false) (fun _ _ => false) (fun _ => false) (fun _ => false) c k
noncomputable def kInt (c : C) (k : IntKind → Int → Bool) : Bool := C.rec (motive := fun _ => (IntKind → Int → Bool) → Bool) (fun _ _ => false) (fun kd n k => k kd n) (fun _ _ => false) (fun _ _ _ => false) (fun _ => false) (fun _ _ _ _ _ => false) (fun _ => false) (fun _ => false) (fun _ _ _ => false) (fun _ => false) (fun _ _ => false) (fun _ => false) (fun _ => false) (fun _ _ _ _ => false) (fun _ _ => false) (fun _ _ => false) (fun _ _ _ _ => false) (fun _ _ _ => false) (fun _ _ => false) (fun _ => false) (fun _ => false) c k
noncomputable def kBool (c : C) (k : Bool → Bool) : Bool := C.rec (motive := fun _ => (Bool → Bool) → Bool) (fun b k => k b) (fun _ _ _ => false) (fun _ _ => false) (fun _ _ _ => false) (fun _ => false) (fun _ _ _ _ _ => false) (fun _ => false) (fun _ => false) (fun _ _ _ => false) (fun _ => false) (fun _ _ => false) (fun _ => false) (fun _ => false) (fun _ _ _ _ => false) (fun _ _ => false) (fun _ _ => false) (fun _ _ _ _ => false) (fun _ _ _ => false) (fun _ _ => false) (fun _ => false) (fun _ => false) c k
/-! ### Lists, handed on -/
noncomputable def forceL {α : Type} (l : List α) (K : List α → Bool) : Bool := List.rec (motive := fun _ => (List α → Bool) → Bool) (fun K => K []) (fun c _ ih K => ih (fun r => K (c :: r))) l K
theorem forceL_eq {α : Type} : ∀ (l : List α) (K : List α → Bool), forceL l K = K l
  | [], _ => rfl
  | c :: l, K => forceL_eq l (fun r => K (c :: r))
noncomputable def takeK {α : Type} (k : Nat) (l : List α) (K : List α → Bool) : Bool := Nat.rec (motive := fun _ => List α → (List α → Bool) → Bool) (fun _ K => K []) (fun _ ih l K => List.rec (motive := fun _ => Bool) false (fun c l _ => ih l (fun r => K (c :: r))) l) k l K
theorem takeK_eq {α : Type} : ∀ (k : Nat) (l : List α) (K : List α → Bool), takeK k l K = (if k ≤ l.length then K (l.take k) else false)
  | 0, l, K => by rw [if_pos (Nat.zero_le _)]; rfl
  | k + 1, [], K => by rw [if_neg (by simp)]; rfl
  | k + 1, c :: l, K => by
    show takeK k l (fun r => K (c :: r)) = _
    rw [takeK_eq k l]
    by_cases h : k ≤ l.length
    · rw [if_pos h, if_pos (by simpa using h)]; rfl
    · rw [if_neg h, if_neg (by simpa using h)]
noncomputable def dropK {α : Type} (k : Nat) (l : List α) (K : List α → Bool) : Bool := Nat.rec (motive := fun _ => List α → Bool) K (fun _ ih l => List.rec (motive := fun _ => Bool) false (fun _ l _ => ih l) l) k l
theorem dropK_eq {α : Type} : ∀ (k : Nat) (l : List α) (K : List α → Bool), dropK k l K = (if k ≤ l.length then K (l.drop k) else false)
  | 0, l, K => by rw [if_pos (Nat.zero_le _)]; rfl
  | k + 1, [], K => by rw [if_neg (by simp)]; rfl
  | k + 1, c :: l, K => by
    show dropK k l K = _
    rw [dropK_eq k l]
    by_cases h : k ≤ l.length
    · rw [if_pos h, if_pos (by simpa using h)]; rfl
    · rw [if_neg h, if_neg (by simpa using h)]
noncomputable def overK {α : Type} (l cs : List α) (K : List α → Bool) : Bool := List.rec (motive := fun _ => List α → (List α → Bool) → Bool) (fun cs K => K cs) (fun c _ ih cs K => List.rec (motive := fun _ => Bool) false (fun _ cs _ => ih cs (fun r => K (c :: r))) cs) l cs K
theorem overK_eq {α : Type} : ∀ (l cs : List α) (K : List α → Bool), overK l cs K = (if l.length ≤ cs.length then K (l ++ cs.drop l.length) else false)
  | [], cs, K => by rw [if_pos (show ([] : List α).length ≤ cs.length from Nat.zero_le _)]; rfl
  | c :: l, [], K => by rw [if_neg (by simp)]; rfl
  | c :: l, d :: cs, K => by
    show overK l cs (fun r => K (c :: r)) = _
    rw [overK_eq l cs]
    by_cases h : l.length ≤ cs.length
    · rw [if_pos h, if_pos (by simpa using h)]; rfl
    · rw [if_neg h, if_neg (by simpa using h)]
noncomputable def setK {α : Type} (off : Nat) (l cs : List α) (K : List α → Bool) : Bool := Nat.rec (motive := fun _ => List α → (List α → Bool) → Bool) (fun cs K => overK l cs K) (fun _ ih cs K => List.rec (motive := fun _ => Bool) false (fun c cs _ => ih cs (fun r => K (c :: r))) cs) off cs K
theorem setK_eq {α : Type} : ∀ (off : Nat) (l cs : List α) (K : List α → Bool), setK off l cs K = (if off + l.length ≤ cs.length then K (cs.take off ++ l ++ cs.drop (off + l.length)) else false)
  | 0, l, cs, K => by show overK l cs K = _; rw [overK_eq, Nat.zero_add]; rfl
  | off + 1, l, [], K => by rw [if_neg (by simp)]; rfl
  | off + 1, l, c :: cs, K => by
    show setK off l cs (fun r => K (c :: r)) = _
    rw [setK_eq off l cs]
    by_cases h : off + l.length ≤ cs.length
    · rw [if_pos h, if_pos (by simp; omega), show off + 1 + l.length = off + l.length + 1 by omega]; rfl
    · rw [if_neg h, if_neg (by simp; omega)]
/-! ### Moves -/
noncomputable def mvK (A : TS) (x : Operand) (K : KE) : Bool := kO (eA A x) (fun s => K s (.no 0))
theorem mvK_eq (A : TS) (x : Operand) (K : KE) : mvK A x K = elP ((opA A x).map fun s => (s, .no 0)) K := by
  unfold mvK elP; rw [kO_eq, eA_eq, elO_map]
noncomputable def pickK (A : TS) (c x y : Operand) (K : KE) : Bool := kC (eA A c) (fun c => kBool c (fun b => kO (Bool.rec (motive := fun _ => Option S) (eA A y) (eA A x) b) (fun s => K s (.no 0))))
theorem pickK_eq (A : TS) (c x y : Operand) (K : KE) : pickK A c x y K = elP (aPick (opA A) c x y) K := by
  unfold pickK elP aPick
  rw [kC_eq, eA_eq, eA_eq, eA_eq]
  cases S.c? (opA A c) with
  | none => rfl
  | some c =>
    cases c with
    | bool b =>
      show kO _ _ = elO ((if b = true then opA A x else opA A y).map _) _
      rw [kO_eq, elO_map]
      cases b <;> rfl
    | _ => rfl
noncomputable def extK (A : TS) (x : Operand) (i : Nat) (K : KE) : Bool := kO (eA A x) (fun s => S.rec (motive := fun _ => Bool) (fun _ => false) (fun l => kO (nthL l i) (fun v => K (.v v) (.no 0))) false s)
theorem extK_eq (A : TS) (x : Operand) (i : Nat) (K : KE) : extK A x i K = elP (aExt (opA A) x i) K := by
  unfold extK elP aExt
  rw [kO_eq, eA_eq]
  cases opA A x with
  | none => rfl
  | some s =>
    cases s with
    | tup l => show kO _ _ = elO ((l[i]?).map _) _; rw [kO_eq, nthL_eq, elO_map]
    | v v => rfl
    | un => rfl
noncomputable def nilK (A : TS) (x : Operand) (K : KE) : Bool := kC (eA A x) (fun c => C.rec (motive := fun _ => Bool) (fun _ => false) (fun _ _ => false) (fun _ => false) (fun i off => K (.v (.c (.ptr i off))) (.no 0)) false (fun _ _ _ _ => false) false false (fun f cap => K (.v (.c (.fn f cap))) (.no 0)) false (fun _ => false) false false (fun f i off => K (.v (.c (.bm f i off))) (.no 0)) (fun _ => false) (fun _ => false) (fun _ _ _ => false) (fun _ _ => false) (fun _ => false) false false c)
theorem nilK_eq (A : TS) (x : Operand) (K : KE) : nilK A x K = elP (aNil (opA A) x) K := by
  unfold nilK elP aNil
  rw [kC_eq, eA_eq]
  cases S.c? (opA A x) with
  | none => rfl
  | some c => cases c <;> rfl
/-! ### Loads, stores, places -/
/-- A place, or one of a row from outside. -/
noncomputable def kPX (c : C) (k r : Nat → Nat → Bool) : Bool := C.rec (motive := fun _ => (Nat → Nat → Bool) → (Nat → Nat → Bool) → Bool) (fun _ _ _ => false) (fun _ _ _ _ => false) (fun _ _ _ => false) (fun i off k _ => k i off) (fun _ _ => false) (fun _ _ _ _ _ _ => false) (fun _ _ => false) (fun _ _ => false) (fun _ _ _ _ => false) (fun _ _ => false) (fun _ _ _ => false) (fun _ _ => false) (fun _ _ => false) (fun _ _ _ _ _ => false) (fun _ _ _ => false) (fun _ _ _ => false) (fun _ _ _ _ _ => false) (fun i j _ r => r i j) (fun _ _ _ => false) (fun _ _ => false) (fun _ _ => false) c k r
noncomputable def loadK (P : Program) (H : HT) (A : TS) (t : TypeId) (x : Operand) (K : KE) : Bool := kC (eA A x) (fun c => kPX c (fun i off => kO (HT.get H i) (fun ob => kO (isAg P t) (fun b => Bool.rec (motive := fun _ => Bool) (kO (nthL ob.cs off) (fun c => K (.v (.c c)) (.no (one i)))) (kO (szOf P t) (fun k => dropK off ob.cs (fun l => takeK k l (fun l => K (.v (.agg l)) (.no (one i)))))) b))) (fun i j => kO (aLdR P (hg H) t i j) (fun c => K (.v (.c c)) (.no (one i)))))
theorem dropTake {α : Type} (off k : Nat) (l : List α) (K : List α → Bool) : dropK off l (fun l => takeK k l K) = elO (if off + k ≤ l.length then some ((l.drop off).take k) else none) K := by
  rw [dropK_eq]
  by_cases h : off + k ≤ l.length
  · rw [if_pos (by omega), takeK_eq, if_pos (by simp; omega), if_pos h]; rfl
  · rw [if_neg h]
    by_cases h2 : off ≤ l.length
    · rw [if_pos h2, takeK_eq, if_neg (by simp; omega)]; rfl
    · rw [if_neg h2]; rfl
theorem loadK_eq (P : Program) (H : HT) (A : TS) (t : TypeId) (x : Operand) (K : KE) : loadK P H A t x K = elP (aLoad P (hg H) (opA A) t x) K := by
  unfold loadK elP aLoad
  rw [kC_eq, eA_eq]
  cases S.c? (opA A x) with
  | none => rfl
  | some c =>
    cases c with
    | ptr i off =>
      show kO (HT.get H i) _ = elO ((aLd P (hg H) t i off).map _) _
      rw [kO_eq, elO_map]
      unfold aLd
      show _ = elO (match HT.get H i with | some ob => _ | none => none) _
      cases HT.get H i with
      | none => rfl
      | some ob =>
        show kO (isAg P t) _ = elO (match isAg P t with | some true => _ | some false => _ | none => none) _
        rw [kO_eq]
        cases isAg P t with
        | none => rfl
        | some b =>
          cases b with
          | true =>
            show kO (szOf P t) _ = elO (match szOf P t with | some k => _ | none => none) _
            rw [kO_eq]
            cases szOf P t with
            | none => rfl
            | some k =>
              show dropK _ _ _ = elO ((ldC ob off k).map _) _
              rw [dropTake, elO_map]; rfl
          | false =>
            show kO _ _ = elO ((ob.cs[off]?).map _) _
            rw [kO_eq, nthL_eq, elO_map]
    | xp i k =>
      show kO (aLdR P (hg H) t i k) _ = elO ((aLdR P (hg H) t i k).map _) _
      rw [kO_eq, elO_map]
    | _ => rfl
noncomputable def kV (s : Option S) (k : V → Bool) : Bool := Option.rec (motive := fun _ => (V → Bool) → Bool) (fun _ => false) (fun s k => S.rec (motive := fun _ => Bool) k (fun _ => false) false s) s k
theorem kV_eq (s : Option S) (k : V → Bool) : kV s k = elO (S.v? s) k := by
  cases s with
  | none => rfl
  | some s => cases s <;> rfl
noncomputable def lenF {α : Type} (l : List α) : Nat := List.rec (motive := fun _ => Nat → Nat) (fun n => n) (fun _ _ ih n => ih (Nat.succ n)) l 0
theorem lenF_go {α : Type} : ∀ (l : List α) (n : Nat), (List.rec (motive := fun _ => Nat → Nat) (fun n => n) (fun _ _ ih n => ih (Nat.succ n)) l n : Nat) = n + l.length
  | [], n => rfl
  | c :: l, n => by
    show (List.rec (motive := fun _ => Nat → Nat) (fun n => n) (fun _ _ ih n => ih (Nat.succ n)) l (Nat.succ n) : Nat) = _
    rw [lenF_go l]; simp; omega
theorem lenF_eq {α : Type} (l : List α) : lenF l = l.length := by unfold lenF; rw [lenF_go]; omega
noncomputable def vCells (v : V) : List C := V.rec (motive := fun _ => List C) (fun x => [x]) (fun l => l) v
theorem vCells_eq (v : V) : vCells v = v.cells := by cases v <;> rfl
noncomputable def okB (ob : AO) : Bool := Kd.rec (motive := fun _ => Bool) true false (fun _ _ => false) (fun _ _ _ _ => false) (fun _ _ => false) (fun _ _ => false) ob.k
theorem okB_eq (ob : AO) : okB ob = !ob.fz := by
  unfold okB AO.fz
  cases ob.k <;> rfl
noncomputable def storeK (P : Program) (H : HT) (A : TS) (t : TypeId) (x y : Operand) (K : KE) : Bool := kC (eA A x) (fun c => kPtr c (fun i off => kV (eA A y) (fun v => kO (HT.get H i) (fun ob => kO (szOf P t) (fun z => Bool.rec (motive := fun _ => Bool) false (setK off (vCells v) ob.cs (fun cs => K .un (.set (one i) i { ob with cs := cs }))) (andB (Nat.beq z (lenF (vCells v))) (okB ob)))))))
theorem storeK_eq (P : Program) (H : HT) (A : TS) (t : TypeId) (x y : Operand) (K : KE) : storeK P H A t x y K = elP (aStore P (hg H) (opA A) t x y) K := by
  unfold storeK elP aStore
  rw [kC_eq, eA_eq, eA_eq]
  cases S.c? (opA A x) with
  | none => rfl
  | some c =>
    cases c with
    | ptr i off =>
      show kV (opA A y) _ = elO (match some (C.ptr i off), S.v? (opA A y) with | some (.ptr i off), some v => _ | _, _ => none) _
      rw [kV_eq]
      cases S.v? (opA A y) with
      | none => rfl
      | some v =>
        show kO (HT.get H i) _ = elO (match HT.get H i with | some ob => _ | none => none) _
        rw [kO_eq]
        cases HT.get H i with
        | none => rfl
        | some ob =>
          show kO (szOf P t) _ = elO (if szOf P t = some v.cells.length then _ else none) _
          rw [kO_eq]
          cases szOf P t with
          | none => rw [if_neg (by simp)]; rfl
          | some z =>
            show Bool.rec (motive := fun _ => Bool) false (setK off (vCells v) ob.cs _) (andB (Nat.beq z (lenF (vCells v))) (okB ob)) = _
            rw [andB_eq, lenF_eq, vCells_eq, okB_eq, beq_eq]
            by_cases h : z = v.cells.length
            · rw [if_pos (by rw [h]), decide_eq_true h, Bool.true_and, elO_map]
              unfold wrC
              by_cases hf : ob.fz = false
              · rw [hf]
                show setK _ _ _ _ = _
                rw [setK_eq]
                by_cases h2 : off + v.cells.length ≤ ob.cs.length
                · rw [if_pos h2, if_pos ⟨h2, rfl⟩]; rfl
                · rw [if_neg h2, if_neg (fun h3 => h2 h3.1)]; rfl
              · have hf' : ob.fz = true := by cases e : ob.fz with | true => rfl | false => exact absurd e hf
                rw [hf', if_neg (by simp)]; rfl
            · rw [if_neg (by intro e; exact h (Option.some.inj e)), decide_eq_false h]; rfl
    | _ => rfl
/-- The place of a field, as far as the type tells it. -/
noncomputable def faOff (P : Program) (t : TypeId) (f : Nat) : Option Nat := match P.underlying t with
  | some (.struct fs) => match fs[f]? with
    | some fd => match szOf P fd.type with
      | some (_ + 1) => some fd.offset
      | _ => none
    | none => none
  | _ => none
noncomputable def faK (P : Program) (A : TS) (t : TypeId) (x : Operand) (f : Nat) (K : KE) : Bool := kC (eA A x) (fun c => kPtr c (fun i off => kO (faOff P t f) (fun d => forceN (Nat.add off d) (fun o => K (.v (.c (.ptr i o))) (.no 0)))))
theorem faK_eq (P : Program) (A : TS) (t : TypeId) (x : Operand) (f : Nat) (K : KE) : faK P A t x f K = elP (aFa P (opA A) t x f) K := by
  unfold faK elP aFa
  rw [kC_eq, eA_eq]
  cases S.c? (opA A x) with
  | none => rfl
  | some c =>
    cases c with
    | ptr i off =>
      show kO (faOff P t f) _ = _
      rw [kO_eq]
      unfold faOff
      cases P.underlying t with
      | none => rfl
      | some d =>
        cases d with
        | struct fs =>
          show elO (match fs[f]? with | some fd => _ | none => none) _ = elO (match fs[f]? with | some fd => _ | none => none) _
          cases fs[f]? with
          | none => rfl
          | some fd =>
            show elO (match szOf P fd.type with | some (_ + 1) => _ | _ => none) _ = elO (match szOf P fd.type with | some (_ + 1) => _ | _ => none) _
            cases szOf P fd.type with
            | none => rfl
            | some k => cases k <;> rfl
        | _ => rfl
    | _ => cases P.underlying t <;> rfl
/-- How many cells an element of a slice has, as far as the type tells it. -/
noncomputable def slSz (P : Program) (t : TypeId) : Option Nat := match P.underlying t with
  | some (.slice el) => szOf P el
  | _ => none
noncomputable def iaK (P : Program) (H : HT) (n : Nat) (A : TS) (t : TypeId) (x y : Operand) (K : KE) : Bool := kC (eA A x) (fun c => C.rec (motive := fun _ => Bool) (fun _ => false) (fun _ _ => false) (fun _ => false) (fun _ _ => elP (aIa P (opA A) t x y) K) false
  (fun i off len _ => kC (eA A y) (fun c => kInt c (fun _ k => kO (slSz P t) (fun sz => Int.rec (motive := fun _ => Bool) (fun m => Bool.rec (motive := fun _ => Bool) false (forceN (Nat.add off (Nat.mul m sz)) (fun o => K (.v (.c (.ptr i o))) (.no 0))) (Nat.ble (Nat.succ m) len)) (fun _ => false) k)))) false false (fun _ _ => false) false (fun _ => false) false false (fun _ _ _ => false) (fun _ => false) (fun _ => false) (fun _ _ _ => elP (aIa P (opA A) t x y) K) (fun _ _ => false) (fun _ => false) false false c)
theorem iaK_eq (P : Program) (H : HT) (n : Nat) (A : TS) (t : TypeId) (x y : Operand) (K : KE) : iaK P H n A t x y K = elP (aIa P (opA A) t x y) K := by
  unfold iaK
  rw [kC_eq, eA_eq, eA_eq]
  cases hx : S.c? (opA A x) with
  | none => unfold elP aIa; rw [hx]; rfl
  | some c =>
    cases c with
    | ptr i off => rfl
    | sl i off len cp =>
      show kC (opA A y) _ = _
      rw [kC_eq]
      unfold elP aIa
      rw [hx]
      cases S.c? (opA A y) with
      | none => rfl
      | some c =>
        cases c with
        | int kd k =>
          show kO (slSz P t) _ = _
          rw [kO_eq]
          unfold slSz
          cases P.underlying t with
          | none => rfl
          | some d =>
            cases d with
            | slice el =>
              show elO (szOf P el) _ = elO (match szOf P el with | some sz => _ | none => none) _
              cases szOf P el with
              | none => rfl
              | some sz =>
                show Int.rec (motive := fun _ => Bool) _ _ k = elO (if 0 ≤ k ∧ k < len then _ else none) _
                cases k with
                | ofNat m =>
                  show Bool.rec (motive := fun _ => Bool) false _ (Nat.ble (Nat.succ m) len) = _
                  rw [ble_eq]
                  by_cases h : m < len
                  · rw [decide_eq_true (show Nat.succ m ≤ len from h), if_pos (by rw [Int.ofNat_eq_natCast]; omega)]; rfl
                  · rw [decide_eq_false (show ¬ Nat.succ m ≤ len from h), if_neg (by rw [Int.ofNat_eq_natCast]; omega)]; rfl
                | negSucc m => rw [if_neg (by rw [Int.negSucc_eq]; omega)]; rfl
            | _ => rfl
        | _ => rfl
    | _ => (unfold elP aIa; rw [hx]; cases S.c? (opA A y) <;> cases P.underlying t <;> rfl)
/-! ### Numbers -/
/-- The kind of a type of numbers. -/
noncomputable def inK (P : Program) (t : TypeId) : Option IntKind := match P.underlying t with | some (.int k) => some k | _ => none
noncomputable def convK (P : Program) (H : HT) (n : Nat) (A : TS) (s d : TypeId) (x : Operand) (K : KE) : Bool := Option.rec (motive := fun _ => Bool) (elP (aConv P (hg H) (opA A) n s d x) K) (fun _ => Option.rec (motive := fun _ => Bool) (elP (aConv P (hg H) (opA A) n s d x) K) (fun k => kC (eA A x) (fun c => kInt c (fun _ m => fI (wrapF k m) (fun r => K (.v (.c (.int k r))) (.no 0))))) (inK P d)) (inK P s)
theorem convK_eq (P : Program) (H : HT) (n : Nat) (A : TS) (s d : TypeId) (x : Operand) (K : KE) : convK P H n A s d x K = elP (aConv P (hg H) (opA A) n s d x) K := by
  unfold convK
  cases h1 : inK P s with
  | none => rfl
  | some k1 =>
    cases h2 : inK P d with
    | none => rfl
    | some k2 =>
      have u1 : P.underlying s = some (.int k1) := by
        unfold inK at h1
        split at h1
        · rename_i k e; rw [e]; cases h1; rfl
        · cases h1
      have u2 : P.underlying d = some (.int k2) := by
        unfold inK at h2
        split at h2
        · rename_i k e; rw [e]; cases h2; rfl
        · cases h2
      show kC (eA A x) _ = _
      rw [kC_eq, eA_eq]
      unfold elP aConv
      rw [u1, u2]
      cases S.c? (opA A x) with
      | none => rfl
      | some c =>
        cases c with
        | int kd m =>
          show fI (wrapF k2 m) (fun r => K (.v (.c (.int k2 r))) (.no 0)) = K (.v (.c (.int k2 (k2.wrap m)))) (.no 0)
          rw [fI_eq, wrapF_eq]
        | _ => rfl
/-- Two numbers. -/
noncomputable def intK (op : BinOp) (k : IntKind) (x : Int) (k' : IntKind) (y : Int) (K : C → Bool) : Bool := BinOp.rec (motive := fun _ => (IntKind → Int → IntKind → Int → (C → Bool) → Bool) → IntKind → Int → IntKind → Int → (C → Bool) → Bool)
  (fun _ k x k' y K => ite (k = k') (fI (wrapF k (addF x y)) (fun r => K (.int k r))) false)
  (fun _ k x k' y K => ite (k = k') (fI (wrapF k (subF x y)) (fun r => K (.int k r))) false)
  (fun g => g) (fun g => g) (fun g => g) (fun g => g) (fun g => g) (fun g => g) (fun g => g) (fun g => g) (fun g => g)
  (fun _ k x k' y K => ite (k = k') (K (.bool (eqF x y))) false)
  (fun _ k x k' y K => ite (k = k') (K (.bool (notB (eqF x y)))) false)
  (fun _ k x k' y K => ite (k = k') (K (.bool (notB (leF y x)))) false)
  (fun _ k x k' y K => ite (k = k') (K (.bool (leF x y))) false)
  (fun _ k x k' y K => ite (k = k') (K (.bool (notB (leF x y)))) false)
  (fun _ k x k' y K => ite (k = k') (K (.bool (leF y x))) false)
  op (fun k x k' y K => kO (intC op k x k' y) K) k x k' y K
theorem intK_eq (op : BinOp) (k : IntKind) (x : Int) (k' : IntKind) (y : Int) (K : C → Bool) : intK op k x k' y K = elO (intC op k x k' y) K := by
  have key : ∀ (p : Prop) [Decidable p] (c : C) (b : Bool), (p → b = K c) → ite p b false = elO (if p then some c else none) K := fun p _ c b h => by
    by_cases hp : p
    · rw [if_pos hp, if_pos hp]; exact h hp
    · rw [if_neg hp, if_neg hp]; rfl
  cases op
  case add => exact key _ _ _ (fun _ => by rw [fI_eq, wrapF_eq, addF_eq])
  case sub => exact key _ _ _ (fun _ => by rw [fI_eq, wrapF_eq, subF_eq])
  case eql => exact key _ _ _ (fun _ => by rw [eqF_eq])
  case neq => exact key _ _ _ (fun _ => by rw [eqF_eq, notB_eq]; rfl)
  case lss => exact key _ _ _ (fun _ => by rw [ltF_eq])
  case leq => exact key _ _ _ (fun _ => by rw [leF_eq])
  case gtr => exact key _ _ _ (fun _ => by rw [ltF_eq])
  case geq => exact key _ _ _ (fun _ => by rw [leF_eq])
  all_goals exact kO_eq _ _
/-- A number, or else. -/
noncomputable def kI (s : Option S) (g : Bool) (k : IntKind → Int → Bool) : Bool := Option.rec (motive := fun _ => Bool → (IntKind → Int → Bool) → Bool) (fun g _ => g) (fun s g k => S.rec (motive := fun _ => Bool) (fun v => V.rec (motive := fun _ => Bool) (fun c => C.rec (motive := fun _ => Bool → (IntKind → Int → Bool) → Bool) (fun _ g _ => g) (fun kd n _ k => k kd n) (fun _ g _ => g) (fun _ _ g _ => g) (fun g _ => g) (fun _ _ _ _ g _ => g) (fun g _ => g) (fun g _ => g) (fun _ _ g _ => g) (fun g _ => g) (fun _ g _ => g) (fun g _ => g) (fun g _ => g) (fun _ _ _ g _ => g) (fun _ g _ => g) (fun _ g _ => g) (fun _ _ _ g _ => g) (fun _ _ g _ => g) (fun _ g _ => g) (fun g _ => g) (fun g _ => g) c g k) (fun _ => g) v) (fun _ => g) g s) s g k
theorem kI_ne {s : Option S} {g : Bool} {k : IntKind → Int → Bool} {b : Bool} (h1 : ∀ kd n, s = some (.v (.c (.int kd n))) → k kd n = b) (h2 : g = b) : kI s g k = b := by
  cases s with
  | none => exact h2
  | some s =>
    cases s with
    | tup l => exact h2
    | un => exact h2
    | v v =>
      cases v with
      | agg l => exact h2
      | c c =>
        cases c with
        | int kd n => exact h1 kd n rfl
        | _ => exact h2
noncomputable def binK (P : Program) (A : TS) (op : BinOp) (t : TypeId) (x y : Operand) (K : KE) : Bool := kI (eA A x) (elP (aBin2 P (opA A) op t x y) K) (fun k a => kI (eA A y) (elP (aBin2 P (opA A) op t x y) K) (fun k' b => intK op k a k' b (fun c => K (.v (.c c)) (.no 0))))
theorem binK_eq (P : Program) (A : TS) (op : BinOp) (t : TypeId) (x y : Operand) (K : KE) : binK P A op t x y K = elP (aBin2 P (opA A) op t x y) K := by
  unfold binK
  refine kI_ne (fun k a hx => kI_ne (fun k' b hy => ?_) rfl) rfl
  rw [eA_eq] at hx hy
  rw [intK_eq]
  unfold elP aBin2 aBin
  rw [hx, hy]
  show _ = elO (match (binC P op t (.int k a) (.int k' b)).map (fun c => (S.v (V.c c), Ef.no 0)) with | some r => some r | none => aBinS P (opA A) op t x y) _
  show _ = elO (match (intC op k a k' b).map (fun c => (S.v (V.c c), Ef.no 0)) with | some r => some r | none => aBinS P (opA A) op t x y) _
  cases intC op k a k' b with
  | some c => rfl
  | none =>
    show _ = elO (aBinS P (opA A) op t x y) _
    unfold aBinS
    rw [hx]
    rfl
/-! ### How long -/
noncomputable def lenK (P : Program) (A : TS) (t : TypeId) (x : Operand) (K : KE) : Bool := kO (slSz P t) (fun _ => false)
end Go.Proofs.YtcmlgmiomcegeaaGreat.Ev
