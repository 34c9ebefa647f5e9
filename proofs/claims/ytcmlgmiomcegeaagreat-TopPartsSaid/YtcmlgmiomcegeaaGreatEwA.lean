/- Numbers, lists, effects of an abstract run, written for the kernel; each is what it was. No condition. -/
import Derived.Test.YtcmlgmiomcegeaaGreatEw14
namespace Go.Proofs.YtcmlgmiomcegeaaGreat.Ev
open Go Go.RowKit Go.Maps
set_option linter.unusedVariables false
set_option linter.unusedSimpArgs false
set_option linter.unusedSectionVars false
variable [Env]

/-! ### What may be nothing -/
noncomputable def kO {α : Type} (x : Option α) (k : α → Bool) : Bool := Option.rec (motive := fun _ => Bool) false k x
/-- The answer of what may be nothing. -/
def elO {α : Type} (x : Option α) (k : α → Bool) : Bool := match x with | some a => k a | none => false
theorem kO_eq {α : Type} (x : Option α) (k : α → Bool) : kO x k = elO x k := by cases x <;> rfl
theorem elO_map {α β : Type} (x : Option α) (f : α → β) (k : β → Bool) : elO (x.map f) k = elO x (fun a => k (f a)) := by cases x <;> rfl
noncomputable def kC (s : Option S) (k : C → Bool) : Bool := Option.rec (motive := fun _ => (C → Bool) → Bool) (fun _ => false) (fun s k => S.rec (motive := fun _ => Bool) (fun v => V.rec (motive := fun _ => Bool) k (fun _ => false) v) (fun _ => false) false s) s k
theorem kC_eq (s : Option S) (k : C → Bool) : kC s k = elO (S.c? s) k := by
  cases s with
  | none => rfl
  | some s =>
    cases s with
    | v v => cases v <;> rfl
    | tup l => rfl
    | un => rfl
/-! ### Operands -/
noncomputable def eA (A : TS) (x : Operand) : Option S := Operand.rec (motive := fun _ => TS → Option S) (fun t A => TS.get A t) (fun v _ => constS v) (fun _ _ => none) (fun f _ => some (.v (.c (.fn f [])))) x A
theorem eA_eq (A : TS) (x : Operand) : eA A x = opA A x := by cases x <;> rfl
/-! ### Numbers -/
noncomputable def fI (i : Int) (K : Int → Bool) : Bool := Int.rec (motive := fun _ => Bool) (fun m => forceN m fun j => K (.ofNat j)) (fun m => forceN m fun j => K (.negSucc j)) i
theorem fI_eq (i : Int) (K : Int → Bool) : fI i K = K i := by cases i <;> rfl
noncomputable def subNN (m n : Nat) : Int := Bool.rec (motive := fun _ => Int) (.negSucc (Nat.pred (Nat.sub n m))) (.ofNat (Nat.sub m n)) (Nat.ble n m)
theorem subNN_eq (m n : Nat) : subNN m n = (m : Int) - n := by
  unfold subNN
  cases h : Nat.ble n m with
  | true =>
    have := Nat.le_of_ble_eq_true h
    show Int.ofNat (m - n) = _
    rw [Int.ofNat_eq_natCast]; omega
  | false =>
    have : ¬ n ≤ m := fun h2 => by rw [Nat.ble_eq_true_of_le h2] at h; cases h
    show Int.negSucc (Nat.pred (n - m)) = _
    rw [Int.negSucc_eq, Nat.pred_eq_sub_one]; omega
noncomputable def addF (a b : Int) : Int := Int.rec (motive := fun _ => Int → Int) (fun m b => Int.rec (motive := fun _ => Int) (fun n => .ofNat (Nat.add m n)) (fun n => subNN m (Nat.succ n)) b) (fun m b => Int.rec (motive := fun _ => Int) (fun n => subNN n (Nat.succ m)) (fun n => .negSucc (Nat.succ (Nat.add m n))) b) a b
theorem addF_eq (a b : Int) : addF a b = a + b := by
  cases a with
  | ofNat m =>
    cases b with
    | ofNat n => show Int.ofNat (m + n) = _; simp
    | negSucc n => show subNN m (n + 1) = _; rw [subNN_eq, Int.negSucc_eq, Int.ofNat_eq_natCast]; omega
  | negSucc m =>
    cases b with
    | ofNat n => show subNN n (m + 1) = _; rw [subNN_eq, Int.negSucc_eq, Int.ofNat_eq_natCast]; omega
    | negSucc n => show Int.negSucc (m + n + 1) = _; rw [Int.negSucc_eq, Int.negSucc_eq, Int.negSucc_eq]; omega
noncomputable def subF (a b : Int) : Int := Int.rec (motive := fun _ => Int → Int) (fun m b => Int.rec (motive := fun _ => Int) (fun n => subNN m n) (fun n => .ofNat (Nat.succ (Nat.add m n))) b) (fun m b => Int.rec (motive := fun _ => Int) (fun n => .negSucc (Nat.add m n)) (fun n => subNN n m) b) a b
theorem subF_eq (a b : Int) : subF a b = a - b := by
  cases a with
  | ofNat m =>
    cases b with
    | ofNat n => show subNN m n = _; rw [subNN_eq]; simp
    | negSucc n => show Int.ofNat (m + n + 1) = _; rw [Int.negSucc_eq, Int.ofNat_eq_natCast, Int.ofNat_eq_natCast]; omega
  | negSucc m =>
    cases b with
    | ofNat n => show Int.negSucc (m + n) = _; rw [Int.negSucc_eq, Int.negSucc_eq, Int.ofNat_eq_natCast]; omega
    | negSucc n => show subNN n m = _; rw [subNN_eq, Int.negSucc_eq, Int.negSucc_eq]; omega
noncomputable def leF (a b : Int) : Bool := Int.rec (motive := fun _ => Int → Bool) (fun m b => Int.rec (motive := fun _ => Bool) (fun n => Nat.ble m n) (fun _ => false) b) (fun m b => Int.rec (motive := fun _ => Bool) (fun _ => true) (fun n => Nat.ble n m) b) a b
theorem ble_eq (m n : Nat) : Nat.ble m n = decide (m ≤ n) := by
  cases h : Nat.ble m n with
  | true => exact (decide_eq_true (Nat.le_of_ble_eq_true h)).symm
  | false => exact (decide_eq_false (fun h2 => by rw [Nat.ble_eq_true_of_le h2] at h; cases h)).symm
theorem leF_eq (a b : Int) : leF a b = decide (a ≤ b) := by
  cases a with
  | ofNat m =>
    cases b with
    | ofNat n => show Nat.ble m n = _; rw [ble_eq]; congr 1; apply propext; simp
    | negSucc n => show false = _; symm; apply decide_eq_false; rw [Int.negSucc_eq, Int.ofNat_eq_natCast]; omega
  | negSucc m =>
    cases b with
    | ofNat n => show true = _; symm; apply decide_eq_true; rw [Int.negSucc_eq, Int.ofNat_eq_natCast]; omega
    | negSucc n => show Nat.ble n m = _; rw [ble_eq]; congr 1; apply propext; rw [Int.negSucc_eq, Int.negSucc_eq]; omega
noncomputable def notB (b : Bool) : Bool := Bool.rec (motive := fun _ => Bool) true false b
theorem notB_eq (b : Bool) : notB b = !b := by cases b <;> rfl
theorem ltF_eq (a b : Int) : notB (leF b a) = decide (a < b) := by
  rw [notB_eq, leF_eq, ← decide_not]; congr 1; apply propext; omega
noncomputable def eqF (a b : Int) : Bool := Int.rec (motive := fun _ => Int → Bool) (fun m b => Int.rec (motive := fun _ => Bool) (fun n => Nat.beq m n) (fun _ => false) b) (fun m b => Int.rec (motive := fun _ => Bool) (fun _ => false) (fun n => Nat.beq m n) b) a b
theorem beq_eq (m n : Nat) : Nat.beq m n = decide (m = n) := by
  cases h : Nat.beq m n with
  | true => exact (decide_eq_true (Nat.eq_of_beq_eq_true h)).symm
  | false => exact (decide_eq_false (fun h2 => by subst h2; rw [Nat.beq_refl] at h; cases h)).symm
theorem eqF_eq (a b : Int) : eqF a b = (a == b) := by
  show _ = decide (a = b)
  cases a with
  | ofNat m =>
    cases b with
    | ofNat n => show Nat.beq m n = _; rw [beq_eq]; congr 1; apply propext; rw [Int.ofNat_eq_natCast, Int.ofNat_eq_natCast]; omega
    | negSucc n => show false = _; symm; apply decide_eq_false; rw [Int.negSucc_eq, Int.ofNat_eq_natCast]; omega
  | negSucc m =>
    cases b with
    | ofNat n => show false = _; symm; apply decide_eq_false; rw [Int.negSucc_eq, Int.ofNat_eq_natCast]; omega
    | negSucc n => show Nat.beq m n = _; rw [beq_eq]; congr 1; apply propext; rw [Int.negSucc_eq, Int.negSucc_eq]; omega
/-- A number as its kind holds it: at once where it fits. -/
noncomputable def wrapF (k : IntKind) (r : Int) : Int := IntKind.rec (motive := fun _ => Int → Int) (fun r => IntKind.i8.wrap r) (fun r => IntKind.i16.wrap r) (fun r => IntKind.i32.wrap r)
  (fun r => Int.rec (motive := fun _ => Int) (fun m => Bool.rec (motive := fun _ => Int) (IntKind.i64.wrap (.ofNat m)) (.ofNat m) (Nat.ble m 9223372036854775807)) (fun m => Bool.rec (motive := fun _ => Int) (IntKind.i64.wrap (.negSucc m)) (.negSucc m) (Nat.ble m 9223372036854775807)) r)
  (fun r => Int.rec (motive := fun _ => Int) (fun m => .ofNat (Nat.mod m 256)) (fun m => IntKind.u8.wrap (.negSucc m)) r) (fun r => IntKind.u16.wrap r)
  (fun r => Int.rec (motive := fun _ => Int) (fun m => .ofNat (Nat.mod m 4294967296)) (fun m => IntKind.u32.wrap (.negSucc m)) r)
  (fun r => Int.rec (motive := fun _ => Int) (fun m => .ofNat (Nat.mod m 18446744073709551616)) (fun m => IntKind.u64.wrap (.negSucc m)) r) k r
theorem wrapF_eq (k : IntKind) (r : Int) : wrapF k r = k.wrap r := by
  cases k with
  | i64 =>
    cases r with
    | ofNat m =>
      show Bool.rec (motive := fun _ => Int) (IntKind.i64.wrap (.ofNat m)) (.ofNat m) (Nat.ble m 9223372036854775807) = _
      cases h : Nat.ble m 9223372036854775807 with
      | false => rfl
      | true =>
        have := Nat.le_of_ble_eq_true h
        show Int.ofNat m = _
        rw [IntKind.wrap_i64, Int.ofNat_eq_natCast]; omega
    | negSucc m =>
      show Bool.rec (motive := fun _ => Int) (IntKind.i64.wrap (.negSucc m)) (.negSucc m) (Nat.ble m 9223372036854775807) = _
      cases h : Nat.ble m 9223372036854775807 with
      | false => rfl
      | true =>
        have := Nat.le_of_ble_eq_true h
        show Int.negSucc m = _
        rw [IntKind.wrap_i64, Int.negSucc_eq]; omega
  | u8 => cases r with
    | ofNat m => show Int.ofNat (m % 256) = _; rw [IntKind.wrap_u8, Int.ofNat_eq_natCast, Int.ofNat_eq_natCast]; omega
    | negSucc m => rfl
  | u32 => cases r with
    | ofNat m => show Int.ofNat (m % 4294967296) = _; rw [IntKind.wrap_u32, Int.ofNat_eq_natCast, Int.ofNat_eq_natCast]; omega
    | negSucc m => rfl
  | u64 => cases r with
    | ofNat m => show Int.ofNat (m % 18446744073709551616) = _; rw [IntKind.wrap_u64, Int.ofNat_eq_natCast, Int.ofNat_eq_natCast]; omega
    | negSucc m => rfl
  | i8 => rfl
  | i16 => rfl
  | i32 => rfl
  | u16 => rfl
/-! ### Lists -/
noncomputable def nthL {α : Type} (l : List α) (i : Nat) : Option α := List.rec (motive := fun _ => Nat → Option α) (fun _ => none) (fun c _ ih i => Nat.rec (motive := fun _ => Option α) (some c) (fun j _ => ih j) i) l i
theorem nthL_eq {α : Type} : ∀ (l : List α) (i : Nat), nthL l i = l[i]?
  | [], _ => rfl
  | c :: l, 0 => rfl
  | c :: l, i + 1 => by show nthL l i = _; rw [nthL_eq l i]; rfl
end Go.Proofs.YtcmlgmiomcegeaaGreat.Ev
