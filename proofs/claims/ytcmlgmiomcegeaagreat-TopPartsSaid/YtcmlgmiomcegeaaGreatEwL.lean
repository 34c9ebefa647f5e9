/- The steps of an abstract run once more, laid out for the kernel. No condition. -/
import Derived.Test.YtcmlgmiomcegeaaGreatEwK
namespace Go.Proofs.YtcmlgmiomcegeaaGreat.Ev
open Go Go.RowKit Go.Maps
set_option linter.unusedVariables false
set_option linter.unusedSimpArgs false
set_option linter.unusedSectionVars false
variable [Env]

noncomputable def kA (A : TS) (x : Operand) (k : S → Bool) : Bool := Operand.rec (motive := fun _ => TS → (S → Bool) → Bool) (fun t A k => Option.rec (motive := fun _ => Bool) false k (TS.getF A t)) (fun v _ k => Option.rec (motive := fun _ => Bool) false k (constS v)) (fun _ _ _ => false) (fun f _ k => k (.v (.c (.fn f [])))) x A k
theorem kA_eq (A : TS) (x : Operand) (k : S → Bool) : kA A x k = kO (eA A x) k := by cases x <;> rfl
noncomputable def pS (nt : Nat) (A : TS) (d : Option Tmp) (s : S) (K : TS → Bool) : Bool := Option.rec (motive := fun _ => Nat → TS → S → (TS → Bool) → Bool) (fun nt A s K => K A) (fun d nt A s K => Bool.rec (motive := fun _ => Bool) false (TS.putF A d s K) (Nat.ble (Nat.succ d) nt)) d nt A s K
theorem pS_eq (nt : Nat) (A : TS) (d : Option Tmp) (s : S) (K : TS → Bool) : pS nt A d s K = slotK nt A d s K := by cases d <;> rfl
/-- A cell, or nothing. -/
noncomputable def kAC (A : TS) (x : Operand) (k : C → Bool) : Bool := kA A x (fun s => S.rec (motive := fun _ => (C → Bool) → Bool) (fun v k => V.rec (motive := fun _ => Bool) k (fun _ => false) v) (fun _ _ => false) (fun _ => false) s k)
theorem kAC_eq (A : TS) (x : Operand) (k : C → Bool) : kAC A x k = kC (eA A x) k := by
  unfold kAC
  rw [kA_eq]
  cases eA A x with
  | none => rfl
  | some s => cases s <;> rfl
/-- A number, or else. -/
noncomputable def kAI (A : TS) (x : Operand) (g : Unit → Bool) (k : IntKind → Int → Bool) : Bool := Operand.rec (motive := fun _ => TS → (S → Bool) → Bool → Bool) (fun t A k g => Option.rec (motive := fun _ => Bool) g k (TS.getF A t)) (fun v _ k g => Option.rec (motive := fun _ => Bool) g k (constS v)) (fun _ _ _ g => g) (fun f _ k _ => k (.v (.c (.fn f [])))) x A
  (fun s => S.rec (motive := fun _ => (Unit → Bool) → (IntKind → Int → Bool) → Bool) (fun v g k => V.rec (motive := fun _ => Bool) (fun c => C.rec (motive := fun _ => (Unit → Bool) → (IntKind → Int → Bool) → Bool) (fun _ g _ => g ()) (fun kd n _ k => k kd n) (fun _ g _ => g ()) (fun _ _ g _ => g ()) (fun g _ => g ()) (fun _ _ _ _ g _ => g ()) (fun g _ => g ()) (fun g _ => g ()) (fun _ _ g _ => g ()) (fun g _ => g ()) (fun _ g _ => g ()) (fun g _ => g ()) (fun g _ => g ()) (fun _ _ _ g _ => g ()) (fun _ g _ => g ()) (fun _ g _ => g ()) (fun _ _ _ g _ => g ()) (fun _ _ g _ => g ()) (fun _ g _ => g ()) (fun g _ => g ()) (fun g _ => g ()) c g k) (fun _ => g ()) v) (fun _ g _ => g ()) (fun g _ => g ()) s g k) (g ())
theorem kAI_eq (A : TS) (x : Operand) (g : Unit → Bool) (k : IntKind → Int → Bool) : kAI A x g k = kI (eA A x) (g ()) k := by
  have key : ∀ s : S, (S.rec (motive := fun _ => (Unit → Bool) → (IntKind → Int → Bool) → Bool) (fun v g k => V.rec (motive := fun _ => Bool) (fun c => C.rec (motive := fun _ => (Unit → Bool) → (IntKind → Int → Bool) → Bool) (fun _ g _ => g ()) (fun kd n _ k => k kd n) (fun _ g _ => g ()) (fun _ _ g _ => g ()) (fun g _ => g ()) (fun _ _ _ _ g _ => g ()) (fun g _ => g ()) (fun g _ => g ()) (fun _ _ g _ => g ()) (fun g _ => g ()) (fun _ g _ => g ()) (fun g _ => g ()) (fun g _ => g ()) (fun _ _ _ g _ => g ()) (fun _ g _ => g ()) (fun _ g _ => g ()) (fun _ _ _ g _ => g ()) (fun _ _ g _ => g ()) (fun _ g _ => g ()) (fun g _ => g ()) (fun g _ => g ()) c g k) (fun _ => g ()) v) (fun _ g _ => g ()) (fun g _ => g ()) s g k : Bool) = kI (some s) (g ()) k := fun s => by
    cases s with
    | v v =>
      cases v with
      | c c => cases c <;> rfl
      | agg l => rfl
    | tup l => rfl
    | un => rfl
  have opt : ∀ o : Option S, (Option.rec (motive := fun _ => Bool) (g ()) (fun s => kI (some s) (g ()) k) o : Bool) = kI o (g ()) k := fun o => by cases o <;> rfl
  unfold kAI
  simp only [key]
  cases x with
  | tmp t => exact opt _
  | const v => exact opt _
  | global g => rfl
  | func f => rfl
/-! ### Numbers of sixty-four bits -/
noncomputable def ikB (a b : IntKind) : Bool := decide (a = b)
theorem ite_ikB (a b : IntKind) (x : Bool) : Bool.rec (motive := fun _ => Bool) false x (ikB a b) = ite (a = b) x false := by
  unfold ikB
  by_cases h : a = b
  · rw [decide_eq_true h, if_pos h]
  · rw [decide_eq_false h, if_neg h]
noncomputable def litK (k : IntKind) (m : Nat) (K : C → Bool) : Bool := Nat.rec (motive := fun _ => IntKind → (C → Bool) → Bool) (fun k K => K (.int k (.ofNat 0))) (fun j _ k K => K (.int k (.ofNat j))) (Nat.add m 1) k K
noncomputable def addK (k : IntKind) (x y : Int) (K : C → Bool) : Bool := Int.rec (motive := fun _ => IntKind → Int → (C → Bool) → Bool) (fun m k y K => Int.rec (motive := fun _ => IntKind → Nat → (C → Bool) → Bool)
  (fun n k m K => Bool.rec (motive := fun _ => Bool) (fI (wrapF k (.ofNat (Nat.add m n))) (fun r => K (.int k r))) (litK k (Nat.add m n) K) (Nat.ble (Nat.add m n) 127))
  (fun n k m K => fI (wrapF k (subNN m (Nat.succ n))) (fun r => K (.int k r))) y k m K) (fun m k y K => fI (wrapF k (addF (.negSucc m) y)) (fun r => K (.int k r))) x k y K
theorem wrap_small (k : IntKind) (m : Nat) (h : m ≤ 127) : k.wrap (.ofNat m) = .ofNat m := by
  rw [Int.ofNat_eq_natCast]
  cases k
  · unfold IntKind.wrap; simp [IntKind.bits, IntKind.signed]; omega
  · unfold IntKind.wrap; simp [IntKind.bits, IntKind.signed]; omega
  · rw [IntKind.wrap_i32]; omega
  · rw [IntKind.wrap_i64]; omega
  · rw [IntKind.wrap_u8]; omega
  · rw [IntKind.wrap_u16]; omega
  · rw [IntKind.wrap_u32]; omega
  · rw [IntKind.wrap_u64]; omega
theorem addK_eq (k : IntKind) (x y : Int) (K : C → Bool) : addK k x y K = fI (wrapF k (addF x y)) (fun r => K (.int k r)) := by
  cases x with
  | negSucc m => rfl
  | ofNat m =>
    cases y with
    | negSucc n => rfl
    | ofNat n =>
      show Bool.rec (motive := fun _ => Bool) (fI (wrapF k (.ofNat (Nat.add m n))) (fun r => K (.int k r))) (litK k (Nat.add m n) K) (Nat.ble (Nat.add m n) 127) = fI (wrapF k (.ofNat (Nat.add m n))) (fun r => K (.int k r))
      cases h : Nat.ble (Nat.add m n) 127 with
      | false => rfl
      | true =>
        have := Nat.le_of_ble_eq_true h
        rw [fI_eq, wrapF_eq, wrap_small k _ this]; rfl
noncomputable def sbK (k : IntKind) (x y : Int) (K : C → Bool) : Bool := Int.rec (motive := fun _ => IntKind → Int → (C → Bool) → Bool) (fun m k y K => Int.rec (motive := fun _ => IntKind → Nat → (C → Bool) → Bool)
  (fun n k m K => Bool.rec (motive := fun _ => Bool) (fI (wrapF k (subNN m n)) (fun r => K (.int k r))) (Bool.rec (motive := fun _ => Bool) (fI (wrapF k (subNN m n)) (fun r => K (.int k r))) (litK k (Nat.sub m n) K) (Nat.ble n m)) (Nat.ble (Nat.sub m n) 127))
  (fun n k m K => fI (wrapF k (subF (.ofNat m) (.negSucc n))) (fun r => K (.int k r))) y k m K) (fun m k y K => fI (wrapF k (subF (.negSucc m) y)) (fun r => K (.int k r))) x k y K
theorem sbK_eq (k : IntKind) (x y : Int) (K : C → Bool) : sbK k x y K = fI (wrapF k (subF x y)) (fun r => K (.int k r)) := by
  cases x with
  | negSucc m => rfl
  | ofNat m =>
    cases y with
    | negSucc n => rfl
    | ofNat n =>
      show Bool.rec (motive := fun _ => Bool) (fI (wrapF k (subNN m n)) (fun r => K (.int k r))) (Bool.rec (motive := fun _ => Bool) (fI (wrapF k (subNN m n)) (fun r => K (.int k r))) (litK k (Nat.sub m n) K) (Nat.ble n m)) (Nat.ble (Nat.sub m n) 127) = fI (wrapF k (subNN m n)) (fun r => K (.int k r))
      cases h : Nat.ble (Nat.sub m n) 127 with
      | false => rfl
      | true =>
        cases h2 : Nat.ble n m with
        | false => rfl
        | true =>
          have := Nat.le_of_ble_eq_true h
          have h3 := Nat.le_of_ble_eq_true h2
          have e : subNN m n = .ofNat (m - n) := by unfold subNN; rw [h2]; rfl
          rw [e, fI_eq, wrapF_eq]
          show K (.int k (.ofNat (Nat.sub m n))) = _
          exact (congrArg (fun r => K (.int k r)) (wrap_small k (m - n) this)).symm
noncomputable def cmK (x y : Int) (f : Nat → Nat → Bool) (g : Unit → Bool) : Bool := Int.rec (motive := fun _ => Int → (Nat → Nat → Bool) → (Unit → Bool) → Bool) (fun m y f g => Int.rec (motive := fun _ => Nat → (Nat → Nat → Bool) → (Unit → Bool) → Bool) (fun n m f _ => f m n) (fun _ _ _ g => g ()) y m f g) (fun _ _ _ g => g ()) x y f g
theorem cmK_eq {x y : Int} {f : Nat → Nat → Bool} {g : Unit → Bool} {b : Bool} (h1 : ∀ m n : Nat, x = .ofNat m → y = .ofNat n → f m n = b) (h2 : g () = b) : cmK x y f g = b := by
  cases x with
  | negSucc m => exact h2
  | ofNat m =>
    cases y with
    | negSucc n => exact h2
    | ofNat n => exact h1 m n rfl rfl
noncomputable def intL (op : BinOp) (k : IntKind) (x : Int) (k' : IntKind) (y : Int) (K : C → Bool) : Bool := BinOp.rec (motive := fun _ => BinOp → IntKind → Int → IntKind → Int → (C → Bool) → Bool)
  (fun _ k x k' y K => Bool.rec (motive := fun _ => Bool) false (addK k x y K) (ikB k k'))
  (fun _ k x k' y K => Bool.rec (motive := fun _ => Bool) false (sbK k x y K) (ikB k k'))
  (fun op k x k' y K => intK op k x k' y K) (fun op k x k' y K => intK op k x k' y K) (fun op k x k' y K => intK op k x k' y K) (fun op k x k' y K => intK op k x k' y K) (fun op k x k' y K => intK op k x k' y K) (fun op k x k' y K => intK op k x k' y K) (fun op k x k' y K => intK op k x k' y K) (fun op k x k' y K => intK op k x k' y K) (fun op k x k' y K => intK op k x k' y K)
  (fun op k x k' y K => Bool.rec (motive := fun _ => Bool) false (cmK x y (fun m n => K (.bool (Nat.beq m n))) (fun _ => K (.bool (eqF x y)))) (ikB k k'))
  (fun op k x k' y K => Bool.rec (motive := fun _ => Bool) false (K (.bool (notB (eqF x y)))) (ikB k k'))
  (fun op k x k' y K => Bool.rec (motive := fun _ => Bool) false (cmK x y (fun m n => K (.bool (Nat.ble (Nat.succ m) n))) (fun _ => K (.bool (notB (leF y x))))) (ikB k k'))
  (fun op k x k' y K => Bool.rec (motive := fun _ => Bool) false (cmK x y (fun m n => K (.bool (Nat.ble m n))) (fun _ => K (.bool (leF x y)))) (ikB k k'))
  (fun op k x k' y K => Bool.rec (motive := fun _ => Bool) false (cmK x y (fun m n => K (.bool (Nat.ble (Nat.succ n) m))) (fun _ => K (.bool (notB (leF x y))))) (ikB k k'))
  (fun op k x k' y K => Bool.rec (motive := fun _ => Bool) false (cmK x y (fun m n => K (.bool (Nat.ble n m))) (fun _ => K (.bool (leF y x)))) (ikB k k')) op op k x k' y K
theorem lt_b (m n : Nat) : Nat.ble (Nat.succ m) n = notB (leF (.ofNat n) (.ofNat m)) := by
  rw [ltF_eq, ble_eq]
  congr 1
  apply propext
  rw [Int.ofNat_eq_natCast, Int.ofNat_eq_natCast]
  omega
theorem intL_eq (op : BinOp) (k : IntKind) (x : Int) (k' : IntKind) (y : Int) (K : C → Bool) : intL op k x k' y K = intK op k x k' y K := by
  cases op
  case add => show Bool.rec (motive := fun _ => Bool) false (addK k x y K) (ikB k k') = _; rw [ite_ikB, addK_eq]; rfl
  case sub => show Bool.rec (motive := fun _ => Bool) false (sbK k x y K) (ikB k k') = _; rw [ite_ikB, sbK_eq]; rfl
  case eql => show Bool.rec (motive := fun _ => Bool) false (cmK x y _ _) (ikB k k') = _; rw [ite_ikB, cmK_eq (b := K (.bool (eqF x y))) (fun m n h1 h2 => by subst h1; subst h2; rfl) rfl]; rfl
  case neq => show Bool.rec (motive := fun _ => Bool) false (K (.bool (notB (eqF x y)))) (ikB k k') = _; rw [ite_ikB]; rfl
  case lss => show Bool.rec (motive := fun _ => Bool) false (cmK x y _ _) (ikB k k') = _; rw [ite_ikB, cmK_eq (b := K (.bool (notB (leF y x)))) (fun m n h1 h2 => by subst h1; subst h2; rw [lt_b]) rfl]; rfl
  case leq => show Bool.rec (motive := fun _ => Bool) false (cmK x y _ _) (ikB k k') = _; rw [ite_ikB, cmK_eq (b := K (.bool (leF x y))) (fun m n h1 h2 => by subst h1; subst h2; rfl) rfl]; rfl
  case gtr => show Bool.rec (motive := fun _ => Bool) false (cmK x y _ _) (ikB k k') = _; rw [ite_ikB, cmK_eq (b := K (.bool (notB (leF x y)))) (fun m n h1 h2 => by subst h1; subst h2; rw [lt_b]) rfl]; rfl
  case geq => show Bool.rec (motive := fun _ => Bool) false (cmK x y _ _) (ikB k k') = _; rw [ite_ikB, cmK_eq (b := K (.bool (leF y x))) (fun m n h1 h2 => by subst h1; subst h2; rfl) rfl]; rfl
  all_goals rfl
/-! ### Operations -/
abbrev OpL := CallK → Program → Nat → TS → HT → Nat → Option Tmp → Oper → KS → Bool
/-- What yields a value and nothing else. -/
noncomputable def vK (nt : Nat) (A : TS) (H : HT) (n : Nat) (d : Option Tmp) (k : KS) (s : S) : Bool := pS nt A d s (fun A => k A H n 0 0)
noncomputable def restL : OpL := fun call P nt A H n d o k => opK call P H n A o (fun s H n F W => pS nt A d s (fun A => k A H n F W))
noncomputable def opL (op : Op) : OpL := Op.rec (motive := fun _ => OpL)
  (fun x _ _ nt A H n d _ k => kA A x (fun s => pS nt A d s (fun A => k A H n 0 0)))
  (fun x _ _ nt A H n d _ k => kA A x (fun s => pS nt A d s (fun A => k A H n 0 0)))
  (fun c x y _ _ nt A H n d _ k => kAC A c (fun c => kBool c (fun b => kA A (Bool.rec (motive := fun _ => Operand) y x b) (fun s => pS nt A d s (fun A => k A H n 0 0)))))
  (fun _ => restL) (fun _ _ => restL) (fun _ _ => restL) (fun _ _ _ => restL) (fun _ _ _ _ => restL)
  (fun _ _ => restL)
  (fun _ _ _ => restL)
  (fun _ => restL) (fun _ => restL)
  (fun _ => restL)
  (fun op t x y _ call P nt A H n d _ k => kAI A x (fun _ => genB call P H n A op t x y (fun s H n F W => pS nt A d s (fun A => k A H n F W))) (fun kd a => kAI A y (fun _ => genB call P H n A op t x y (fun s H n F W => pS nt A d s (fun A => k A H n F W))) (fun kd' b => intL op kd a kd' b (fun c => pS nt A d (.v (.c c)) (fun A => k A H n 0 0)))))
  (fun _ _ _ => restL)
  (fun _ _ _ => restL)
  (fun _ _ => restL) (fun _ _ => restL) (fun _ _ _ => restL) (fun _ _ => restL) (fun _ _ => restL) (fun _ _ _ => restL) (fun _ _ _ _ _ => restL)
  (fun t x f _ P nt A H n d _ k => kAC A x (fun c => kPtr c (fun i off => Option.rec (motive := fun _ => Bool) false (fun df => forceN (Nat.add off df) (fun o => pS nt A d (.v (.c (.ptr i o))) (fun A => k A H n 0 0))) (faOff P t f))))
  (fun _ _ _ => restL)
  (fun _ _ _ => restL)
  (fun _ _ _ => restL) (fun _ _ _ _ => restL) (fun _ _ _ _ => restL) (fun _ _ _ => restL) (fun _ _ _ _ => restL) (fun _ _ => restL) (fun _ _ => restL) (fun _ => restL) (fun _ _ _ _ => restL)
  (fun _ _ => restL)
  (fun _ => restL)
  (fun _ => restL) (fun _ => restL) (fun _ => restL) (fun _ _ => restL) (fun _ _ _ => restL) (fun _ _ => restL) op
noncomputable def stepL (call : CallK) (P : Program) (ops : Array Oper) (nt : Nat) (A : TS) (H : HT) (n : Nat) (o : Oper) (k : KS) : Bool := Oper.rec (motive := fun _ => CallK → Program → Array Oper → Nat → TS → HT → Nat → Oper → KS → Bool) (fun dst op _ _ _ guard call P ops nt A H n o k => Option.rec (motive := fun _ => Op → CallK → Program → Array Oper → Nat → TS → HT → Nat → Option Tmp → Oper → KS → Bool)
  (fun op call P _ nt A H n d o k => opL op call P nt A H n d o k)
  (fun p op call P ops nt A H n d o k => kO ((ops[p.1]?).bind (·.dst)) (fun g => kO (TS.getF A g) (fun s => gdK s p.2 (fun _ => opL op call P nt A H n d o k) (fun _ => pS nt A d .un (fun A => k A H n 0 0))))) guard op call P ops nt A H n dst o k) o call P ops nt A H n o k
theorem pS_fun (nt : Nat) (A : TS) (d : Option Tmp) (s : S) : pS nt A d s = slotK nt A d s := funext (pS_eq nt A d s)
theorem opL_eq (call : CallK) (P : Program) (nt : Nat) (A : TS) (H : HT) (n : Nat) (o : Oper) (k : KS) : opL o.op call P nt A H n o.dst o k = goK call P nt A H n o k := by
  have rest : restL call P nt A H n o.dst o k = goK call P nt A H n o k := by
    unfold restL goK
    simp only [pS_fun]
  cases ho : o.op with
  | move x =>
    show kA A x _ = _
    rw [kA_eq]; unfold goK opK; rw [ho]
    simp only [pS_fun]; rfl
  | assign x =>
    show kA A x _ = _
    rw [kA_eq]; unfold goK opK; rw [ho]
    simp only [pS_fun]; rfl
  | pick c x y =>
    show kAC A c _ = _
    rw [kAC_eq]; unfold goK opK; rw [ho]
    show _ = pickK A c x y _
    unfold pickK
    congr 1
    funext c
    congr 1
    funext b
    rw [kA_eq]
    simp only [pS_fun]
    cases b <;> rfl
  | binOp op t x y ty =>
    show kAI A x _ _ = _
    unfold goK opK; rw [ho]
    show _ = binXK call P H n A op t x y _
    unfold binXK
    rw [kAI_eq]
    simp only [kAI_eq, intL_eq, pS_fun]
    first | done | rfl
  | fieldAddr t x f =>
    show kAC A x _ = _
    rw [kAC_eq]; unfold goK opK; rw [ho]
    show _ = faK P A t x f _
    unfold faK
    simp only [pS_fun]
    rfl
  | _ => exact rest
theorem stepL_eq (call : CallK) (P : Program) (ops : Array Oper) (nt : Nat) (A : TS) (H : HT) (n : Nat) (o : Oper) (k : KS) : stepL call P ops nt A H n o k = stepK call P ops nt A H n o k := by
  obtain ⟨dst, op, ty, pos, after, guard⟩ := o
  cases guard with
  | none => exact opL_eq call P nt A H n ⟨dst, op, ty, pos, after, none⟩ k
  | some p =>
    show kO ((ops[p.1]?).bind (·.dst)) _ = kO ((ops[p.1]?).bind (·.dst)) _
    congr 1
    funext g
    show kO (TS.getF A g) _ = kO (TS.get A g) _
    rw [TS.getF_eq]
    congr 1
    funext s
    rw [pS_eq]
    have := opL_eq call P nt A H n ⟨dst, op, ty, pos, after, some p⟩ k
    simp only at this
    rw [this]
noncomputable def evUL (call : CallK) (P : Program) (ops : Array Oper) (nt : Nat) (l : List Oper) (A : TS) (H : HT) (n : Nat) (k : KS) : Bool := List.rec (motive := fun _ => TS → HT → Nat → KS → Bool) (fun A H n k => k A H n 0 0) (fun o _ ih A H n k => stepL call P ops nt A H n o (fun A1 H1 n1 F W => ih A1 H1 n1 (fun A2 H2 n2 F2 W2 => k A2 H2 n2 (Nat.lor F F2) (Nat.lor W W2)))) l A H n k
noncomputable def evLL (call : CallK) (P : Program) (ops : Array Oper) (nt : Nat) (l : List Oper) (A : TS) (H : HT) (n : Nat) (k : KL) : Bool := List.rec (motive := fun _ => TS → HT → Nat → KL → Bool) (fun A H n k => k A H n []) (fun o _ ih A H n k => stepL call P ops nt A H n o (fun A1 H1 n1 F W => ih A1 H1 n1 (fun A2 H2 n2 rs => k A2 H2 n2 ((F, W, nwm n n1) :: rs)))) l A H n k
theorem evUL_eq (call : CallK) (P : Program) (ops : Array Oper) (nt : Nat) (l : List Oper) (A : TS) (H : HT) (n : Nat) (k : KS) : evUL call P ops nt l A H n k = evUK call P ops nt l A H n k := by
  unfold evUL evUK
  simp only [stepL_eq]
theorem evLL_eq (call : CallK) (P : Program) (ops : Array Oper) (nt : Nat) (l : List Oper) (A : TS) (H : HT) (n : Nat) (k : KL) : evLL call P ops nt l A H n k = evLK call P ops nt l A H n k := by
  unfold evLL evLK
  simp only [stepL_eq]
noncomputable def evRL (call : CallK) (P : Program) (nt : Nat) (ops : Array Oper) (draw : Bool) (A : TS) (H : HT) (n : Nat) (k : KX) : Bool := Bool.rec (motive := fun _ => CallK → Program → Nat → Array Oper → TS → HT → Nat → KX → Bool)
  (fun call P nt ops A H n k => evUL call P ops nt ops.toList A H n (fun A H n F W => k .nm A H n F W))
  (fun call P nt ops A H n k => evLL call P ops nt ops.toList A H n (fun A2 H2 n2 rs => Bool.rec (motive := fun _ => Bool) false (k .nm A2 H2 n2 (orL1 rs) (orL2 rs)) (okD ops rs n n2))) draw call P nt ops A H n k
theorem evRL_eq (call : CallK) (P : Program) (nt : Nat) (ops : Array Oper) (draw : Bool) (A : TS) (H : HT) (n : Nat) (k : KX) : evRL call P nt ops draw A H n k = evRK call P nt ops draw A H n k := by
  unfold evRL evRK
  simp only [evUL_eq, evLL_eq]
noncomputable def evCL (hk : Hook) (call : CallK) (P : Program) (nt N : Nat) (c : Code) (A : TS) (H : HT) (n : Nat) (k : KX) : Bool := Code.rec (motive := fun _ => TS → HT → Nat → KX → Bool)
  (fun A H n k => k .nm A H n 0 0)
  (fun _ ops draw A H n k => evRL call P nt ops draw A H n k)
  (fun _ _ ia ib A H n k => ia A H n (fun x A1 H1 n1 F1 W1 => X.rec (motive := fun _ => Bool) (ib A1 H1 n1 (fun x A2 H2 n2 F2 W2 => k x A2 H2 n2 (Nat.lor F1 F2) (Nat.lor W1 W2))) (fun i => k (.ex i) A1 H1 n1 F1 W1) (k .rt A1 H1 n1 F1 W1) x))
  (fun c _ _ ia ib A H n k => kAC A c (fun c => kBoolU c (fun b => Bool.rec (motive := fun _ => Bool) (ib A H n k) (ia A H n k) b) (fun _ => joinK nt ia ib A H n k)))
  (fun id _ ia A H n k => blockK id ia A H n k)
  (fun c ia A H n k => Option.rec (motive := fun _ => Bool) (iterK ia N A H n k) (fun g => skipK g (iterK ia N) A H n k) (hk c))
  (fun _ _ _ _ _ _ _ _ _ _ => false)
  (fun id A H n k => k (.ex id) A H n 0 0)
  (fun _ _ _ _ _ _ => false)
  (fun _ A H n k => k .nm A H n 0 0)
  (fun _ _ _ _ _ => false)
  (fun A H n k => k .rt A H n 0 0)
  (fun _ _ _ _ _ => false) c A H n k
theorem evCL_eq (hk : Hook) (call : CallK) (P : Program) (nt N : Nat) : ∀ (c : Code) (A : TS) (H : HT) (n : Nat) (k : KX), evCL hk call P nt N c A H n k = evCK hk call P nt N c A H n k
  | .skip, A, H, n, k => rfl
  | .label _, A, H, n, k => rfl
  | .exit _, A, H, n, k => rfl
  | .ret, A, H, n, k => rfl
  | .rangeFunc .., A, H, n, k => rfl
  | .scope _, A, H, n, k => rfl
  | .goto _, A, H, n, k => rfl
  | .refuse _, A, H, n, k => rfl
  | .region _ ops draw, A, H, n, k => evRL_eq _ _ _ _ _ _ _ _ _
  | .seq a b, A, H, n, k => by
    show evCL hk call P nt N a A H n (fun x A1 H1 n1 F1 W1 => X.rec (motive := fun _ => Bool) (evCL hk call P nt N b A1 H1 n1 (fun x A2 H2 n2 F2 W2 => k x A2 H2 n2 (Nat.lor F1 F2) (Nat.lor W1 W2))) (fun i => k (.ex i) A1 H1 n1 F1 W1) (k .rt A1 H1 n1 F1 W1) x) = evCK hk call P nt N a A H n (fun x A1 H1 n1 F1 W1 => onNm x (fun _ => evCK hk call P nt N b A1 H1 n1 (fun x A2 H2 n2 F2 W2 => k x A2 H2 n2 (Nat.lor F1 F2) (Nat.lor W1 W2))) (fun _ => k x A1 H1 n1 F1 W1))
    rw [evCL_eq hk call P nt N a]
    congr 1
    funext x A1 H1 n1 F1 W1
    cases x with
    | nm => exact evCL_eq hk call P nt N b _ _ _ _
    | ex i => rfl
    | rt => rfl
  | .cond c a b, A, H, n, k => by
    have ea : (fun A H n k => evCL hk call P nt N a A H n k) = (fun A H n k => evCK hk call P nt N a A H n k) := by
      funext A H n k
      exact evCL_eq hk call P nt N a A H n k
    have eb : (fun A H n k => evCL hk call P nt N b A H n k) = (fun A H n k => evCK hk call P nt N b A H n k) := by
      funext A H n k
      exact evCL_eq hk call P nt N b A H n k
    show kAC A c (fun c => kBoolU c (fun b' => Bool.rec (motive := fun _ => Bool) (evCL hk call P nt N b A H n k) (evCL hk call P nt N a A H n k) b') (fun _ => joinK nt (fun A H n k => evCL hk call P nt N a A H n k) (fun A H n k => evCL hk call P nt N b A H n k) A H n k)) = kC (eA A c) (fun c => kBoolU c (fun b' => Bool.rec (motive := fun _ => Bool) (evCK hk call P nt N b A H n k) (evCK hk call P nt N a A H n k) b') (fun _ => joinK nt (fun A H n k => evCK hk call P nt N a A H n k) (fun A H n k => evCK hk call P nt N b A H n k) A H n k))
    rw [kAC_eq, evCL_eq hk call P nt N a, evCL_eq hk call P nt N b, ea, eb]
  | .block id c, A, H, n, k => by
    show evCL hk call P nt N c A H n _ = evCK hk call P nt N c A H n _
    exact evCL_eq hk call P nt N c _ _ _ _
  | .loop c, A, H, n, k => by
    have e : (fun A H n k => evCL hk call P nt N c A H n k) = (fun A H n k => evCK hk call P nt N c A H n k) := by
      funext A H n k
      exact evCL_eq hk call P nt N c A H n k
    show Option.rec (motive := fun _ => Bool) (iterK (fun A H n k => evCL hk call P nt N c A H n k) N A H n k) (fun g => skipK g (iterK (fun A H n k => evCL hk call P nt N c A H n k) N) A H n k) (hk c) = Option.rec (motive := fun _ => Bool) (iterK (fun A H n k => evCK hk call P nt N c A H n k) N A H n k) (fun g => skipK g (iterK (fun A H n k => evCK hk call P nt N c A H n k) N) A H n k) (hk c)
    rw [e]
end Go.Proofs.YtcmlgmiomcegeaaGreat.Ev
