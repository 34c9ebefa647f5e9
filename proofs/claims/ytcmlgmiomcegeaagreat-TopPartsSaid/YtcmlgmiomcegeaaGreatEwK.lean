/- An abstract run, handed on from step to step; it answers as the other one does. No condition. -/
import Derived.Test.YtcmlgmiomcegeaaGreatEwB
namespace Go.Proofs.YtcmlgmiomcegeaaGreat.Ev
open Go Go.RowKit Go.Maps
set_option linter.unusedVariables false
set_option linter.unusedSimpArgs false
set_option linter.unusedSectionVars false
variable [Env]

abbrev KR := S → HT → Nat → Nat → Nat → Bool
def elR (x : Option (S × HT × Nat × Nat × Nat)) (k : KR) : Bool := match x with | some (s, H, n, F, W) => k s H n F W | none => false
structure CallK where
  call : FuncId → List S → HT → Nat → KR → Bool
  xo : BinOp → C → C → Option C
/-- The two ways of calling agree. -/
def AgreeK (callK : CallK) (call : CallF) : Prop := (∀ f args H n k, callK.call f args H n k = elR (call.call f args H n) k) ∧ callK.xo = call.xo
/-! ### Effects -/
noncomputable def someF {α : Type} (x : Option α) : Bool := Option.rec (motive := fun _ => Bool) false (fun _ => true) x
theorem someF_eq {α : Type} (x : Option α) : someF x = x.isSome := by cases x <;> rfl
noncomputable def effK (n : Nat) (H : HT) (s : S) (e : Ef) (k : KR) : Bool := Ef.rec (motive := fun _ => Nat → HT → S → KR → Bool) (fun F n H s k => k s H n F 0)
  (fun F o n H s k => HT.putK H n (some o) (fun H => forceN (Nat.add n 1) (fun n => k s H n F 0)))
  (fun F i o n H s k => Bool.rec (motive := fun _ => Bool) false (HT.putK H i (some o) (fun H => k s H n F (one i))) (andB (someF (HT.get H i)) (andB (Nat.testBit F i) (Nat.ble (Nat.succ i) n))))
  (fun F i o n H s k => Bool.rec (motive := fun _ => Bool) false (HT.putK H i none (fun H => HT.putK H n (some o) (fun H => forceN (Nat.add n 1) (fun n => k s H n F (one i))))) (andB (someF (HT.get H i)) (andB (Nat.testBit F i) (Nat.ble (Nat.succ i) n)))) e n H s k
theorem effK_eq (n : Nat) (H : HT) (s : S) (e : Ef) (k : KR) : effK n H s e k = elR (if e.chk n H then (e.apT n H).map fun H' => (s, H', e.n' n, e.F, e.Wm) else none) k := by
  have hc : ∀ (F i : Nat), andB (someF (HT.get H i)) (andB (Nat.testBit F i) (Nat.ble (Nat.succ i) n)) = ((hg H i).isSome && tb F i && decide (i < n)) := fun F i => by
    rw [andB_eq, andB_eq, someF_eq, ble_eq, ← Bool.and_assoc]; rfl
  cases e with
  | no F => rfl
  | new F o =>
    show HT.putK H n (some o) (fun H => k s H (n + 1) F 0) = elR ((HT.put H n (some o)).map _) k
    rw [HT.putK_eq]
    cases HT.put H n (some o) <;> rfl
  | set F i o =>
    show Bool.rec (motive := fun _ => Bool) false _ (andB (someF (HT.get H i)) (andB (Nat.testBit F i) (Nat.ble (Nat.succ i) n))) = elR (if ((hg H i).isSome && tb F i && decide (i < n)) = true then (HT.put H i (some o)).map _ else none) k
    rw [hc]
    cases ((hg H i).isSome && tb F i && decide (i < n)) with
    | false => rfl
    | true =>
      show HT.putK H i (some o) _ = elR ((HT.put H i (some o)).map _) k
      rw [HT.putK_eq]
      cases HT.put H i (some o) <;> rfl
  | mv F i o =>
    show Bool.rec (motive := fun _ => Bool) false _ (andB (someF (HT.get H i)) (andB (Nat.testBit F i) (Nat.ble (Nat.succ i) n))) = elR (if ((hg H i).isSome && tb F i && decide (i < n)) = true then (match HT.put H i none with | some t1 => HT.put t1 n (some o) | none => none).map _ else none) k
    rw [hc]
    cases ((hg H i).isSome && tb F i && decide (i < n)) with
    | false => rfl
    | true =>
      show HT.putK H i none _ = elR ((match HT.put H i none with | some t1 => HT.put t1 n (some o) | none => none).map _) k
      rw [HT.putK_eq]
      cases HT.put H i none with
      | none => rfl
      | some t1 =>
        show HT.putK t1 n (some o) (fun H => k s H (n + 1) F (one i)) = elR ((HT.put t1 n (some o)).map _) k
        rw [HT.putK_eq]
        cases HT.put t1 n (some o) <;> rfl
/-- Objects laid out cell by cell. -/
noncomputable def frcK (e : Ef) (k : Ef → Bool) : Bool := Ef.rec (motive := fun _ => (Ef → Bool) → Bool) (fun F k => k (.no F)) (fun F o k => forceL o.cs (fun l => k (.new F { o with cs := l }))) (fun F i o k => forceL o.cs (fun l => k (.set F i { o with cs := l }))) (fun F i o k => forceL o.cs (fun l => k (.mv F i { o with cs := l }))) e k
theorem frcK_eq (e : Ef) (k : Ef → Bool) : frcK e k = k e := by
  cases e with
  | no F => rfl
  | new F o => exact forceL_eq _ _
  | set F i o => exact forceL_eq _ _
  | mv F i o => exact forceL_eq _ _
/-! ### Operations -/
noncomputable def genK (P : Program) (H : HT) (n : Nat) (A : TS) (o : Oper) (k : KR) : Bool := kO (aop P (hg H) n (eA A) o) (fun p => Prod.rec (motive := fun _ => Bool) (fun s e => frcK e (fun e => effK n H s e k)) p)
noncomputable def argsK (A : TS) (l : List Operand) (K : List S → Bool) : Bool := List.rec (motive := fun _ => (List S → Bool) → Bool) (fun K => K []) (fun x _ ih K => kO (eA A x) (fun s => ih (fun m => K (s :: m)))) l K
theorem argsK_eq (A : TS) : ∀ (l : List Operand) (K : List S → Bool), argsK A l K = elO (absArgs (opA A) l) K
  | [], K => rfl
  | x :: l, K => by
    show kO (eA A x) (fun s => argsK A l (fun m => K (s :: m))) = _
    rw [kO_eq, eA_eq]
    simp only [absArgs]
    cases opA A x with
    | none => rfl
    | some s =>
      show argsK A l _ = _
      rw [argsK_eq A l]
      cases absArgs (opA A) l <;> rfl
noncomputable def kFn (c : C) (k : FuncId → List (Nat × Nat) → Bool) (b : FuncId → Nat → Nat → Bool) : Bool := C.rec (motive := fun _ => (FuncId → List (Nat × Nat) → Bool) → (FuncId → Nat → Nat → Bool) → Bool) (fun _ _ _ => false) (fun _ _ _ _ => false) (fun _ _ _ => false) (fun _ _ _ _ => false) (fun _ _ => false) (fun _ _ _ _ _ _ => false) (fun _ _ => false) (fun _ _ => false) (fun f cap k _ => k f cap) (fun _ _ => false) (fun _ _ _ => false) (fun _ _ => false) (fun _ _ => false) (fun f i off _ b => b f i off) (fun _ _ _ => false) (fun _ _ _ => false) (fun _ _ _ _ _ => false) (fun _ _ _ _ => false) (fun _ _ _ => false) (fun _ _ => false) (fun _ _ => false) c k b
noncomputable def callOpK (call : CallK) (P : Program) (H : HT) (n : Nat) (A : TS) (o : Oper) (c : Call) (k : KR) : Bool := Callee.rec (motive := fun _ => CallK → Program → HT → Nat → TS → Oper → List Operand → KR → Bool)
  (fun x call P H n A o l k => kC (eA A x) (fun f => kFn f (fun f caps => argsK A l (fun l => call.call f (l ++ caps.map fun p => S.v (.c (.ptr p.1 p.2))) H n k)) (fun f i off => argsK A l (fun l => call.call f (S.v (.c (.ptr i off)) :: l) H n k))))
  (fun _ _ call P H n A o l k => genK P H n A o k) (fun _ call P H n A o l k => genK P H n A o k) c.callee call P H n A o c.args.toList k
noncomputable def xoK (call : CallK) (H : HT) (n : Nat) (A : TS) (op : BinOp) (x y : Operand) (k : KR) : Bool := kC (eA A x) (fun a => kC (eA A y) (fun b => kO (xoC call.xo op a b) (fun c => k (.v (.c c)) H n 0 0)))
noncomputable def genB (call : CallK) (P : Program) (H : HT) (n : Nat) (A : TS) (op : BinOp) (t : TypeId) (x y : Operand) (k : KR) : Bool := Option.rec (motive := fun _ => Bool) (xoK call H n A op x y k) (fun p => Prod.rec (motive := fun _ => Bool) (fun s e => effK n H s e k) p) (aBin2 P (eA A) op t x y)
noncomputable def binXK (call : CallK) (P : Program) (H : HT) (n : Nat) (A : TS) (op : BinOp) (t : TypeId) (x y : Operand) (k : KR) : Bool := kI (eA A x) (genB call P H n A op t x y k) (fun kd a => kI (eA A y) (genB call P H n A op t x y k) (fun kd' b => intK op kd a kd' b (fun c => k (.v (.c c)) H n 0 0)))
abbrev OpM := CallK → Program → HT → Nat → TS → Oper → KR → Bool
noncomputable def gM : OpM := fun call P H n A o k => genK P H n A o k
noncomputable def opK (call : CallK) (P : Program) (H : HT) (n : Nat) (A : TS) (o : Oper) (k : KR) : Bool := Op.rec (motive := fun _ => OpM)
  (fun x call P H n A o k => mvK A x (fun s e => effK n H s e k))
  (fun x call P H n A o k => mvK A x (fun s e => effK n H s e k))
  (fun c x y call P H n A o k => pickK A c x y (fun s e => effK n H s e k))
  (fun _ => gM) (fun _ _ => gM) (fun _ _ => gM) (fun _ _ _ => gM) (fun _ _ _ _ => gM)
  (fun t x call P H n A o k => loadK P H A t x (fun s e => effK n H s e k))
  (fun t x y call P H n A o k => storeK P H A t x y (fun s e => effK n H s e k))
  (fun _ => gM) (fun _ => gM)
  (fun x call P H n A o k => nilK A x (fun s e => effK n H s e k))
  (fun op t x y _ call P H n A o k => binXK call P H n A op t x y k)
  (fun _ _ _ => gM)
  (fun s d x call P H n A o k => convK P H n A s d x (fun s e => frcK e (fun e => effK n H s e k)))
  (fun _ _ => gM) (fun _ _ => gM) (fun _ _ _ => gM) (fun _ _ => gM) (fun _ _ => gM) (fun _ _ _ => gM) (fun _ _ _ _ _ => gM)
  (fun t x f call P H n A o k => faK P A t x f (fun s e => effK n H s e k))
  (fun _ _ _ => gM)
  (fun t x y call P H n A o k => iaK P H n A t x y (fun s e => effK n H s e k))
  (fun _ _ _ => gM) (fun _ _ _ _ => gM) (fun _ _ _ _ => gM) (fun _ _ _ => gM) (fun _ _ _ _ => gM) (fun _ _ => gM) (fun _ _ => gM) (fun _ => gM) (fun _ _ _ _ => gM)
  (fun x i call P H n A o k => extK A x i (fun s e => effK n H s e k))
  (fun c call P H n A o k => callOpK call P H n A o c k)
  (fun _ => gM) (fun _ => gM) (fun _ => gM) (fun _ _ => gM) (fun _ _ _ => gM) (fun _ _ => gM) o.op call P H n A o k
section
variable {P : Program} {call : CallF} {callK : CallK}
theorem eA_fun (A : TS) : eA A = opA A := funext (eA_eq A)
theorem opRun_aop {st : St} {o : Oper} {A : TS} {k : KR} (h : ∀ c x, o.op = .call c → c.callee = .value x → False) (hb : ∀ op t x y ty, o.op = .binOp op t x y ty → False) : elR (opRun call P st (opA A) o) k = elP (aop P (hg st.H) st.n (opA A) o) (fun s e => effK st.n st.H s e k) := by
  unfold opRun
  cases aop P (hg st.H) st.n (opA A) o with
  | some p =>
    obtain ⟨s, e⟩ := p
    show _ = effK st.n st.H s e k
    rw [effK_eq]
  | none =>
    show elR (match o.op with | .call c => _ | .binOp op t x y _ => _ | _ => none) k = false
    cases ho : o.op with
    | binOp op t x y ty => exact (hb op t x y ty ho).elim
    | call c =>
      show elR (match c.callee with | .value x => _ | _ => none) k = false
      cases hc : c.callee with
      | value x => exact (h c x ho hc).elim
      | invoke r m => rfl
      | builtin b => rfl
    | _ => rfl
theorem genK_eq {H : HT} {n : Nat} {A : TS} {o : Oper} {k : KR} (B : TS) (h : ∀ c x, o.op = .call c → c.callee = .value x → False) (hb : ∀ op t x y ty, o.op = .binOp op t x y ty → False) : genK P H n A o k = elR (opRun call P ⟨B, H, n⟩ (opA A) o) k := by
  rw [opRun_aop h hb]
  unfold genK elP
  rw [kO_eq, eA_fun]
  cases aop P (hg H) n (opA A) o with
  | none => rfl
  | some p => obtain ⟨s, e⟩ := p; exact frcK_eq _ _
theorem opK_eq (hc : AgreeK callK call) (H : HT) (n : Nat) (A B : TS) (o : Oper) (k : KR) : opK callK P H n A o k = elR (opRun call P ⟨B, H, n⟩ (opA A) o) k := by
  unfold opK
  cases ho : o.op with
  | call c =>
    show callOpK callK P H n A o c k = _
    unfold callOpK
    cases hcal : c.callee with
    | value x =>
      show kC (eA A x) _ = _
      rw [kC_eq, eA_eq]
      have hn : aop P (hg H) n (opA A) o = none := by
        unfold aop
        rw [ho]
        show (match c.callee, c.args.toList, c.argTypes.toList with | .builtin .len, [x], [t] => _ | .builtin .max, [x, y], _ => _ | .builtin .delete, [x, y], [t, t2] => _ | .builtin .cap, [x], [t] => _ | .builtin .min, [x, y], _ => _ | .builtin .copy, [d, x], [t, _] => _ | .builtin .clear, [x], [t] => _ | .builtin .append, [s, x], [t, t2] => _ | _, _, _ => none) = none
        rw [hcal]
      unfold opRun
      rw [show aop P (hg (St.mk B H n).H) (St.mk B H n).n (opA A) o = none from hn]
      show _ = elR (match o.op with | .call c => _ | .binOp op t x y _ => _ | _ => none) k
      rw [ho]
      show _ = elR (match c.callee with | .value x => _ | _ => none) k
      rw [hcal]
      show _ = elR (match S.c? (opA A x), absArgs (opA A) c.args.toList with | some (.fn f caps), some l => call.call f (l ++ caps.map fun p => S.v (.c (.ptr p.1 p.2))) H n | some (.bm f i off), some l => call.call f (S.v (.c (.ptr i off)) :: l) H n | _, _ => none) k
      cases S.c? (opA A x) with
      | none => rfl
      | some f =>
        cases f with
        | fn f caps =>
          show argsK A c.args.toList _ = _
          rw [argsK_eq]
          cases absArgs (opA A) c.args.toList with
          | none => rfl
          | some l => exact hc.1 _ _ _ _ _
        | bm f i off =>
          show argsK A c.args.toList _ = _
          rw [argsK_eq]
          cases absArgs (opA A) c.args.toList with
          | none => rfl
          | some l => exact hc.1 _ _ _ _ _
        | _ => rfl
    | invoke r m => exact genK_eq B (fun c' x h1 h2 => by rw [ho] at h1; cases h1; rw [hcal] at h2; cases h2) (fun op t x y ty h => by rw [ho] at h; cases h)
    | builtin b => exact genK_eq B (fun c' x h1 h2 => by rw [ho] at h1; cases h1; rw [hcal] at h2; cases h2) (fun op t x y ty h => by rw [ho] at h; cases h)
  | move x => rw [opRun_aop (fun c x h => by rw [ho] at h; cases h) (fun op t x y ty h => by rw [ho] at h; cases h)]; unfold aop; rw [ho]; exact mvK_eq _ _ _
  | assign x => rw [opRun_aop (fun c x h => by rw [ho] at h; cases h) (fun op t x y ty h => by rw [ho] at h; cases h)]; unfold aop; rw [ho]; exact mvK_eq _ _ _
  | pick c x y => rw [opRun_aop (fun c x h => by rw [ho] at h; cases h) (fun op t x y ty h => by rw [ho] at h; cases h)]; unfold aop; rw [ho]; exact pickK_eq _ _ _ _ _
  | load t x => rw [opRun_aop (fun c x h => by rw [ho] at h; cases h) (fun op t x y ty h => by rw [ho] at h; cases h)]; unfold aop; rw [ho]; exact loadK_eq _ _ _ _ _ _
  | store t x y => rw [opRun_aop (fun c x h => by rw [ho] at h; cases h) (fun op t x y ty h => by rw [ho] at h; cases h)]; unfold aop; rw [ho]; exact storeK_eq _ _ _ _ _ _ _
  | nilCheck x => rw [opRun_aop (fun c x h => by rw [ho] at h; cases h) (fun op t x y ty h => by rw [ho] at h; cases h)]; unfold aop; rw [ho]; exact nilK_eq _ _ _
  | binOp op t x y ty =>
    show binXK callK P H n A op t x y k = _
    have gen : genB callK P H n A op t x y k = elR (opRun call P ⟨B, H, n⟩ (opA A) o) k := by
      unfold genB opRun
      rw [show aop P (hg (St.mk B H n).H) (St.mk B H n).n (opA A) o = aBin2 P (opA A) op t x y by unfold aop; rw [ho], eA_fun]
      cases aBin2 P (opA A) op t x y with
      | some p =>
        obtain ⟨s, e⟩ := p
        show effK n H s e k = _
        rw [effK_eq]
      | none =>
        show xoK callK H n A op x y k = elR (match o.op with | .call c => _ | .binOp op t x y _ => _ | _ => none) k
        rw [ho]
        show _ = elR (match S.c? (opA A x), S.c? (opA A y) with | some a, some b => _ | _, _ => none) k
        unfold xoK
        rw [kC_eq, eA_eq, eA_eq]
        cases S.c? (opA A x) with
        | none => rfl
        | some a =>
          show kC (opA A y) _ = _
          rw [kC_eq]
          cases S.c? (opA A y) with
          | none => rfl
          | some b =>
            show kO (xoC callK.xo op a b) _ = elR ((xoC call.xo op a b).map _) k
            rw [kO_eq, hc.2]
            cases xoC call.xo op a b <;> rfl
    unfold binXK
    refine kI_ne (fun kd a hx => kI_ne (fun kd' b hy => ?_) gen) gen
    rw [eA_eq] at hx hy
    rw [← gen, intK_eq]
    unfold genB
    have e1 : aBin2 P (eA A) op t x y = (intC op kd a kd' b).map (fun c => (S.v (V.c c), Ef.no 0)) := by
      rw [eA_fun]
      unfold aBin2 aBin
      rw [hx, hy]
      show (match (intC op kd a kd' b).map (fun c => (S.v (V.c c), Ef.no 0)) with | some r => some r | none => aBinS P (opA A) op t x y) = _
      cases intC op kd a kd' b with
      | some c => rfl
      | none =>
        show aBinS P (opA A) op t x y = none
        unfold aBinS
        rw [hx]
        rfl
    rw [e1]
    cases intC op kd a kd' b with
    | some c => rfl
    | none =>
      show false = xoK callK H n A op x y k
      unfold xoK
      rw [kC_eq, eA_eq, eA_eq, hx]
      show false = kC (opA A y) _
      rw [kC_eq, hy]
      rfl
  | convert s d x =>
    rw [opRun_aop (fun c x h => by rw [ho] at h; cases h) (fun op t x y ty h => by rw [ho] at h; cases h)]; unfold aop; rw [ho]
    show convK P H n A s d x _ = _
    rw [convK_eq]
    congr 1
    funext s e
    exact frcK_eq _ _
  | fieldAddr t x f => rw [opRun_aop (fun c x h => by rw [ho] at h; cases h) (fun op t x y ty h => by rw [ho] at h; cases h)]; unfold aop; rw [ho]; exact faK_eq _ _ _ _ _ _
  | indexAddr t x y => rw [opRun_aop (fun c x h => by rw [ho] at h; cases h) (fun op t x y ty h => by rw [ho] at h; cases h)]; unfold aop; rw [ho]; exact iaK_eq _ _ _ _ _ _ _ _
  | extract x i => rw [opRun_aop (fun c x h => by rw [ho] at h; cases h) (fun op t x y ty h => by rw [ho] at h; cases h)]; unfold aop; rw [ho]; exact extK_eq _ _ _ _
  | _ => exact genK_eq B (fun c x h => by rw [ho] at h; cases h) (fun op t x y ty h => by rw [ho] at h; cases h)
/-! ### Steps -/
abbrev KS := TS → HT → Nat → Nat → Nat → Bool
def elS (x : Option (St × Nat × Nat)) (k : KS) : Bool := match x with | some (st, F, W) => k st.A st.H st.n F W | none => false
noncomputable def slotK (nt : Nat) (A : TS) (d : Option Tmp) (s : S) (K : TS → Bool) : Bool := Option.rec (motive := fun _ => Nat → TS → S → (TS → Bool) → Bool) (fun nt A s K => K A) (fun d nt A s K => Bool.rec (motive := fun _ => Bool) false (TS.putK A d (some s) K) (Nat.ble (Nat.succ d) nt)) d nt A s K
theorem slotK_eq (nt : Nat) (A : TS) (d : Option Tmp) (s : S) (K : TS → Bool) : slotK nt A d s K = elO (putS nt A d s) K := by
  cases d with
  | none => rfl
  | some d =>
    show Bool.rec (motive := fun _ => Bool) false (TS.putK A d (some s) K) (Nat.ble (Nat.succ d) nt) = elO (if d < nt then TS.put A d (some s) else none) K
    rw [ble_eq]
    by_cases h : d < nt
    · rw [decide_eq_true (show Nat.succ d ≤ nt from h), if_pos h]; show TS.putK A d (some s) K = _; rw [TS.putK_eq]; cases TS.put A d (some s) <;> rfl
    · rw [decide_eq_false (show ¬ Nat.succ d ≤ nt from h), if_neg h]; rfl
noncomputable def goK (call : CallK) (P : Program) (nt : Nat) (A : TS) (H : HT) (n : Nat) (o : Oper) (k : KS) : Bool := opK call P H n A o (fun s H n F W => slotK nt A o.dst s (fun A => k A H n F W))
theorem goK_eq (hc : AgreeK callK call) (nt : Nat) (A : TS) (H : HT) (n : Nat) (o : Oper) (k : KS) : goK callK P nt A H n o k = elS (goS call P nt ⟨A, H, n⟩ o) k := by
  unfold goK
  rw [opK_eq hc H n A A]
  unfold goS
  show elR (opRun call P ⟨A, H, n⟩ (opA A) o) _ = _
  cases opRun call P ⟨A, H, n⟩ (opA A) o with
  | none => rfl
  | some r =>
    obtain ⟨s, H', n', F, W⟩ := r
    show slotK nt A o.dst s _ = elS ((putS nt A o.dst s).map _) k
    rw [slotK_eq]
    cases putS nt A o.dst s <;> rfl
noncomputable def gdK (s : S) (want : Bool) (g h : Unit → Bool) : Bool := S.rec (motive := fun _ => Bool) (fun v => V.rec (motive := fun _ => Bool) (fun c => kBool c (fun b => Bool.rec (motive := fun _ => Bool) (h ()) (g ()) (Bool.rec (motive := fun _ => Bool) (notB want) want b))) (fun _ => false) v) (fun _ => false) (h ()) s
noncomputable def stepK (call : CallK) (P : Program) (ops : Array Oper) (nt : Nat) (A : TS) (H : HT) (n : Nat) (o : Oper) (k : KS) : Bool := Option.rec (motive := fun _ => CallK → Program → Array Oper → Nat → TS → HT → Nat → Oper → KS → Bool)
  (fun call P ops nt A H n o k => goK call P nt A H n o k)
  (fun p call P ops nt A H n o k => kO ((ops[p.1]?).bind (·.dst)) (fun d => kO (TS.get A d) (fun s => gdK s p.2 (fun _ => goK call P nt A H n o k) (fun _ => slotK nt A o.dst .un (fun A => k A H n 0 0))))) o.guard call P ops nt A H n o k
theorem skip_eq (nt : Nat) (A : TS) (H : HT) (n : Nat) (o : Oper) (k : KS) : slotK nt A o.dst .un (fun A => k A H n 0 0) = elS (skipS nt ⟨A, H, n⟩ o) k := by
  rw [slotK_eq]
  unfold skipS
  show _ = elS ((putS nt A o.dst .un).map _) k
  cases putS nt A o.dst .un <;> rfl
theorem stepK_eq (hc : AgreeK callK call) (ops : Array Oper) (nt : Nat) (A : TS) (H : HT) (n : Nat) (o : Oper) (k : KS) : stepK callK P ops nt A H n o k = elS (stepG call P ops nt ⟨A, H, n⟩ o) k := by
  unfold stepK stepG
  cases o.guard with
  | none => exact goK_eq hc _ _ _ _ _ _
  | some p =>
    obtain ⟨j, want⟩ := p
    show kO ((ops[j]?).bind (·.dst)) _ = elS (match (ops[j]?).bind (·.dst) with | some d => _ | none => none) k
    rw [kO_eq]
    cases (ops[j]?).bind (·.dst) with
    | none => rfl
    | some d =>
      show kO (TS.get A d) _ = elS (match TS.get A d with | some (.v (.c (.bool b))) => _ | some .un => _ | _ => none) k
      rw [kO_eq]
      cases TS.get A d with
      | none => rfl
      | some s =>
        cases s with
        | un => exact skip_eq _ _ _ _ _ _
        | tup l => rfl
        | v v =>
          cases v with
          | agg l => rfl
          | c c =>
            cases c with
            | bool b =>
              show Bool.rec (motive := fun _ => Bool) (slotK nt A o.dst .un (fun A => k A H n 0 0)) (goK callK P nt A H n o k) (Bool.rec (motive := fun _ => Bool) (notB want) want b) = elS (if (b == want) = true then goS call P nt ⟨A, H, n⟩ o else skipS nt ⟨A, H, n⟩ o) k
              rw [goK_eq hc, skip_eq]
              cases b <;> cases want <;> rfl
            | _ => rfl
/-! ### Regions -/
abbrev KL := TS → HT → Nat → List (Nat × Nat × Nat) → Bool
def elL (x : Option (St × List (Nat × Nat × Nat))) (k : KL) : Bool := match x with | some (st, rs) => k st.A st.H st.n rs | none => false
noncomputable def evLK (call : CallK) (P : Program) (ops : Array Oper) (nt : Nat) (l : List Oper) (A : TS) (H : HT) (n : Nat) (k : KL) : Bool := List.rec (motive := fun _ => TS → HT → Nat → KL → Bool) (fun A H n k => k A H n []) (fun o _ ih A H n k => stepK call P ops nt A H n o (fun A1 H1 n1 F W => ih A1 H1 n1 (fun A2 H2 n2 rs => k A2 H2 n2 ((F, W, nwm n n1) :: rs)))) l A H n k
theorem evLK_eq (hc : AgreeK callK call) (ops : Array Oper) (nt : Nat) : ∀ (l : List Oper) (A : TS) (H : HT) (n : Nat) (k : KL), evLK callK P ops nt l A H n k = elL (evL call P ops nt l ⟨A, H, n⟩) k
  | [], A, H, n, k => rfl
  | o :: l, A, H, n, k => by
    show stepK callK P ops nt A H n o (fun A1 H1 n1 F W => evLK callK P ops nt l A1 H1 n1 (fun A2 H2 n2 rs => k A2 H2 n2 ((F, W, nwm n n1) :: rs))) = _
    rw [stepK_eq hc]
    simp only [evL]
    cases stepG call P ops nt ⟨A, H, n⟩ o with
    | none => rfl
    | some r =>
      obtain ⟨st1, F, W⟩ := r
      show evLK callK P ops nt l st1.A st1.H st1.n _ = _
      rw [evLK_eq hc ops nt l]
      show elL (evL call P ops nt l st1) _ = elL (match evL call P ops nt l st1 with | some (st2, rs) => some (st2, (F, W, nwm n st1.n) :: rs) | none => none) k
      cases evL call P ops nt l st1 <;> rfl
noncomputable def evUK (call : CallK) (P : Program) (ops : Array Oper) (nt : Nat) (l : List Oper) (A : TS) (H : HT) (n : Nat) (k : KS) : Bool := List.rec (motive := fun _ => TS → HT → Nat → KS → Bool) (fun A H n k => k A H n 0 0) (fun o _ ih A H n k => stepK call P ops nt A H n o (fun A1 H1 n1 F W => ih A1 H1 n1 (fun A2 H2 n2 F2 W2 => k A2 H2 n2 (Nat.lor F F2) (Nat.lor W W2)))) l A H n k
theorem evUK_eq (hc : AgreeK callK call) (ops : Array Oper) (nt : Nat) : ∀ (l : List Oper) (A : TS) (H : HT) (n : Nat) (k : KS), evUK callK P ops nt l A H n k = elL (evL call P ops nt l ⟨A, H, n⟩) (fun A H n rs => k A H n (orL1 rs) (orL2 rs))
  | [], A, H, n, k => rfl
  | o :: l, A, H, n, k => by
    show stepK callK P ops nt A H n o (fun A1 H1 n1 F W => evUK callK P ops nt l A1 H1 n1 (fun A2 H2 n2 F2 W2 => k A2 H2 n2 (Nat.lor F F2) (Nat.lor W W2))) = _
    rw [stepK_eq hc]
    simp only [evL]
    cases stepG call P ops nt ⟨A, H, n⟩ o with
    | none => rfl
    | some r =>
      obtain ⟨st1, F, W⟩ := r
      show evUK callK P ops nt l st1.A st1.H st1.n _ = _
      rw [evUK_eq hc ops nt l]
      show elL (evL call P ops nt l st1) _ = elL (match evL call P ops nt l st1 with | some (st2, rs) => some (st2, (F, W, nwm n st1.n) :: rs) | none => none) _
      cases evL call P ops nt l st1 <;> rfl
abbrev KX := X → TS → HT → Nat → Nat → Nat → Bool
def elX (x : CRes) (k : KX) : Bool := match x with | some (e, st, F, W) => k e st.A st.H st.n F W | none => false
noncomputable def evRK (call : CallK) (P : Program) (nt : Nat) (ops : Array Oper) (draw : Bool) (A : TS) (H : HT) (n : Nat) (k : KX) : Bool := Bool.rec (motive := fun _ => CallK → Program → Nat → Array Oper → TS → HT → Nat → KX → Bool)
  (fun call P nt ops A H n k => evUK call P ops nt ops.toList A H n (fun A H n F W => k .nm A H n F W))
  (fun call P nt ops A H n k => evLK call P ops nt ops.toList A H n (fun A2 H2 n2 rs => Bool.rec (motive := fun _ => Bool) false (k .nm A2 H2 n2 (orL1 rs) (orL2 rs)) (okD ops rs n n2))) draw call P nt ops A H n k
theorem evRK_eq (hc : AgreeK callK call) (nt : Nat) (ops : Array Oper) (draw : Bool) (A : TS) (H : HT) (n : Nat) (k : KX) : evRK callK P nt ops draw A H n k = elX (evR call P nt ops draw ⟨A, H, n⟩) k := by
  cases draw with
  | false =>
    show evUK callK P ops nt ops.toList A H n _ = _
    rw [evUK_eq hc]
    unfold evR
    cases evL call P ops nt ops.toList ⟨A, H, n⟩ <;> rfl
  | true =>
    show evLK callK P ops nt ops.toList A H n _ = _
    rw [evLK_eq hc]
    unfold evR
    cases evL call P ops nt ops.toList ⟨A, H, n⟩ with
    | none => rfl
    | some r =>
      obtain ⟨st2, rs⟩ := r
      show Bool.rec (motive := fun _ => Bool) false (k .nm st2.A st2.H st2.n (orL1 rs) (orL2 rs)) (okD ops rs n st2.n) = elX (if (true && !okD ops rs n st2.n) = true then none else some (.nm, st2, orL1 rs, orL2 rs)) k
      cases okD ops rs n st2.n <;> rfl
/-! ### Code -/
noncomputable def onNm (x : X) (g : Unit → Bool) (h : Unit → Bool) : Bool := X.rec (motive := fun _ => Bool) (g ()) (fun _ => h ()) (h ()) x
noncomputable def seqK (ia ib : TS → HT → Nat → KX → Bool) (A : TS) (H : HT) (n : Nat) (k : KX) : Bool := ia A H n (fun x A1 H1 n1 F1 W1 => onNm x (fun _ => ib A1 H1 n1 (fun x A2 H2 n2 F2 W2 => k x A2 H2 n2 (Nat.lor F1 F2) (Nat.lor W1 W2))) (fun _ => k x A1 H1 n1 F1 W1))
noncomputable def iterK (f : TS → HT → Nat → KX → Bool) (N : Nat) (A : TS) (H : HT) (n : Nat) (k : KX) : Bool := Nat.rec (motive := fun _ => TS → HT → Nat → KX → Bool) (fun _ _ _ _ => false) (fun _ ih A H n k => f A H n (fun x A1 H1 n1 F1 W1 => onNm x (fun _ => ih A1 H1 n1 (fun x A2 H2 n2 F2 W2 => k x A2 H2 n2 (Nat.lor F1 F2) (Nat.lor W1 W2))) (fun _ => k x A1 H1 n1 F1 W1))) N A H n k
noncomputable def meetK (A1 A2 : TS) (t : Nat) (B : TS) (K : TS → Bool) : Bool := Nat.rec (motive := fun _ => TS → Bool) (fun B => K B) (fun t ih B => Option.rec (motive := fun _ => Bool) (ih B) (fun s1 => Option.rec (motive := fun _ => Bool) (ih B) (fun s2 => Bool.rec (motive := fun _ => Bool) (ih B) (TS.putK B t (some s1) ih) (eqSS s1 s2)) (TS.get A2 t)) (TS.get A1 t)) t B
theorem meetK_eq (A1 A2 : TS) : ∀ (t : Nat) (B : TS) (K : TS → Bool), meetK A1 A2 t B K = elO (meetT A1 A2 t B) K
  | 0, B, K => rfl
  | t + 1, B, K => by
    show Option.rec (motive := fun _ => Bool) (meetK A1 A2 t B K) (fun s1 => Option.rec (motive := fun _ => Bool) (meetK A1 A2 t B K) (fun s2 => Bool.rec (motive := fun _ => Bool) (meetK A1 A2 t B K) (TS.putK B t (some s1) (fun B => meetK A1 A2 t B K)) (eqSS s1 s2)) (TS.get A2 t)) (TS.get A1 t) = _
    simp only [meetT]
    cases TS.get A1 t with
    | none => exact meetK_eq A1 A2 t B K
    | some s1 =>
      cases TS.get A2 t with
      | none => exact meetK_eq A1 A2 t B K
      | some s2 =>
        show Bool.rec (motive := fun _ => Bool) (meetK A1 A2 t B K) (TS.putK B t (some s1) (fun B => meetK A1 A2 t B K)) (eqSS s1 s2) = elO (if eqSS s1 s2 = true then _ else _) K
        cases eqSS s1 s2 with
        | false => exact meetK_eq A1 A2 t B K
        | true =>
          show TS.putK B t (some s1) (fun B => meetK A1 A2 t B K) = elO (match TS.put B t (some s1) with | some B' => _ | none => none) K
          rw [TS.putK_eq]
          cases TS.put B t (some s1) with
          | none => rfl
          | some B1 => exact meetK_eq A1 A2 t B1 K
noncomputable def joinK (nt : Nat) (ia ib : TS → HT → Nat → KX → Bool) (A : TS) (H : HT) (n : Nat) (k : KX) : Bool := ia A H n (fun x1 A1 _ n1 F1 W1 => ib A H n (fun x2 A2 _ n2 F2 W2 => Bool.rec (motive := fun _ => Bool) false (meetK A1 A2 nt TS.lf (fun B => k .nm B H n (Nat.lor F1 F2) 0)) (andB (okJ x1 n n1 W1) (okJ x2 n n2 W2))))
theorem joinK_eq {nt : Nat} {ia ib : TS → HT → Nat → KX → Bool} {fa fb : St → CRes} (ha : ∀ A H n k, ia A H n k = elX (fa ⟨A, H, n⟩) k) (hb : ∀ A H n k, ib A H n k = elX (fb ⟨A, H, n⟩) k) (A : TS) (H : HT) (n : Nat) (k : KX) : joinK nt ia ib A H n k = elX (joinC nt H n (fa ⟨A, H, n⟩) (fb ⟨A, H, n⟩)) k := by
  unfold joinK joinC
  rw [ha]
  cases fa ⟨A, H, n⟩ with
  | none => rfl
  | some r =>
    obtain ⟨x1, s1, F1, W1⟩ := r
    show ib A H n _ = _
    rw [hb]
    cases fb ⟨A, H, n⟩ with
    | none => rfl
    | some r =>
      obtain ⟨x2, s2, F2, W2⟩ := r
      show Bool.rec (motive := fun _ => Bool) false (meetK s1.A s2.A nt TS.lf (fun B => k .nm B H n (Nat.lor F1 F2) 0)) (andB (okJ x1 n s1.n W1) (okJ x2 n s2.n W2)) = elX (if andB (okJ x1 n s1.n W1) (okJ x2 n s2.n W2) = true then _ else none) k
      cases andB (okJ x1 n s1.n W1) (okJ x2 n s2.n W2) with
      | false => rfl
      | true =>
        show meetK s1.A s2.A nt TS.lf _ = elX ((meetT s1.A s2.A nt TS.lf).map _) k
        rw [meetK_eq]
        cases meetT s1.A s2.A nt TS.lf <;> rfl
noncomputable def condK (nt : Nat) (c : Operand) (ia ib : TS → HT → Nat → KX → Bool) (A : TS) (H : HT) (n : Nat) (k : KX) : Bool := kC (eA A c) (fun c => kBoolU c (fun b => Bool.rec (motive := fun _ => Bool) (ib A H n k) (ia A H n k) b) (fun _ => joinK nt ia ib A H n k))
noncomputable def blockK (id : Nat) (ia : TS → HT → Nat → KX → Bool) (A : TS) (H : HT) (n : Nat) (k : KX) : Bool := ia A H n (fun x A H n F W => X.rec (motive := fun _ => Bool) (k .nm A H n F W) (fun i => k (Bool.rec (motive := fun _ => X) (.ex i) .nm (Nat.beq i id)) A H n F W) (k .rt A H n F W) x)
noncomputable def skipK (g : St → Option (St × Nat)) (it : TS → HT → Nat → KX → Bool) (A : TS) (H : HT) (n : Nat) (k : KX) : Bool := Option.rec (motive := fun _ => Bool) (it A H n k) (fun r => Prod.rec (motive := fun _ => Bool) (fun s F => St.rec (motive := fun _ => Bool) (fun A1 H1 n1 => it A1 H1 n1 (fun x A2 H2 n2 F2 W2 => k x A2 H2 n2 (Nat.lor F F2) W2)) s) r) (g ⟨A, H, n⟩)
theorem skipK_eq {g : St → Option (St × Nat)} {it : TS → HT → Nat → KX → Bool} {it' : St → CRes} (h : ∀ A H n k, it A H n k = elX (it' ⟨A, H, n⟩) k) (A : TS) (H : HT) (n : Nat) (k : KX) : skipK g it A H n k = elX (skipC g it' ⟨A, H, n⟩) k := by
  unfold skipK skipC
  cases g ⟨A, H, n⟩ with
  | none => exact h A H n k
  | some r =>
    obtain ⟨s, F⟩ := r
    obtain ⟨A1, H1, n1⟩ := s
    show it A1 H1 n1 _ = elX (match it' ⟨A1, H1, n1⟩ with | some (x, st2, F2, W2) => some (x, st2, F ||| F2, W2) | none => none) k
    rw [h]
    cases it' ⟨A1, H1, n1⟩ <;> rfl
noncomputable def evCK (hk : Hook) (call : CallK) (P : Program) (nt N : Nat) (c : Code) (A : TS) (H : HT) (n : Nat) (k : KX) : Bool := Code.rec (motive := fun _ => TS → HT → Nat → KX → Bool)
  (fun A H n k => k .nm A H n 0 0)
  (fun _ ops draw A H n k => evRK call P nt ops draw A H n k)
  (fun _ _ ia ib A H n k => seqK ia ib A H n k)
  (fun c _ _ ia ib A H n k => condK nt c ia ib A H n k)
  (fun id _ ia A H n k => blockK id ia A H n k)
  (fun c ia A H n k => Option.rec (motive := fun _ => Bool) (iterK ia N A H n k) (fun g => skipK g (iterK ia N) A H n k) (hk c))
  (fun _ _ _ _ _ _ _ _ _ _ => false)
  (fun id A H n k => k (.ex id) A H n 0 0)
  (fun _ _ _ _ _ _ => false)
  (fun _ A H n k => k .nm A H n 0 0)
  (fun _ _ _ _ _ => false)
  (fun A H n k => k .rt A H n 0 0)
  (fun _ _ _ _ _ => false) c A H n k
theorem iterK_eq {g : St → CRes} {f : TS → HT → Nat → KX → Bool} (h : ∀ A H n k, f A H n k = elX (g ⟨A, H, n⟩) k) : ∀ (N : Nat) (A : TS) (H : HT) (n : Nat) (k : KX), iterK f N A H n k = elX (iter g N ⟨A, H, n⟩) k
  | 0, A, H, n, k => rfl
  | N + 1, A, H, n, k => by
    show f A H n (fun x A1 H1 n1 F1 W1 => onNm x (fun _ => iterK f N A1 H1 n1 (fun x A2 H2 n2 F2 W2 => k x A2 H2 n2 (Nat.lor F1 F2) (Nat.lor W1 W2))) (fun _ => k x A1 H1 n1 F1 W1)) = _
    rw [h]
    simp only [iter]
    cases g ⟨A, H, n⟩ with
    | none => rfl
    | some r =>
      obtain ⟨x, st1, F1, W1⟩ := r
      cases x with
      | nm =>
        show iterK f N st1.A st1.H st1.n _ = _
        rw [iterK_eq h N]
        show elX (iter g N st1) _ = elX (match iter g N st1 with | some (x, st2, F2, W2) => some (x, st2, F1 ||| F2, W1 ||| W2) | none => none) k
        cases iter g N st1 <;> rfl
      | ex id => rfl
      | rt => rfl
theorem evCK_eq (hk : Hook) (hc : AgreeK callK call) (nt N : Nat) : ∀ (c : Code) (A : TS) (H : HT) (n : Nat) (k : KX), evCK hk callK P nt N c A H n k = elX (evC hk call P nt N c ⟨A, H, n⟩) k
  | .skip, A, H, n, k => rfl
  | .label _, A, H, n, k => rfl
  | .exit _, A, H, n, k => rfl
  | .ret, A, H, n, k => rfl
  | .rangeFunc .., A, H, n, k => rfl
  | .scope _, A, H, n, k => rfl
  | .goto _, A, H, n, k => rfl
  | .refuse _, A, H, n, k => rfl
  | .region _ ops draw, A, H, n, k => evRK_eq hc nt ops draw A H n k
  | .seq a b, A, H, n, k => by
    show evCK hk callK P nt N a A H n (fun x A1 H1 n1 F1 W1 => onNm x (fun _ => evCK hk callK P nt N b A1 H1 n1 (fun x A2 H2 n2 F2 W2 => k x A2 H2 n2 (Nat.lor F1 F2) (Nat.lor W1 W2))) (fun _ => k x A1 H1 n1 F1 W1)) = _
    rw [evCK_eq hk hc nt N a]
    simp only [evC]
    cases evC hk call P nt N a ⟨A, H, n⟩ with
    | none => rfl
    | some r =>
      obtain ⟨x, st1, F1, W1⟩ := r
      cases x with
      | nm =>
        show evCK hk callK P nt N b st1.A st1.H st1.n _ = _
        rw [evCK_eq hk hc nt N b]
        show elX (evC hk call P nt N b st1) _ = elX (match evC hk call P nt N b st1 with | some (x, st2, F2, W2) => some (x, st2, F1 ||| F2, W1 ||| W2) | none => none) k
        cases evC hk call P nt N b st1 <;> rfl
      | ex id => rfl
      | rt => rfl
  | .cond c a b, A, H, n, k => by
    show kC (eA A c) (fun c => kBoolU c (fun b' => Bool.rec (motive := fun _ => Bool) (evCK hk callK P nt N b A H n k) (evCK hk callK P nt N a A H n k) b') (fun _ => joinK nt (evCK hk callK P nt N a) (evCK hk callK P nt N b) A H n k)) = _
    rw [kC_eq, eA_eq, joinK_eq (fun A H n k => evCK_eq hk hc nt N a A H n k) (fun A H n k => evCK_eq hk hc nt N b A H n k), evCK_eq hk hc nt N a, evCK_eq hk hc nt N b]
    simp only [evC]
    show _ = elX (match S.c? (opA A c) with | some (.bool true) => _ | some (.bool false) => _ | some .ub => _ | _ => none) k
    cases S.c? (opA A c) with
    | none => rfl
    | some x =>
      cases x with
      | bool b' => cases b' <;> rfl
      | _ => rfl
  | .block id c, A, H, n, k => by
    show evCK hk callK P nt N c A H n _ = _
    rw [evCK_eq hk hc nt N c]
    simp only [evC]
    cases evC hk call P nt N c ⟨A, H, n⟩ with
    | none => rfl
    | some r =>
      obtain ⟨x, st1, F1, W1⟩ := r
      cases x with
      | nm => rfl
      | rt => rfl
      | ex i =>
        show k (Bool.rec (motive := fun _ => X) (.ex i) .nm (Nat.beq i id)) st1.A st1.H st1.n F1 W1 = k (if (i == id) = true then .nm else .ex i) st1.A st1.H st1.n F1 W1
        rw [beq_eq]
        by_cases e : i = id
        · rw [decide_eq_true e, if_pos (by simp [e])]
        · rw [decide_eq_false e, if_neg (by simp [e])]
  | .loop c, A, H, n, k => by
    show Option.rec (motive := fun _ => Bool) (iterK (fun A H n k => evCK hk callK P nt N c A H n k) N A H n k) (fun g => skipK g (iterK (fun A H n k => evCK hk callK P nt N c A H n k) N) A H n k) (hk c) = _
    simp only [evC]
    cases hk c with
    | some g => exact skipK_eq (fun A H n k => iterK_eq (fun A H n k => evCK_eq hk hc nt N c A H n k) N A H n k) A H n k
    | none => exact iterK_eq (fun A H n k => evCK_eq hk hc nt N c A H n k) N A H n k
end
end Go.Proofs.YtcmlgmiomcegeaaGreat.Ev
