/- A call of an abstract run, handed on. No condition. -/
import Derived.Test.YtcmlgmiomcegeaaGreatEwL
namespace Go.Proofs.YtcmlgmiomcegeaaGreat.Ev
open Go Go.RowKit Go.Maps
set_option linter.unusedVariables false
set_option linter.unusedSimpArgs false
set_option linter.unusedSectionVars false
variable [Env]

noncomputable def argTK (l : List S) (i : Nat) (A : TS) (K : TS → Bool) : Bool := List.rec (motive := fun _ => Nat → TS → (TS → Bool) → Bool) (fun _ A K => K A) (fun s _ ih i A K => TS.putK A i (some s) (fun A => ih (Nat.succ i) A K)) l i A K
theorem argTK_eq : ∀ (l : List S) (i : Nat) (A : TS) (K : TS → Bool), argTK l i A K = elO (argT i l A) K
  | [], i, A, K => rfl
  | s :: l, i, A, K => by
    show TS.putK A i (some s) (fun A => argTK l (i + 1) A K) = _
    rw [TS.putK_eq]
    simp only [argT]
    cases TS.put A i (some s) with
    | none => rfl
    | some A' => exact argTK_eq l (i + 1) A' K
noncomputable def resK (P : Program) (fn : Func) (A : TS) (H : HT) (n F W : Nat) (K : KR) : Bool := kO (resL P (hg H) A fn.results.toList) (fun r => K (resS r.1) H n (Nat.lor F r.2) W)
noncomputable def bodyK (hk : Hook) (call : CallK) (P : Program) (N : Nat) (fn : Func) (c : Code) (args : List S) (H : HT) (n : Nat) (K : KR) : Bool := Bool.rec (motive := fun _ => Bool) false (argTK args 0 TS.lf (fun A => evCL hk call P fn.ntmps N c A H n (fun x A H n F W => X.rec (motive := fun _ => Bool) (resK P fn A H n F W K) (fun _ => false) (resK P fn A H n F W K) x))) (Nat.ble args.length fn.ntmps)
/-- A number is laid out. -/
noncomputable def frcR (K : KR) : KR := fun s H n F W => kI (some s) (K s H n F W) (fun kd i => fI i (fun i => K (.v (.c (.int kd i))) H n F W))
theorem frcR_eq (K : KR) : frcR K = K := by
  funext s H n F W
  unfold frcR
  refine kI_ne (fun kd i h => ?_) rfl
  cases h
  rw [fI_eq]
noncomputable def evFK (hk : FuncId → Hook) (xo : BinOp → C → C → Option C) (orc : Orc) (P : Program) (N k : Nat) (f : FuncId) (args : List S) (H : HT) (n : Nat) (K : KR) : Bool := Nat.rec (motive := fun _ => FuncId → List S → HT → Nat → KR → Bool) (fun _ _ _ _ _ => false) (fun _ ih f args H n K => Option.rec (motive := fun _ => Bool) (kO (P.funcs[f]?) (fun fn => kO fn.body (fun c => bodyK (hk f) ⟨ih, xo⟩ P N fn c args H n K))) (fun r => elR (some r) (frcR K)) (orc f args H n)) k f args H n K
theorem evFK_eq (hk : FuncId → Hook) (xo : BinOp → C → C → Option C) (orc : Orc) (P : Program) (N : Nat) : ∀ (k : Nat) (f : FuncId) (args : List S) (H : HT) (n : Nat) (K : KR), evFK hk xo orc P N k f args H n K = elR (evF hk xo orc P N k f args H n) K
  | 0, f, args, H, n, K => rfl
  | k + 1, f, args, H, n, K => by
    show Option.rec (motive := fun _ => Bool) (kO (P.funcs[f]?) (fun fn => kO fn.body (fun c => bodyK (hk f) ⟨fun f args H n K => evFK hk xo orc P N k f args H n K, xo⟩ P N fn c args H n K))) (fun r => elR (some r) (frcR K)) (orc f args H n) = _
    simp only [evF]
    rw [frcR_eq]
    cases orc f args H n with
    | some r => rfl
    | none =>
      show kO (P.funcs[f]?) _ = elR (match P.funcs[f]? with | some fn => _ | none => none) K
      rw [kO_eq]
      cases P.funcs[f]? with
      | none => rfl
      | some fn =>
        show kO fn.body _ = elR (match fn.body with | some c => _ | none => none) K
        rw [kO_eq]
        cases fn.body with
        | none => rfl
        | some c =>
          show bodyK _ _ P N fn c args H n K = elR (if args.length ≤ fn.ntmps then _ else none) K
          unfold bodyK
          rw [ble_eq]
          by_cases hle : args.length ≤ fn.ntmps
          · rw [decide_eq_true hle, if_pos hle]
            show argTK args 0 TS.lf _ = elR (match argT 0 args TS.lf with | some A => _ | none => none) K
            rw [argTK_eq]
            cases argT 0 args TS.lf with
            | none => rfl
            | some A =>
              show evCL _ _ P fn.ntmps N c A H n _ = _
              rw [evCL_eq, evCK_eq _ (call := ⟨evF hk xo orc P N k, xo⟩) ⟨fun f args H n K => evFK_eq hk xo orc P N k f args H n K, rfl⟩]
              show _ = elR (match evC (hk f) ⟨evF hk xo orc P N k, xo⟩ P fn.ntmps N c ⟨A, H, n⟩ with | some (.rt, st, F, W) => _ | some (.nm, st, F, W) => _ | _ => none) K
              cases evC (hk f) ⟨evF hk xo orc P N k, xo⟩ P fn.ntmps N c ⟨A, H, n⟩ with
              | none => rfl
              | some r =>
                obtain ⟨x, st, F, W⟩ := r
                have res : resK P fn st.A st.H st.n F W K = elR ((resL P (hg st.H) st.A fn.results.toList).map fun r => (resS r.1, st.H, st.n, F ||| r.2, W)) K := by
                  unfold resK
                  rw [kO_eq]
                  cases resL P (hg st.H) st.A fn.results.toList <;> rfl
                cases x with
                | nm => exact res
                | ex id => rfl
                | rt => exact res
          · rw [decide_eq_false hle, if_neg hle]; rfl
/-- A truth that is so. -/
noncomputable def isB (s : S) (b : Bool) : Bool := S.rec (motive := fun _ => Bool) (fun v => V.rec (motive := fun _ => Bool) (fun c => kBool c (fun x => Bool.rec (motive := fun _ => Bool) (notB b) b x)) (fun _ => false) v) (fun _ => false) false s
theorem isB_eq {s : S} {b : Bool} (h : isB s b = true) : s = .v (.c (.bool b)) := by
  cases s with
  | tup l => cases h
  | un => cases h
  | v v =>
    cases v with
    | agg l => cases h
    | c c =>
      cases c with
      | bool x =>
        have h' : Bool.rec (motive := fun _ => Bool) (notB b) b x = true := h
        cases x <;> cases b <;> first | rfl | cases h'
      | _ => cases h
/-- A closed call. -/
theorem closedK {P : Program} {hk : FuncId → Hook} {xo : BinOp → C → C → Option C} {orc : Orc} {N k : Nat} (hh : HooksOK P hk) (hx : XoOK P xo) (ho : OrcOK P orc) (hP : POk P) {f : FuncId} {c : Bool} (h : evFK hk xo orc P N k f [] HT.lf 0 (fun s _ _ _ _ => isB s c) = true) (w : World) :
    Calls P f #[] w fun e w' => e = .returned (.bool c) ∧ Tch No w w' := by
  refine closed (N := N) (k := k) hh hx ho hP ?_ w
  rw [evFK_eq] at h
  cases he : evF hk xo orc P N k f [] HT.lf 0 with
  | none => rw [he] at h; cases h
  | some r =>
    obtain ⟨s, H, n, F, W⟩ := r
    rw [he] at h
    have := isB_eq (show isB s c = true from h)
    subst this
    cases c <;> rfl
end Go.Proofs.YtcmlgmiomcegeaaGreat.Ev
