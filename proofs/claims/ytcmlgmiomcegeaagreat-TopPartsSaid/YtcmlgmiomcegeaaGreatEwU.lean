/- Oracles of an abstract run: what a call yields, and which object it turns or makes; sums of bytes. No condition. -/
import Derived.Test.YtcmlgmiomcegeaaGreatEwS
import Derived.Test.YtcmlgmiomcegeaaGreatSum
namespace Go.Proofs.YtcmlgmiomcegeaaGreat.Ev
open Go Go.RowKit Go.Maps
set_option linter.unusedVariables false
set_option linter.unusedSimpArgs false
set_option linter.unusedSectionVars false
variable [Env]
section
variable {σ : Nat → Blk} {D : Nat → Prop} {w : World} {H : Heap} {n : Nat}
theorem out_set {F i : Nat} {w' : World} {ob : AO} (hs : Sat σ D (rst (tb F) H) w) (hF : tb F i = true) (hi0 : (H i).isSome = true) (ht : Tch (fun k => k = (σ i).b) w w') (ho : ObjAt σ D i ob w') :
    Out σ D w (rst (tb F) H) (aft (tb F) n n ((Ef.set F i ob).ap n H)) n n (Ef.set F i ob).W σ w' := by
  have key : ∀ j, j ≠ i → ∀ x, aft (tb F) n n ((Ef.set F i ob).ap n H) j = some x → rst (tb F) H j = some x := fun j hj x e => by
    obtain ⟨h1, h2⟩ := aft_some.1 e
    simp only [Ef.ap, if_neg hj] at h2
    exact rst_some.2 ⟨h1.resolve_right (by omega), h2⟩
  have hgi : (rst (tb F) H i).isSome = true := by unfold rst; rw [if_pos hF]; exact hi0
  have hDi : D i := by
    obtain ⟨x, hx⟩ := Option.isSome_iff_exists.1 hgi
    exact (hs.obj i x hx).1
  have alive : ∀ j, (aft (tb F) n (n) ((Ef.set F i ob).ap n H) j).isSome = true → (rst (tb F) H j).isSome = true := fun j hh => by
    by_cases c : j = i
    · rw [c]; exact hgi
    · obtain ⟨x, hx⟩ := Option.isSome_iff_exists.1 hh
      rw [key j c x hx]; rfl
  refine ⟨fun _ _ => rfl, ⟨fun j x e => ?_, fun j k hj hk e => hs.inj j k (alive j hj) (alive k hk) e⟩, ht.mono (fun k _ h => ⟨i, by simp [Ef.W], hgi, h⟩), fun j _ hh => alive j hh, fun j h1 h2 => by omega⟩
  by_cases c : j = i
  · subst c
    have e2 := (aft_some.1 e).2
    simp only [Ef.ap, if_true] at e2
    cases e2
    exact ⟨.inl hDi, ho.ext rfl rfl (fun _ _ => rfl) (fun _ h => .inl h)⟩
  · obtain ⟨h1, h2⟩ := hs.obj j x (key j c x e)
    exact ⟨.inl h1, h2.ext rfl (ht.block _ h2.lt (fun h => by
      have := hs.inj j i (by rw [key j c x e]; rfl) hgi h
      exact c this)) (fun _ _ => rfl) (fun _ h => .inl h)⟩
end
/-! ### Oracles by what a call yields and turns -/
abbrev GFn := List S → HT → Nat → Option (S × Ef)
noncomputable def genOrc (fid : FuncId) (fn : GFn) (orc : Orc) : Orc := fun f args H n => Bool.rec (motive := fun _ => Option (S × HT × Nat × Nat × Nat)) (orc f args H n) (match fn args H n with
  | some (s, e) => if e.chk n H then (e.apT n H).map fun H' => (s, H', e.n' n, e.F, e.Wm) else none
  | none => none) (Nat.beq f fid)
structure GenOK (P : Program) (fid : FuncId) (fn : GFn) : Prop where
  body : ∃ f, P.funcs[fid]? = some f ∧ f.body.isSome = true
  run : ∀ args H n s e, fn args H n = some (s, e) → ∀ σ D w vals, RSL σ D args vals → Sat σ D (rst (tb e.F) (hg H)) w → (n < e.n' n → ¬ D n) →
    Calls P fid vals.toArray w fun x w' => ∃ v σ', x = .returned v ∧ RS σ' (more D n (e.n' n)) s v ∧ Out σ D w (rst (tb e.F) (hg H)) (aft (tb e.F) n (e.n' n) (e.ap n (hg H))) n (e.n' n) e.W σ' w'
theorem genOrc_ok {P : Program} {fid : FuncId} {fn : GFn} {orc : Orc} (h : GenOK P fid fn) (ho : OrcOK P orc) : OrcOK P (genOrc fid fn orc) := by
  refine ⟨fun f args H n s H' n' F W e => ?_, fun f args H n r e => ?_⟩
  · unfold genOrc at e
    cases c : Nat.beq f fid with
    | false => rw [c] at e; exact ho.1 _ _ _ _ _ _ _ _ _ e
    | true =>
      rw [c] at e
      have hf := Nat.eq_of_beq_eq_true c
      subst hf
      simp only at e
      split at e
      · rename_i s0 e0 hs0
        split at e
        · rename_i hc
          rw [Option.map_eq_some_iff] at e
          obtain ⟨H1, h1, h2⟩ := e
          simp only [Prod.mk.injEq] at h2
          obtain ⟨rfl, rfl, rfl, rfl, rfl⟩ := h2
          have hap := apT_ok h1
          refine ⟨by rw [hap]; exact inv_ef hc, fun σ D w vals hargs hs hdom hD => ?_⟩
          rw [hap, ← Ef.W_eq]
          exact h.run args H n _ e0 hs0 σ D w vals hargs hs (fun hlt => hD n (Nat.le_refl _) hlt)
        · cases e
      · cases e
  · unfold genOrc at e
    cases c : Nat.beq f fid with
    | false => rw [c] at e; exact ho.2 _ _ _ _ _ e
    | true => rw [Nat.eq_of_beq_eq_true c]; exact h.body
/-! ### Sums -/
noncomputable def fN {α : Type} (y : Nat) (k : Nat → α) : α := Nat.rec (motive := fun _ => (Nat → α) → α) (fun k => k y) (fun m _ k => k m) (Nat.add y 1) k
theorem fN_eq {α : Type} (y : Nat) (k : Nat → α) : fN y k = k y := rfl
noncomputable def stepF (n : Nat) : Nat := Bool.rec (motive := fun _ => Nat) (Nat.div n 2) (Nat.xor (Nat.div n 2) 2197175160) (Nat.beq (Nat.mod n 2) 1)
theorem stepF_eq (n : Nat) : stepF n = crcStep n := by
  unfold stepF crcStep
  by_cases h : n % 2 = 1
  · rw [if_pos h, show Nat.beq (Nat.mod n 2) 1 = true from by rw [show Nat.mod n 2 = 1 from h]; rfl]; rfl
  · rw [if_neg h]
    have : Nat.beq (Nat.mod n 2) 1 = false := by
      cases e : Nat.beq (Nat.mod n 2) 1 with
      | false => rfl
      | true => exact absurd (Nat.eq_of_beq_eq_true e) h
    rw [this]; rfl
noncomputable def up8 {α : Type} (n : Nat) (k : Nat → α) : α := fN (stepF n) fun n => fN (stepF n) fun n => fN (stepF n) fun n => fN (stepF n) fun n => fN (stepF n) fun n => fN (stepF n) fun n => fN (stepF n) fun n => fN (stepF n) k
theorem up8_eq {α : Type} (n : Nat) (k : Nat → α) : up8 n k = k (crcUp 8 n) := by
  unfold up8
  simp only [fN_eq, stepF_eq]
  rfl
/-- The bytes of cells, as numbers. -/
noncomputable def natL : List C → Option (List Nat)
  | [] => some []
  | .int .u8 (.ofNat m) :: l => if Nat.ble m 255 = true then (natL l).map fun r => m :: r else none
  | _ => none
noncomputable def crcK {α : Type} : List Nat → Nat → (Nat → α) → α
  | [], n, k => k n
  | b :: l, n, k => up8 (Nat.xor n b) (fun n => crcK l n k)
theorem crcK_eq {α : Type} : ∀ (l : List Nat) (n : Nat) (k : Nat → α), (∀ b ∈ l, b < 256) → crcK l n k = k ((l.map UInt8.ofNat).foldl crcByte n)
  | [], n, k, _ => rfl
  | b :: l, n, k, h => by
    simp only [crcK, up8_eq]
    rw [crcK_eq l _ k (fun x hx => h x (List.mem_cons_of_mem _ hx))]
    rw [List.map_cons, List.foldl_cons]
    have hb := h b (by simp)
    have e : crcUp 8 (n.xor b) = crcByte n (UInt8.ofNat b) := by
      unfold crcByte
      have : (UInt8.ofNat b).toNat = b := by simp [UInt8.toNat_ofNat']; omega
      rw [this]; rfl
    rw [e]
theorem natL_lt : ∀ {l : List C} {r : List Nat}, natL l = some r → ∀ b ∈ r, b < 256
  | [], r, h, b, hb => by simp only [natL, Option.some.injEq] at h; subst h; cases hb
  | c :: l, r, h, b, hb => by
    unfold natL at h
    split at h
    · rename_i e; cases e
    · rename_i k l' e
      cases e
      split at h
      · rename_i hk
        rw [Option.map_eq_some_iff] at h
        obtain ⟨r', h1, rfl⟩ := h
        have hk' := Nat.le_of_ble_eq_true hk
        rcases List.mem_cons.1 hb with rfl | hb
        · omega
        · exact natL_lt h1 b hb
      · cases h
    · cases h
theorem natL_ok {σ : Nat → Blk} {D : Nat → Prop} : ∀ {l : List C} {m : List Value} {r : List Nat}, natL l = some r → RL σ D l m → r.length = m.length ∧ ∀ j (hj : j < r.length), m[j]? = some (.int .u8 (r[j] : Int))
  | [], [], r, h, _ => by simp only [natL, Option.some.injEq] at h; subst h; exact ⟨rfl, fun j hj => absurd hj (Nat.not_lt_zero _)⟩
  | c :: l, v :: m, r, h, hl => by
    unfold natL at h
    split at h
    · rename_i e; cases e
    · rename_i k l' e
      cases e
      split at h
      · rename_i hk
        rw [Option.map_eq_some_iff] at h
        obtain ⟨r', h1, rfl⟩ := h
        obtain ⟨g1, g3⟩ := natL_ok h1 hl.2
        refine ⟨by simp [g1], fun j hj => ?_⟩
        cases j with
        | zero => rw [List.getElem?_cons_zero, show v = .int .u8 (.ofNat k) from hl.1]; rfl
        | succ j => simpa using g3 j (by simpa using hj)
      · cases h
    · cases h
noncomputable def capB (len : Nat) (cp : Cp) : Bool := match cp with | .ex c => Nat.ble len c && Nat.ble c 1000000 | .op _ => true
theorem cap_of {σ : Nat → Blk} {D : Nat → Prop} {i off len : Nat} {cp : Cp} {v : Value} (h : RC σ D (.sl i off len cp) v) (hc : capB len cp = true) : ∃ c, v = .slice (some (adr (σ i) off)) len c ∧ len ≤ c ∧ c ≤ maxLen := by
  cases cp with
  | ex c =>
    simp only [capB, Bool.and_eq_true] at hc
    have h1 := Nat.le_of_ble_eq_true hc.1
    have h2 := Nat.le_of_ble_eq_true hc.2
    exact ⟨c, h.2, h1, by unfold maxLen; omega⟩
  | op sz => obtain ⟨_, c, h1, h2, h3, _⟩ := h; exact ⟨c, h1, h2, h3⟩
/-- A slice that reads as bytes. -/
theorem slb_of {σ : Nat → Blk} {D : Nat → Prop} {w : World} {i off len : Nat} {cp : Cp} {v : Value} {ob : AO} {l : List C} {bs : List Nat} (h : RC σ D (.sl i off len cp) v) (hc : capB len cp = true) (hO : ObjAt σ D i ob w) (hl : ldC ob off len = some l) (hb : natL l = some bs) (hlen : len ≤ 1000000) : SlB w v (bs.map UInt8.ofNat) := by
  obtain ⟨c, rfl, h2, h3⟩ := cap_of h hc
  obtain ⟨ms, g1, g2, g3⟩ := ldC_ok hO hl
  obtain ⟨k1, k3⟩ := natL_ok hb g2
  have hbl : (bs.map UInt8.ofNat).length = len := by rw [List.length_map, k1, g1]
  refine ⟨by rw [hbl]; unfold lim; omega, .inr ⟨(σ i).b, off, c, by rw [hbl]; rfl, by rw [hbl]; exact h2, h3, hO.lt, fun j hj => ?_⟩⟩
  have hj' : j < bs.length := by simpa using hj
  have h256 := natL_lt hb bs[j] (List.getElem_mem hj')
  have hg := g3 j _ (k3 j hj')
  rw [adr_add] at hg
  rw [List.getElem_map]
  have : (UInt8.ofNat bs[j]).toNat = bs[j] := by simp [UInt8.toNat_ofNat']; omega
  rw [this]
  exact hg
/-- sum.On. -/
noncomputable def sumFn : GFn := fun args H n => match args with
  | [.v (.c (.int .u32 (.ofNat s))), .v (.c (.sl i off len cp))] => match HT.get H i with
    | some ob => match ldC ob off len with
      | some l => match natL l with
        | some bs => if Nat.ble s 4294967295 && Nat.ble len 1000000 && capB len cp then crcK bs (crcNot s) (fun r => fN (crcNot r) fun r => some (.v (.c (.int .u32 (.ofNat r))), .no (one i))) else none
        | none => none
      | none => none
    | none => none
  | _ => none
theorem sum_ok : GenOK Tryz.prog 316 sumFn := by
  refine ⟨⟨_, Tryz.func316, rfl⟩, fun args H n s e h σ D w vals hargs hs hD => ?_⟩
  unfold sumFn at h
  split at h
  · rename_i m i off len cp
    split at h
    · rename_i ob hob
      split at h
      · rename_i l hl
        split at h
        · rename_i bs hbs
          split at h
          · rename_i hc
            simp only [Bool.and_eq_true] at hc
            obtain ⟨⟨h1, h2⟩, h3⟩ := hc
            have h1 := Nat.le_of_ble_eq_true h1
            have h2 := Nat.le_of_ble_eq_true h2
            rw [crcK_eq _ _ _ (natL_lt hbs), fN_eq] at h
            cases h
            match vals, hargs with
            | [v1, v2], ⟨e1, e2, _⟩ =>
              have e1 : v1 = .int .u32 (.ofNat m) := e1
              subst e1
              have hsl := slb_of e2 h3 (obj_of hs tb_one hob).2 hl hbs h2
              refine (on_any m (by omega) v2 _ w hsl).mono ?_
              rintro x w' ⟨rfl, rfl⟩
              refine ⟨_, σ, rfl, ?_, ?_⟩
              · show Value.int .u32 ((crcOn m (bs.map UInt8.ofNat) : Nat) : Int) = _
                unfold crcOn
                rfl
              · rw [Ef.W_eq]
                exact out_still hs (Tch.refl _ _)
          · cases h
        · cases h
      · cases h
    · cases h
  · cases h
end Go.Proofs.YtcmlgmiomcegeaaGreat.Ev
