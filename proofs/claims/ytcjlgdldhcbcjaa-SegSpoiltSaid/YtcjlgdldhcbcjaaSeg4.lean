/- Segments: a log's frames. No condition. -/
import Derived.Test.YtcjlgdldhcbcjaaSeg3
namespace Go.Proofs.Ytcjlgdldhcbcjaa
open Go.RowKit Go.Maps
set_option linter.unusedVariables false
set_option linter.unusedSimpArgs false

variable {K : Nat → Prop} {w : World} {db mb room lb last : Nat} {M : List FE} {A : List (List UInt8)}
/-- What is so behind an append to a log's texts. -/
theorem log_app {wA w1 : World} {v v1 : Value} {R : List BE} (h2 : IsLog w lb db last v R) (tA : Tch No w wA) {n : Nat} {ys : List Value} (hA : AppR wA v n ys v1 w1) :
    w1.cell? ⟨lb, 2, none⟩ = some v ∧ w1.frozen? ⟨lb, 2, none⟩ = false := by
  have hb := blk_tch (Tch.grown hA.grow (F := fun k => v.ownBlock = some k) (fun k hk _ => hk)) (blk_tch tA h2.log (fun h => h)) (fun e => h2.ne (.inl e))
  have h1 := blk_cell hb 2
  exact ⟨by simpa using h1, blk_free hb 2⟩
set_option maxRecDepth 100000 in
set_option maxHeartbeats 2000000000 in
theorem lst_frames (h : LSt w lb db mb room M last A K) (v : Value) (bs : List UInt8) (hv : SlB w v bs) (hvK : ∀ k, v.ownBlock = some k → K k) (hA : A.length + bs.length ≤ 1900000000) :
    Calls Try.prog 48 #[.pointer (some ⟨lb, 0, none⟩), v] w fun e w' => e = .returned (.tuple #[.int .i64 ((framesM bs).len : Nat), .bool (framesM bs).torn, .int .i64 ((framesM bs).err : Nat)]) ∧ LSt w' lb db mb room M last (A ++ (framesM bs).all) K ∧ KT K w w' := by
  obtain ⟨a, cap, rfl, hc, hm⟩ := hv.shape
  have HV := Lib.hid hv
  have HK := Lib.hid hvK
  have hl := hv.1
  unfold lim at hl
  obtain ⟨n, hn⟩ : ∃ n, bs.length = n := ⟨_, rfl⟩
  have N := Lib.hid hn
  obtain ⟨F, hF⟩ : ∃ F, framesM bs = F := ⟨_, rfl⟩
  rw [hF]
  rw [hn] at hc hl hA ⊢
  have L0 : Hid (LSt w lb db mb room M last (A ++ []) K) := by rw [List.append_nil]; exact h
  have F0 : Hid (F = ⟨[] ++ (framesM (bs.drop 0)).all, 0 + (framesM (bs.drop 0)).len, (framesM (bs.drop 0)).torn, (framesM (bs.drop 0)).err⟩) := by rw [Hid, List.drop_zero, hF]; simp
  clear h hv hvK hn hF
  go_enter Try.func48, Try.ntmps48
  go_wp2_with fail
  go_loopw [7] (fun i wr => ∃ (k : Nat) (done : List (List UInt8)), k ≤ n ∧ done.length ≤ k ∧ i = .int .i64 k ∧ Hid (LSt wr lb db mb room M last (A ++ done) K) ∧ Hid (KT K w wr) ∧ Hid (F = ⟨done ++ (framesM (bs.drop k)).all, k + (framesM (bs.drop k)).len, (framesM (bs.drop k)).torn, (framesM (bs.drop k)).err⟩)) (fun i _ => n - (intOf i).toNat)
  case atStart => exact ⟨0, [], by omega, by simp, rfl, L0, KT.refl _ _, F0⟩
  case round =>
    clear L0 F0
    obtain ⟨k, done, hk, hdl, rfl, HL, HT, HF⟩ := hrel
    by_cases hlt : k < n
    · obtain ⟨g, o, ha⟩ : ∃ g o, a = some ⟨g, o, none⟩ := by
        rcases HV.out.2 with ⟨_, h⟩ | ⟨g, o, d, h, _⟩
        · have := N.out; rw [h] at this; simp at this; omega
        · injection h with h; exact ⟨g, o, h⟩
      subst ha
      have hsub : Hid (SlB wr (.slice (some ⟨g, o + k, none⟩) (n - k) (cap - k)) (bs.drop k)) := by
        have h1 := HT.out.slb HV.out HK.out
        rw [N.out] at h1
        exact h1.drop k (by rw [N.out]; omega) (o + k) (fun _ => rfl)
      have hne : Hid (bs.drop k ≠ []) := by
        rw [Hid]; intro e
        have := congrArg List.length e
        rw [List.length_drop, N.out] at this
        simp at this; omega
      obtain ⟨sub, hsb⟩ : ∃ sub, bs.drop k = sub := ⟨_, rfl⟩
      have hcl : Hid ((cutM sub).2.2 = 0 → (cutM sub).2.1 ≤ n - k ∧ bs.drop (k + (cutM sub).2.1) = sub.drop (cutM sub).2.1) := by
        intro h0
        subst hsb
        exact ⟨by have := (cutM_ok h0).2.2.2; rw [List.length_drop, N.out] at this; exact this, by rw [List.drop_drop]⟩
      rw [hsb] at hsub hne HF
      clear hsb
      have p1 : (k : Int) < (n : Int) := by omega
      have p2 : (0 : Int) ≤ (k : Int) := by omega
      have p3 : (n : Int) ≤ (cap : Int) := by omega
      have p4 : (k : Int) ≤ (n : Int) := by omega
      go_wp2_with fail
      refine (scut_any _ sub wr hsub.out).mono ?_
      rintro e wc ⟨x, rfl, x1, x2, x3⟩
      have X1 := Lib.hid x1; have X2 := Lib.hid x2; have X3 := Lib.hid x3
      obtain ⟨ax, mx, cx, rfl, hmx⟩ := x1.shape'
      clear x1 x2 x3 hmx
      obtain ⟨c, hcc⟩ : ∃ c, cutM sub = c := ⟨_, rfl⟩
      have HC := Lib.hid hcc
      rw [hcc] at X1 hcl ⊢
      obtain ⟨cb, cn, ce⟩ := c
      simp only at X1 hcl ⊢
      clear hcc
      have herr := cutM_err sub
      rw [HC.out] at herr
      simp only at herr
      rcases herr with rfl | rfl | rfl
      · obtain ⟨hcn, hdr⟩ := hcl.out rfl
        have hcm : Hid (cb.length + 6 = cn ∧ 1 ≤ cb.length) := by
          have := cutM_ok (b := sub) (by rw [HC.out])
          rw [HC.out] at this
          exact ⟨by have := this.1; simp only at this; omega, this.2.1⟩
        have hE : Hid (F = ⟨(done ++ [cb]) ++ (framesM (bs.drop (k + cn))).all, (k + cn) + (framesM (bs.drop (k + cn))).len, (framesM (bs.drop (k + cn))).torn, (framesM (bs.drop (k + cn))).err⟩) := by
          rw [Hid, HF.out, framesM_ok (by rw [HC.out]) hne.out, HC.out]
          simp only
          rw [hdr]
          simp [Nat.add_assoc]
        clear hdr hcl
        obtain ⟨vl, R, h1, h2, h3, h4⟩ := HL.out
        obtain ⟨al, ml, cl, rfl, hml⟩ := own_shape' h2.rows.row
        have d2 := X3.out.cell h2.cell2 (fun h => h)
        have hRl : Hid (R.length + 1 ≤ 2000000000) := by
          have := congrArg List.length h1
          rw [List.length_map, List.length_append] at this
          rw [Hid]; omega
        have H1 := Lib.hid h1; have H2 := Lib.hid h2; have H3 := Lib.hid h3; have H4 := Lib.hid h4
        have E1 : IntKind.i64.wrap ((k : Int) + (cn : Int)) = (k : Int) + (cn : Int) := IntWalk.i64_in _ ⟨by omega, by omega⟩
        clear h1 h2 h3 h4 hml
        go_wp2_with (at_builtin; go_must (refine wpList_appR rfl _ _ rfl (.slice al ml cl) R.length (R.map (·.v)) rfl (own_tch H2.out.rows.row (X3.out.trans0 (Tch.alloc _ _)) (fun _ _ h => h)) ⟨wc.heap.size, 0, none⟩ 1 (.slice ax mx cx) rfl (by simp) rfl hRl.out ?_); intro a1 n1 cp1 w1 hA1; obtain ⟨j1, j2⟩ := log_app H2.out (X3.out.trans0 (Tch.alloc _ _)) hA1; have HA1 := Lib.hid hA1; clear hA1)
        have := LSt.add H1.out H2.out H3.out H4.out (X3.out.trans0 (Tch.alloc _ _)) (x := ⟨cb, .slice ax mx cx⟩) (X1.out.tch0 (Tch.alloc _ _)) X2.out HA1.out
        have hcm' := hcm.out
        exact ⟨⟨k + cn, done ++ [cb], by omega, by rw [List.length_append]; simp; omega, by go_num, by rw [← List.append_assoc]; exact this.1, HT.out.trans this.2, hE⟩, by simp [intOf]; omega⟩
      · have hE : Hid (F = ⟨done, k, true, 0⟩) := by
          rw [Hid, HF.out, framesM_torn (by rw [HC.out]) hne.out]; simp
        go_wp2_with fail
        go_ret3
        rw [hE.out]
        exact ⟨rfl, HL.out.keep X3.out, HT.out.trans (KT.of0 X3.out)⟩
      · have hE : Hid (F = ⟨done, k, false, 3⟩) := by
          rw [Hid, HF.out, framesM_bad (by rw [HC.out]; simp) (by rw [HC.out]; simp) hne.out, HC.out]; simp
        go_wp2_with fail
        go_ret3
        rw [hE.out]
        exact ⟨rfl, HL.out.keep X3.out, HT.out.trans (KT.of0 X3.out)⟩
    · have hE : Hid (F = ⟨done, k, false, 0⟩) := by
        have : bs.drop k = [] := List.drop_of_length_le (by rw [N.out]; omega)
        rw [Hid, HF.out, this, framesM_nil]; simp
      have p1 : ¬ (k : Int) < (n : Int) := by omega
      go_wp2_with fail
      go_ret3
      rw [hE.out]
      exact ⟨rfl, HL.out, HT.out⟩
/-- slices.Clone as a step of a region that draws its order. -/
theorem step_clone {ops : Array Oper} {o : Oper} {a : Act} {w : World} {K : Act → World → Prop} {Q : Exit → Act → World → Prop} {E : Prop} (hgd : o.guard = none) (x : Operand)
    (ho : o.op = .call { callee := .value (.func 46), args := #[x], argTypes := #[22] })
    (av : Option Addr) (mv cv : Nat) (bs : List UInt8) (hx : a.eval x = .slice av mv cv) (hu : SlB w (.slice av mv cv) bs)
    (h : ∀ ax mx cx w', SlB w' (.slice ax mx cx) bs → (∀ k, (Value.slice ax mx cx).ownBlock = some k → w.heap.size ≤ k) → Tch No w w' → K (a.put o.dst (.slice ax mx cx)) w') :
    if Region.wanted o (yielded ops a.tmps) = true then Oper.wp Try.prog o a w K Q else E := by
  have hw : Region.wanted o (yielded ops a.tmps) = true := by simp [Region.wanted, hgd]
  rw [if_pos hw]
  unfold Oper.wp execOp
  have he : a.eval (.func 46) = .func (.func 46) #[] #[] := rfl
  simp only [ho, resolve, invoke, Sem.run_bind, Sem.run_pure, Result.andThen_ok, List.map_toArray, List.map_cons, List.map_nil, hx, he, Deferred.ofValue, callFunc, Array.append_empty]
  have hn : (Try.f46.name == "runtime.NumGoroutine") = false := by kernel_rfl
  have hb : Try.f46.body.isNone = false := by kernel_rfl
  have hp : program.run Try.prog w = .ok Try.prog w := rfl
  simp only [hp, Result.andThen_ok, Try.func46, hn, hb, Bool.false_eq_true, if_false, Sem.run_pure, Oper.upon_enter, Array.empty_append]
  with_reducible refine (clone_any av mv cv bs w hu).mono ?_
  rintro e w' ⟨r, rfl, h1, h2, h3⟩
  obtain ⟨ax, mx, cx, rfl, _⟩ := h1.shape'
  exact h ax mx cx w' h1 h2 h3
end Go.Proofs.Ytcjlgdldhcbcjaa
