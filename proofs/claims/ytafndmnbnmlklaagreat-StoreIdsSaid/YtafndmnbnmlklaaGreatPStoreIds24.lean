/- Part 24 of what the proof of StoreIds rests on. No condition. -/
import Derived.Test.YtafndmnbnmlklaaGreatPStoreIds21
import Derived.Test.YtafndmnbnmlklaaGreatPStoreIds23
namespace Go.Proofs.YtafndmnbnmlklaaGreat
set_option maxRecDepth 100000
set_option maxHeartbeats 60000000
set_option linter.unusedVariables false
set_option linter.unusedSimpArgs false
set_option linter.unusedSectionVars false
section
open Go.RowKit Go.Maps
def noneM (s : StM) (r : RecM) : Nat :=
 if r.kind = 2 then (if hasP (·.id) s.ms r.id = true then 0 else 6)
 else if r.kind = 5 then (if hasP (·.tid) s.waits r.tid = true then 0 else 6)
 else if r.kind = 9 then (match s.noes.find? (fun p => decide (p.tid = r.tid)) with | none => 6 | some p => if p.parts.contains (r.parts.headD 0) = true then 0 else 6)
 else 0
def otherM (s : StM) (r : RecM) : Nat :=
 let ready := hasP (·.tid) s.waits r.tid
 let open_ := hasP (·.tid) s.opens r.tid
 let own := decide (homeM r.tid = s.broker)
 if r.kind = 1 then (if r.tid ≠ makeM s.broker (s.tx + 1) then 12 else 0)
 else if r.kind = 6 ∨ r.kind = 7 ∨ r.kind = 8 then (if own = false ∨ ready = true ∨ r.parts.contains s.broker = true ∨ (r.kind = 6 /\ open_ = true) then 12 else 0)
 else if r.kind = 4 then (if ready = true ∨ own = true then 12 else 0)
 else if r.kind = 3 then (if ready = true ∨ open_ = true then 12 else 0)
 else 0
def busyM (s : StM) (r : RecM) : Nat :=
 if r.kind = 2 then (match s.ms.find? (fun m => decide (m.id = r.id)) with | none => 0 | some m => if (m.who ≠ 0 /\ m.who ≠ r.tid) ∨ hasP (·.tid) s.waits r.tid = true ∨ hasP (·.tid) s.opens r.tid = true then 8 else 0)
 else 0
def sfullM (s : StM) (r : RecM) : Nat := if r.kind = 1 /\ 200 <= s.tx then 5 else fullM s r
theorem snone_all (s : StM) (hok : OkSt s) (hm : MayP s) (r : RecM) (hor : OkRec r) (hkk : 1 <= r.kind /\ r.kind <= 9) (hrec : recB r = true) (hu : r.puts.length <= 1000000) (v vr : Value) (w : World) (h : IsSt w v s) (hr : IsRec w vr r) :
  Calls Tryz.prog 58 #[v, vr] w fun e w' => e = .returned (.int .i64 (noneM s r : Nat)) /\ Tch No w w' := by
 obtain ⟨kd, hk⟩ : ∃ x, r.kind = x := ⟨_, rfl⟩
 rw [hk] at hkk
 have HME : Hid (∀ W, Tch No w W -> Calls Tryz.prog 166 #[v, .int .i64 r.id] W fun e w' => e = .returned (.int .i64 (atI (·.id) s.ms r.id)) /\ Tch No W w') := fun W T => smessage_any s r.id v W (h.keep T)
 have HFI : Hid (∀ W, Tch No w W -> Calls Tryz.prog 171 #[v, .int .i64 (r.puts.length : Nat)] W fun e w' => e = .returned (.bool (fitsB s r.puts.length)) /\ Tch No W w') := fun W T => sfits_any s hm _ hu v W (h.keep T)
 have HHO := Lib.hid (fun W => khome_any r.tid hor.tid W)
 have HMK := Lib.hid (fun W => kmake_any s.broker (s.tx + 1) ⟨by have := hm.br; omega, by have := hm.br; omega⟩ ⟨by have := hm.tx; omega, by have := hm.tx; omega⟩ W)
 obtain ⟨am, cm, aw, cw, ae, ce, ao, co, an, cn, nm, nw, ne, no, nn, hval, HMSL, HNM, hlnm, HWSL, HNW, hlnw, HESL, HNE, hlne, HOSL, HNO, hlno, HNSL, HNN, hlnn⟩ := st_pre h
 have HWA : Hid (∀ W, Tch No w W -> Calls Tryz.prog 167 #[.slice aw nw cw, .int .i64 r.tid] W fun e w' => e = .returned (.tuple #[.int .i64 (posP (·.tid) s.waits r.tid : Nat), .bool (hasP (·.tid) s.waits r.tid)]) /\ Tch No W w') := fun W T => waits_any s.waits hm.waits2 (by have := hm.lw; omega) r.tid _ W (HWSL.out.keep T)
 have HPO : Hid (∀ W, Tch No w W -> Calls Tryz.prog 168 #[.slice ao no co, .int .i64 r.tid] W fun e w' => e = .returned (.tuple #[.int .i64 (posP (·.tid) s.opens r.tid : Nat), .bool (hasP (·.tid) s.opens r.tid)]) /\ Tch No W w') := fun W T => pends_any s.opens hm.opens2 (by have := hm.lo; omega) r.tid _ W (HOSL.out.keep T)
 have HPN : Hid (∀ W, Tch No w W -> Calls Tryz.prog 168 #[.slice an nn cn, .int .i64 r.tid] W fun e w' => e = .returned (.tuple #[.int .i64 (posP (·.tid) s.noes r.tid : Nat), .bool (hasP (·.tid) s.noes r.tid)]) /\ Tch No W w') := fun W T => pends_any s.noes hm.noes2 (by have := hm.ln; omega) r.tid _ W (HNSL.out.keep T)
 have HSN := Lib.hid hm.noes2
 obtain ⟨ap, cp, au, cu, rfl, hrp, hru⟩ := hr.shape
 have HCO : Hid (∀ W, Tch No w W -> Calls Tryz.prog 169 #[.slice ap r.parts.length cp, .int .i64 s.broker] W fun e w' => e = .returned (.bool (r.parts.contains s.broker)) /\ Tch No W w') := fun W T => (contains_any r.parts s.broker _ W (hrp.keep T)).mono (by rintro e w' ⟨rfl, rfl⟩; exact ⟨rfl, Tch.refl _ _⟩)
 have HK := Lib.hid hk
 have HREC := Lib.hid hrec
 have HRP := Lib.hid hrp
 have HP1 : Hid (r.kind = 9 -> r.parts.length = 1) := fun h9 => by
  have h := hrec
  unfold recB at h
  simp only [Bool.and_eq_true] at h
  have h2 := h.2
  rw [h9] at h2
  simp at h2
  exact h2.1
 have hpn : r.parts.length <= 9223372036854775807 := by
  obtain ⟨_, c, _, h1, h2⟩ := CellsAt.shape hrp
  unfold maxLen at h2; omega
 rw [hk]
 obtain ⟨np, hnp⟩ : ∃ n, r.parts.length = n := ⟨_, rfl⟩
 obtain ⟨nu, hnu⟩ : ∃ n, r.puts.length = n := ⟨_, rfl⟩
 have HNPP := Lib.hid hnp
 have HNU := Lib.hid hnu
 rw [hnp] at HCO hpn ⊢
 rw [hnu] at HFI hu ⊢
 have HRP2 : Hid (IsInts w (.slice ap np cp) r.parts) := by have h := HRP.out; rw [hnp] at h; exact h
 obtain ⟨htx1, htx2⟩ := hm.tx
 subst hval
 obtain ⟨rd, hrd⟩ : ∃ b, hasP (fun x : BrM => x.tid) s.waits r.tid = b := ⟨_, rfl⟩
 obtain ⟨op, hop⟩ : ∃ b, hasP (fun x : PendM => x.tid) s.opens r.tid = b := ⟨_, rfl⟩
 obtain ⟨hmh, hhm⟩ : ∃ x, homeM r.tid = x := ⟨_, rfl⟩
 obtain ⟨ow, how⟩ : ∃ b, (hmh == s.broker) = b := ⟨_, rfl⟩
 obtain ⟨hs, hhs⟩ : ∃ b, r.parts.contains s.broker = b := ⟨_, rfl⟩
 obtain ⟨mk, hmk⟩ : ∃ x, makeM s.broker (s.tx + 1) = x := ⟨_, rfl⟩
 obtain ⟨fi, hfi0⟩ : ∃ b, fitsB s nu = b := ⟨_, rfl⟩
 have HFB := Lib.hid hfi0
 have HRD := Lib.hid hrd
 have HOP := Lib.hid hop
 have HMB := Lib.hid hmk
 have HMEM : Hid (s.broker ∈ r.parts ↔ hs = true) := by rw [Hid, <- hhs, List.contains_iff_mem]
 have HOW : Hid (decide (homeM r.tid = s.broker) = ow) := by rw [Hid, hhm, <- how]; rfl
 rw [hrd] at HWA
 rw [hop] at HPO
 rw [hhm] at HHO
 rw [hhs] at HCO
 rw [hmk] at HMK
 rw [hfi0] at HFI
 generalize posP (fun x : BrM => x.tid) s.waits r.tid = pw at HWA
 generalize posP (fun x : PendM => x.tid) s.opens r.tid = po at HPO
 clear h hr hrec hk hor hok hrp hru hm hnp hnu hrd hop hhm hhs hmk HRP hfi0
 have HRP := HRP2
 clear HRP2
 go_enter Tryz.func58, Tryz.ntmps58
 go_upto_region 1 with fail
 refine wp_world (fun w' => Hid (Tch No w w') /\ Hid (BoxAt w' w.heap.size [.int .i64 s.broker, .int .i64 s.nid, .int .i64 s.nseq, .int .i64 s.tx, .slice am nm cm, .slice aw nw cw, .slice ae ne ce, .slice ao no co, .slice an nn cn]) /\ Hid (BoxAt w' (w.heap.size + 1) [.int .i64 kd, .int .i64 r.tid, .int .i64 r.id, .bool r.yes, .slice ap np cp, .slice au nu cu])) ⟨(Tch.alloc _ _).trans0 (Tch.alloc _ _), box2a _ _ _ _ _, box2b _ _ _ _ _⟩ ?_
 rintro w1 ⟨TT, HB, HB2⟩
 refine wp_world (fun w' => ∃ p : TchW w1, w' = p.wo) ⟨⟨w1, Tch.refl _ _⟩, rfl⟩ ?_
 rintro _ ⟨p0, rfl⟩
 obtain ⟨c0, c1, c2, c3, c4, c5, c6, c7, c8⟩ := kb9 HB.out
 obtain ⟨g0, g1, g2, g3, g4, g5⟩ := kb6 HB2.out
 have h19 : kd = 1 ∨ kd = 2 ∨ kd = 3 ∨ kd = 4 ∨ kd = 5 ∨ kd = 6 ∨ kd = 7 ∨ kd = 8 ∨ kd = 9 := by omega
 clear hkk
 rcases h19 with rfl | rfl | rfl | rfl | rfl | rfl | rfl | rfl | rfl
 ·
  have HN : Hid (noneM s r = 0) := by rw [Hid, noneM]; simp [HK.out]
  go_wp2_with (first
   | (go_at_call 166; with_reducible refine cz HME.out TT fun q' => ?_)
   | (go_at_call 167; with_reducible refine cz HWA.out TT fun q' => ?_)
   | (go_at_call 168; with_reducible refine cz HPN.out TT fun q' => ?_)
   | (go_at_call 169; refine cz HCO.out TT fun q' => ?_))
  go_ret
  exact ⟨ret_e HN.out, TT.out.trans0 (TchW.t _)⟩
 ·
  rcases find_at (fun x : MsgM => x.id) s.ms r.id with ⟨hno, hat, _⟩ | ⟨k, hk, hno, hat, _⟩
  ·rw [hat] at HME
   have HNO' := Lib.hid hno
   clear hat hno
   have HN : Hid (noneM s r = 6) := by rw [Hid, noneM]; simp [HK.out, HNO'.out]
   go_wp2_with (first
    | (go_at_call 166; with_reducible refine cz HME.out TT fun q' => ?_)
    | (go_at_call 167; with_reducible refine cz HWA.out TT fun q' => ?_)
    | (go_at_call 168; with_reducible refine cz HPN.out TT fun q' => ?_)
    | (go_at_call 169; refine cz HCO.out TT fun q' => ?_))
   go_ret
   exact ⟨ret_e HN.out, TT.out.trans0 (TchW.t _)⟩
  ·rw [hat] at HME
   have HNO' := Lib.hid hno
   clear hat hno
   have HN : Hid (noneM s r = 0) := by rw [Hid, noneM]; simp [HK.out, HNO'.out]
   go_wp2_with (first
    | (go_at_call 166; with_reducible refine cz HME.out TT fun q' => ?_)
    | (go_at_call 167; with_reducible refine cz HWA.out TT fun q' => ?_)
    | (go_at_call 168; with_reducible refine cz HPN.out TT fun q' => ?_)
    | (go_at_call 169; refine cz HCO.out TT fun q' => ?_))
   go_ret
   exact ⟨ret_e HN.out, TT.out.trans0 (TchW.t _)⟩
 ·
  have HN : Hid (noneM s r = 0) := by rw [Hid, noneM]; simp [HK.out]
  go_wp2_with (first
   | (go_at_call 166; with_reducible refine cz HME.out TT fun q' => ?_)
   | (go_at_call 167; with_reducible refine cz HWA.out TT fun q' => ?_)
   | (go_at_call 168; with_reducible refine cz HPN.out TT fun q' => ?_)
   | (go_at_call 169; refine cz HCO.out TT fun q' => ?_))
  go_ret
  exact ⟨ret_e HN.out, TT.out.trans0 (TchW.t _)⟩
 ·
  have HN : Hid (noneM s r = 0) := by rw [Hid, noneM]; simp [HK.out]
  go_wp2_with (first
   | (go_at_call 166; with_reducible refine cz HME.out TT fun q' => ?_)
   | (go_at_call 167; with_reducible refine cz HWA.out TT fun q' => ?_)
   | (go_at_call 168; with_reducible refine cz HPN.out TT fun q' => ?_)
   | (go_at_call 169; refine cz HCO.out TT fun q' => ?_))
  go_ret
  exact ⟨ret_e HN.out, TT.out.trans0 (TchW.t _)⟩
 ·
  cases rd with
  | false =>
   have HN : Hid (noneM s r = 6) := by rw [Hid, noneM]; simp [HK.out, HRD.out, HOP.out, HOW.out]
   go_wp2_with (first
    | (go_at_call 166; with_reducible refine cz HME.out TT fun q' => ?_)
    | (go_at_call 167; with_reducible refine cz HWA.out TT fun q' => ?_)
    | (go_at_call 168; with_reducible refine cz HPN.out TT fun q' => ?_)
    | (go_at_call 169; refine cz HCO.out TT fun q' => ?_))
   go_ret
   exact ⟨ret_e HN.out, TT.out.trans0 (TchW.t _)⟩
  | true =>
   have HN : Hid (noneM s r = 0) := by rw [Hid, noneM]; simp [HK.out, HRD.out, HOP.out, HOW.out]
   go_wp2_with (first
    | (go_at_call 166; with_reducible refine cz HME.out TT fun q' => ?_)
    | (go_at_call 167; with_reducible refine cz HWA.out TT fun q' => ?_)
    | (go_at_call 168; with_reducible refine cz HPN.out TT fun q' => ?_)
    | (go_at_call 169; refine cz HCO.out TT fun q' => ?_))
   go_ret
   exact ⟨ret_e HN.out, TT.out.trans0 (TchW.t _)⟩
 ·
  have HN : Hid (noneM s r = 0) := by rw [Hid, noneM]; simp [HK.out]
  go_wp2_with (first
   | (go_at_call 166; with_reducible refine cz HME.out TT fun q' => ?_)
   | (go_at_call 167; with_reducible refine cz HWA.out TT fun q' => ?_)
   | (go_at_call 168; with_reducible refine cz HPN.out TT fun q' => ?_)
   | (go_at_call 169; refine cz HCO.out TT fun q' => ?_))
  go_ret
  exact ⟨ret_e HN.out, TT.out.trans0 (TchW.t _)⟩
 ·
  have HN : Hid (noneM s r = 0) := by rw [Hid, noneM]; simp [HK.out]
  go_wp2_with (first
   | (go_at_call 166; with_reducible refine cz HME.out TT fun q' => ?_)
   | (go_at_call 167; with_reducible refine cz HWA.out TT fun q' => ?_)
   | (go_at_call 168; with_reducible refine cz HPN.out TT fun q' => ?_)
   | (go_at_call 169; refine cz HCO.out TT fun q' => ?_))
  go_ret
  exact ⟨ret_e HN.out, TT.out.trans0 (TchW.t _)⟩
 ·
  have HN : Hid (noneM s r = 0) := by rw [Hid, noneM]; simp [HK.out]
  go_wp2_with (first
   | (go_at_call 166; with_reducible refine cz HME.out TT fun q' => ?_)
   | (go_at_call 167; with_reducible refine cz HWA.out TT fun q' => ?_)
   | (go_at_call 168; with_reducible refine cz HPN.out TT fun q' => ?_)
   | (go_at_call 169; refine cz HCO.out TT fun q' => ?_))
  go_ret
  exact ⟨ret_e HN.out, TT.out.trans0 (TchW.t _)⟩
 ·
  rcases find_at (fun x : PendM => x.tid) s.noes r.tid with ⟨hno, hat, hfi⟩ | ⟨k, hk, hno, hat, hfi⟩
  ·have HFD := Lib.hid hfi
   rw [hno] at HPN
   generalize posP (fun x : PendM => x.tid) s.noes r.tid = pn at HPN
   clear hat hfi hno
   go_upto_region 9 with (first
    | (go_at_call 166; with_reducible refine cz HME.out TT fun q' => ?_)
    | (go_at_call 167; with_reducible refine cz HWA.out TT fun q' => ?_)
    | (go_at_call 168; with_reducible refine cz HPN.out TT fun q' => ?_)
    | (go_at_call 169; refine cz HCO.out TT fun q' => ?_))
   refine wp_world (fun w' => Hid (Tch No w w') /\ Hid (BoxAt w' w.heap.size [.int .i64 s.broker, .int .i64 s.nid, .int .i64 s.nseq, .int .i64 s.tx, .slice am nm cm, .slice aw nw cw, .slice ae ne ce, .slice ao no co, .slice an nn cn]) /\ Hid (BoxAt w' (w.heap.size + 1) [.int .i64 9, .int .i64 r.tid, .int .i64 r.id, .bool r.yes, .slice ap np cp, .slice au nu cu])) ⟨TT.out.trans0 (TchW.t _), HB.out.keep (TchW.t _), HB2.out.keep (TchW.t _)⟩ ?_
   clear TT HB HB2 c0 c1 c2 c3 c4 c5 c6 c7 c8 g0 g1 g2 g3 g4 g5
   rintro w9 ⟨TT, HB, HB2⟩
   obtain ⟨c0, c1, c2, c3, c4, c5, c6, c7, c8⟩ := kb9 HB.out
   obtain ⟨g0, g1, g2, g3, g4, g5⟩ := kb6 HB2.out
   refine wp_region_qt (by kernel_rfl) (by kernel_rfl) ?_
   repeat (go_big_quiet_step (fail))
   with_reducible refine wpQuiet_nil ?_
   rintro _ ⟨pq, rfl⟩
   have HN : Hid (noneM s r = 6) := by rw [Hid, noneM]; simp [HK.out, HFD.out]
   go_wp2_with (first
    | (go_at_call 166; with_reducible refine cz HME.out TT fun q' => ?_)
    | (go_at_call 167; with_reducible refine cz HWA.out TT fun q' => ?_)
    | (go_at_call 168; with_reducible refine cz HPN.out TT fun q' => ?_)
    | (go_at_call 169; refine cz HCO.out TT fun q' => ?_))
   go_ret
   exact ⟨ret_e HN.out, TT.out.trans0 (TchW.t _)⟩
  have hpos := atI_pos HSN.out hno
  rw [hat] at hpos
  have hpk : posP (fun x : PendM => x.tid) s.noes r.tid = k := by omega
  have HFD := Lib.hid hfi
  rw [hno, hpk] at HPN
  have hkn : k < nn := by have := HNN.out; omega
  have hb : ∃ b o, an = some ⟨b, o, none⟩ /\ ∃ a c, w.cell? ⟨b, o + k * 2 + 1, none⟩ = some (.slice a s.noes[k].parts.length c) /\ IsInts w (.slice a s.noes[k].parts.length c) s.noes[k].parts := by
   rcases pends_cells HNSL.out with ⟨_, h0⟩ | ⟨b, o, cap2, h1, _, _, _, h5⟩
   ·rw [h0] at hk; simp at hk
   ·rw [HNN.out] at h1
    injection h1 with h1 _ _
    exact ⟨b, o, h1, (h5 k hk).2⟩
  obtain ⟨b, o, rfl, qa, qc, e5, hqi⟩ := hb
  obtain ⟨qs, hqs⟩ : ∃ x, s.noes[k].parts = x := ⟨_, rfl⟩
  have HQS := Lib.hid hqs
  rw [hqs] at e5 hqi
  obtain ⟨qn, hqn⟩ : ∃ x, qs.length = x := ⟨_, rfl⟩
  rw [hqn] at e5 hqi
  have HQI := Lib.hid hqi
  have hpl := HP1.out HK.out
  have hp0 : np = 1 := by rw [<- HNPP.out, hpl]
  obtain ⟨x, hx⟩ : ∃ x, r.parts.headD 0 = x := ⟨_, rfl⟩
  have HX2 : Hid (r.parts.head?.getD 0 = x) := by rw [Hid, <- hx, List.headD_eq_head?_getD]
  have hbp : ∃ b' o', ap = some ⟨b', o', none⟩ /\ w.cell? ⟨b', o', none⟩ = some (.int .i64 x) := by
   rcases ints_cells HRP.out with ⟨_, h0⟩ | ⟨b', o', cap2, h1, _, _, _, h5⟩
   ·rw [h0] at hpl; simp at hpl
   ·injection h1 with h1 _ _
    refine ⟨b', o', h1, ?_⟩
    have := h5 0 (by omega)
    rw [Nat.add_zero] at this
    rw [<- hx, this]
    congr 2
    rw [List.headD_eq_head?_getD, List.head?_eq_getElem?, List.getElem?_eq_getElem (by omega)]; rfl
  obtain ⟨b', o', rfl, e6⟩ := hbp
  subst hp0
  clear hat hfi hqs hqi hqn hx hpl hno hpos hpk
  go_upto_region 9 with (first
   | (go_at_call 166; with_reducible refine cz HME.out TT fun q' => ?_)
   | (go_at_call 167; with_reducible refine cz HWA.out TT fun q' => ?_)
   | (go_at_call 168; with_reducible refine cz HPN.out TT fun q' => ?_)
   | (go_at_call 169; refine cz HCO.out TT fun q' => ?_))
  refine wp_world (fun w' => Hid (Tch No w w') /\ Hid (BoxAt w' w.heap.size [.int .i64 s.broker, .int .i64 s.nid, .int .i64 s.nseq, .int .i64 s.tx, .slice am nm cm, .slice aw nw cw, .slice ae ne ce, .slice ao no co, .slice (some ⟨b, o, none⟩) nn cn]) /\ Hid (BoxAt w' (w.heap.size + 1) [.int .i64 9, .int .i64 r.tid, .int .i64 r.id, .bool r.yes, .slice (some ⟨b', o', none⟩) 1 cp, .slice au nu cu])) ⟨TT.out.trans0 (TchW.t _), HB.out.keep (TchW.t _), HB2.out.keep (TchW.t _)⟩ ?_
  clear TT HB HB2 c0 c1 c2 c3 c4 c5 c6 c7 c8 g0 g1 g2 g3 g4 g5
  rintro w9 ⟨TT, HB, HB2⟩
  obtain ⟨c0, c1, c2, c3, c4, c5, c6, c7, c8⟩ := kb9 HB.out
  obtain ⟨g0, g1, g2, g3, g4, g5⟩ := kb6 HB2.out
  have e5' := fun (p : TchW w9) => (TT.out.trans0 p.t).cell e5 (fun h => h)
  have e6' := fun (p : TchW w9) => (TT.out.trans0 p.t).cell e6 (fun h => h)
  have HH9 : Hid (∀ p : TchW w9, Calls Tryz.prog 169 #[.slice qa qn qc, .int .i64 x] p.wo fun e w' => e = .returned (.bool (qs.contains x)) /\ p.wo = w') := fun p => contains_any qs x _ p.wo (by
   have h := HQI.out.keep (TT.out.trans0 p.t); exact h)
  obtain ⟨hq, hhq⟩ : ∃ y, qs.contains x = y := ⟨_, rfl⟩
  have HHQ : Hid (x ∈ qs ↔ hq = true) := by rw [Hid, <- hhq, List.contains_iff_mem]
  rw [hhq] at HH9
  clear e5 e6 hhq
  cases hq with
  | false =>
   refine wp_region_qt (by kernel_rfl) (by kernel_rfl) ?_
   repeat (go_big_quiet_step ((go_at_call 169; exact qt_s (HH9.out _))))
   with_reducible refine wpQuiet_nil ?_
   rintro _ ⟨pq, rfl⟩
   have HN : Hid (noneM s r = 6) := by rw [Hid, noneM]; simp [HK.out, HFD.out, HQS.out, HX2.out, HHQ.out]
   go_wp2_with (first
    | (go_at_call 166; with_reducible refine cz HME.out TT fun q' => ?_)
    | (go_at_call 167; with_reducible refine cz HWA.out TT fun q' => ?_)
    | (go_at_call 168; with_reducible refine cz HPN.out TT fun q' => ?_)
    | (go_at_call 169; refine cz HCO.out TT fun q' => ?_))
   go_ret
   exact ⟨ret_e HN.out, TT.out.trans0 (TchW.t _)⟩
  | true =>
  refine wp_region_qt (by kernel_rfl) (by kernel_rfl) ?_
  repeat (go_big_quiet_step ((go_at_call 169; exact qt_s (HH9.out _))))
  with_reducible refine wpQuiet_nil ?_
  rintro _ ⟨pq, rfl⟩
  have HN : Hid (noneM s r = 0) := by rw [Hid, noneM]; simp [HK.out, HFD.out, HQS.out, HX2.out, HHQ.out]
  go_wp2_with (first
   | (go_at_call 166; with_reducible refine cz HME.out TT fun q' => ?_)
   | (go_at_call 167; with_reducible refine cz HWA.out TT fun q' => ?_)
   | (go_at_call 168; with_reducible refine cz HPN.out TT fun q' => ?_)
   | (go_at_call 169; refine cz HCO.out TT fun q' => ?_))
  go_ret
  exact ⟨ret_e HN.out, TT.out.trans0 (TchW.t _)⟩
theorem sother_all (s : StM) (hok : OkSt s) (hm : MayP s) (r : RecM) (hor : OkRec r) (hkk : 1 <= r.kind /\ r.kind <= 9) (hrec : recB r = true) (hu : r.puts.length <= 1000000) (v vr : Value) (w : World) (h : IsSt w v s) (hr : IsRec w vr r) :
  Calls Tryz.prog 59 #[v, vr] w fun e w' => e = .returned (.int .i64 (otherM s r : Nat)) /\ Tch No w w' := by
 obtain ⟨kd, hk⟩ : ∃ x, r.kind = x := ⟨_, rfl⟩
 rw [hk] at hkk
 have HME : Hid (∀ W, Tch No w W -> Calls Tryz.prog 166 #[v, .int .i64 r.id] W fun e w' => e = .returned (.int .i64 (atI (·.id) s.ms r.id)) /\ Tch No W w') := fun W T => smessage_any s r.id v W (h.keep T)
 have HFI : Hid (∀ W, Tch No w W -> Calls Tryz.prog 171 #[v, .int .i64 (r.puts.length : Nat)] W fun e w' => e = .returned (.bool (fitsB s r.puts.length)) /\ Tch No W w') := fun W T => sfits_any s hm _ hu v W (h.keep T)
 have HHO := Lib.hid (fun W => khome_any r.tid hor.tid W)
 have HMK := Lib.hid (fun W => kmake_any s.broker (s.tx + 1) ⟨by have := hm.br; omega, by have := hm.br; omega⟩ ⟨by have := hm.tx; omega, by have := hm.tx; omega⟩ W)
 obtain ⟨am, cm, aw, cw, ae, ce, ao, co, an, cn, nm, nw, ne, no, nn, hval, HMSL, HNM, hlnm, HWSL, HNW, hlnw, HESL, HNE, hlne, HOSL, HNO, hlno, HNSL, HNN, hlnn⟩ := st_pre h
 have HWA : Hid (∀ W, Tch No w W -> Calls Tryz.prog 167 #[.slice aw nw cw, .int .i64 r.tid] W fun e w' => e = .returned (.tuple #[.int .i64 (posP (·.tid) s.waits r.tid : Nat), .bool (hasP (·.tid) s.waits r.tid)]) /\ Tch No W w') := fun W T => waits_any s.waits hm.waits2 (by have := hm.lw; omega) r.tid _ W (HWSL.out.keep T)
 have HPO : Hid (∀ W, Tch No w W -> Calls Tryz.prog 168 #[.slice ao no co, .int .i64 r.tid] W fun e w' => e = .returned (.tuple #[.int .i64 (posP (·.tid) s.opens r.tid : Nat), .bool (hasP (·.tid) s.opens r.tid)]) /\ Tch No W w') := fun W T => pends_any s.opens hm.opens2 (by have := hm.lo; omega) r.tid _ W (HOSL.out.keep T)
 have HPN : Hid (∀ W, Tch No w W -> Calls Tryz.prog 168 #[.slice an nn cn, .int .i64 r.tid] W fun e w' => e = .returned (.tuple #[.int .i64 (posP (·.tid) s.noes r.tid : Nat), .bool (hasP (·.tid) s.noes r.tid)]) /\ Tch No W w') := fun W T => pends_any s.noes hm.noes2 (by have := hm.ln; omega) r.tid _ W (HNSL.out.keep T)
 have HSN := Lib.hid hm.noes2
 obtain ⟨ap, cp, au, cu, rfl, hrp, hru⟩ := hr.shape
 have HCO : Hid (∀ W, Tch No w W -> Calls Tryz.prog 169 #[.slice ap r.parts.length cp, .int .i64 s.broker] W fun e w' => e = .returned (.bool (r.parts.contains s.broker)) /\ Tch No W w') := fun W T => (contains_any r.parts s.broker _ W (hrp.keep T)).mono (by rintro e w' ⟨rfl, rfl⟩; exact ⟨rfl, Tch.refl _ _⟩)
 have HK := Lib.hid hk
 have HREC := Lib.hid hrec
 have HRP := Lib.hid hrp
 have HP1 : Hid (r.kind = 9 -> r.parts.length = 1) := fun h9 => by
  have h := hrec
  unfold recB at h
  simp only [Bool.and_eq_true] at h
  have h2 := h.2
  rw [h9] at h2
  simp at h2
  exact h2.1
 have hpn : r.parts.length <= 9223372036854775807 := by
  obtain ⟨_, c, _, h1, h2⟩ := CellsAt.shape hrp
  unfold maxLen at h2; omega
 rw [hk]
 obtain ⟨np, hnp⟩ : ∃ n, r.parts.length = n := ⟨_, rfl⟩
 obtain ⟨nu, hnu⟩ : ∃ n, r.puts.length = n := ⟨_, rfl⟩
 have HNPP := Lib.hid hnp
 have HNU := Lib.hid hnu
 rw [hnp] at HCO hpn ⊢
 rw [hnu] at HFI hu ⊢
 have HRP2 : Hid (IsInts w (.slice ap np cp) r.parts) := by have h := HRP.out; rw [hnp] at h; exact h
 obtain ⟨htx1, htx2⟩ := hm.tx
 subst hval
 obtain ⟨rd, hrd⟩ : ∃ b, hasP (fun x : BrM => x.tid) s.waits r.tid = b := ⟨_, rfl⟩
 obtain ⟨op, hop⟩ : ∃ b, hasP (fun x : PendM => x.tid) s.opens r.tid = b := ⟨_, rfl⟩
 obtain ⟨hmh, hhm⟩ : ∃ x, homeM r.tid = x := ⟨_, rfl⟩
 obtain ⟨ow, how⟩ : ∃ b, (hmh == s.broker) = b := ⟨_, rfl⟩
 obtain ⟨hs, hhs⟩ : ∃ b, r.parts.contains s.broker = b := ⟨_, rfl⟩
 obtain ⟨mk, hmk⟩ : ∃ x, makeM s.broker (s.tx + 1) = x := ⟨_, rfl⟩
 obtain ⟨fi, hfi0⟩ : ∃ b, fitsB s nu = b := ⟨_, rfl⟩
 have HFB := Lib.hid hfi0
 have HRD := Lib.hid hrd
 have HOP := Lib.hid hop
 have HMB := Lib.hid hmk
 have HMEM : Hid (s.broker ∈ r.parts ↔ hs = true) := by rw [Hid, <- hhs, List.contains_iff_mem]
 have HOW : Hid (decide (homeM r.tid = s.broker) = ow) := by rw [Hid, hhm, <- how]; rfl
 rw [hrd] at HWA
 rw [hop] at HPO
 rw [hhm] at HHO
 rw [hhs] at HCO
 rw [hmk] at HMK
 rw [hfi0] at HFI
 generalize posP (fun x : BrM => x.tid) s.waits r.tid = pw at HWA
 generalize posP (fun x : PendM => x.tid) s.opens r.tid = po at HPO
 clear h hr hrec hk hor hok hrp hru hm hnp hnu hrd hop hhm hhs hmk HRP hfi0
 have HRP := HRP2
 clear HRP2
 go_enter Tryz.func59, Tryz.ntmps59
 go_upto_region 1 with fail
 refine wp_world (fun w' => Hid (Tch No w w') /\ Hid (BoxAt w' w.heap.size [.int .i64 s.broker, .int .i64 s.nid, .int .i64 s.nseq, .int .i64 s.tx, .slice am nm cm, .slice aw nw cw, .slice ae ne ce, .slice ao no co, .slice an nn cn]) /\ Hid (BoxAt w' (w.heap.size + 1) [.int .i64 kd, .int .i64 r.tid, .int .i64 r.id, .bool r.yes, .slice ap np cp, .slice au nu cu])) ⟨(Tch.alloc _ _).trans0 (Tch.alloc _ _), box2a _ _ _ _ _, box2b _ _ _ _ _⟩ ?_
 rintro w1 ⟨TT, HB, HB2⟩
 refine wp_world (fun w' => ∃ p : TchW w1, w' = p.wo) ⟨⟨w1, Tch.refl _ _⟩, rfl⟩ ?_
 rintro _ ⟨p0, rfl⟩
 obtain ⟨c0, c1, c2, c3, c4, c5, c6, c7, c8⟩ := kb9 HB.out
 obtain ⟨g0, g1, g2, g3, g4, g5⟩ := kb6 HB2.out
 have h19 : kd = 1 ∨ kd = 2 ∨ kd = 3 ∨ kd = 4 ∨ kd = 5 ∨ kd = 6 ∨ kd = 7 ∨ kd = 8 ∨ kd = 9 := by omega
 clear hkk
 rcases h19 with rfl | rfl | rfl | rfl | rfl | rfl | rfl | rfl | rfl
 ·
  go_upto_region 3 with (first
   | (go_at_call 167; with_reducible refine cz HWA.out TT fun q' => ?_)
   | (go_at_call 168; with_reducible refine cz HPO.out TT fun q' => ?_)
   | (go_at_call 169; refine cz HCO.out TT fun q' => ?_))
  refine wp_world (fun w' => Hid (Tch No w w') /\ Hid (BoxAt w' w.heap.size [.int .i64 s.broker, .int .i64 s.nid, .int .i64 s.nseq, .int .i64 s.tx, .slice am nm cm, .slice aw nw cw, .slice ae ne ce, .slice ao no co, .slice an nn cn]) /\ Hid (BoxAt w' (w.heap.size + 1) [.int .i64 1, .int .i64 r.tid, .int .i64 r.id, .bool r.yes, .slice ap np cp, .slice au nu cu])) ⟨TT.out.trans0 (TchW.t _), HB.out.keep (TchW.t _), HB2.out.keep (TchW.t _)⟩ ?_
  clear TT HB HB2 c0 c1 c2 c3 c4 c5 c6 c7 c8 g0 g1 g2 g3 g4 g5
  rintro w3 ⟨TT, HB, HB2⟩
  obtain ⟨c0, c1, c2, c3, c4, c5, c6, c7, c8⟩ := kb9 HB.out
  obtain ⟨g0, g1, g2, g3, g4, g5⟩ := kb6 HB2.out
  have HHO3 : Hid (∀ p : TchW w3, Calls Tryz.prog 170 #[.int .i64 r.tid] p.wo fun e w' => e = .returned (.int .i64 hmh) /\ p.wo = w') := fun p => HHO.out _
  refine wp_region_qt (by kernel_rfl) (by kernel_rfl) ?_
  repeat (go_big_quiet_step ((go_at_call 170; exact qt_s (HHO3.out _))))
  with_reducible refine wpQuiet_nil ?_
  rintro _ ⟨pq, rfl⟩
  clear HHO3
  have hw1 : IntKind.i64.wrap (s.tx + 1) = s.tx + 1 := IntWalk.i64_in _ (by omega)
  go_upto_region 7 with fail
  refine wp_world (fun w' => Hid (Tch No w w') /\ Hid (BoxAt w' w.heap.size [.int .i64 s.broker, .int .i64 s.nid, .int .i64 s.nseq, .int .i64 s.tx, .slice am nm cm, .slice aw nw cw, .slice ae ne ce, .slice ao no co, .slice an nn cn]) /\ Hid (BoxAt w' (w.heap.size + 1) [.int .i64 1, .int .i64 r.tid, .int .i64 r.id, .bool r.yes, .slice ap np cp, .slice au nu cu])) ⟨TT.out.trans0 (TchW.t _), HB.out.keep (TchW.t _), HB2.out.keep (TchW.t _)⟩ ?_
  clear TT HB HB2 c0 c1 c2 c3 c4 c5 c6 c7 c8 g0 g1 g2 g3 g4 g5
  rintro w7 ⟨TT, HB, HB2⟩
  obtain ⟨c0, c1, c2, c3, c4, c5, c6, c7, c8⟩ := kb9 HB.out
  obtain ⟨g0, g1, g2, g3, g4, g5⟩ := kb6 HB2.out
  have HMK7 : Hid (∀ p : TchW w7, Calls Tryz.prog 98 #[.int .i64 s.broker, .int .i64 (s.tx + 1)] p.wo fun e w' => e = .returned (.int .i64 mk) /\ p.wo = w') := fun p => HMK.out _
  by_cases l1 : r.tid = mk
  case neg =>
   have d1 : (r.tid == mk) = false := by simpa using l1
   have d2 : (r.tid != mk) = true := by simpa using l1
   have L1 := Lib.hid l1
   clear l1
   refine wp_region_qt (by kernel_rfl) (by kernel_rfl) ?_
   repeat (go_big_quiet_step ((go_at_call 98; exact qt_s (HMK7.out _))))
   with_reducible refine wpQuiet_nil ?_
   rintro _ ⟨pq, rfl⟩
   have HN : Hid (otherM s r = 12) := by rw [Hid, otherM]; simp [HK.out, HRD.out, HOP.out, HOW.out, HMB.out, eq_false L1.out]
   go_wp2_with (first
    | (go_at_call 167; with_reducible refine cz HWA.out TT fun q' => ?_)
    | (go_at_call 168; with_reducible refine cz HPO.out TT fun q' => ?_)
    | (go_at_call 169; refine cz HCO.out TT fun q' => ?_))
   go_ret
   exact ⟨ret_e HN.out, TT.out.trans0 (TchW.t _)⟩
  have d1 : (r.tid == mk) = true := by simpa using l1
  have d2 : (r.tid != mk) = false := by simpa using l1
  have L1 := Lib.hid l1
  clear l1
  refine wp_region_qt (by kernel_rfl) (by kernel_rfl) ?_
  repeat (go_big_quiet_step ((go_at_call 98; exact qt_s (HMK7.out _))))
  with_reducible refine wpQuiet_nil ?_
  rintro _ ⟨pq, rfl⟩
  have HN : Hid (otherM s r = 0) := by rw [Hid, otherM]; simp [HK.out, HRD.out, HOP.out, HOW.out, HMB.out, eq_true L1.out]
  go_wp2_with (first
   | (go_at_call 167; with_reducible refine cz HWA.out TT fun q' => ?_)
   | (go_at_call 168; with_reducible refine cz HPO.out TT fun q' => ?_)
   | (go_at_call 169; refine cz HCO.out TT fun q' => ?_))
  go_ret
  exact ⟨ret_e HN.out, TT.out.trans0 (TchW.t _)⟩
 ·
  go_upto_region 3 with (first
   | (go_at_call 167; with_reducible refine cz HWA.out TT fun q' => ?_)
   | (go_at_call 168; with_reducible refine cz HPO.out TT fun q' => ?_)
   | (go_at_call 169; refine cz HCO.out TT fun q' => ?_))
  refine wp_world (fun w' => Hid (Tch No w w') /\ Hid (BoxAt w' w.heap.size [.int .i64 s.broker, .int .i64 s.nid, .int .i64 s.nseq, .int .i64 s.tx, .slice am nm cm, .slice aw nw cw, .slice ae ne ce, .slice ao no co, .slice an nn cn]) /\ Hid (BoxAt w' (w.heap.size + 1) [.int .i64 2, .int .i64 r.tid, .int .i64 r.id, .bool r.yes, .slice ap np cp, .slice au nu cu])) ⟨TT.out.trans0 (TchW.t _), HB.out.keep (TchW.t _), HB2.out.keep (TchW.t _)⟩ ?_
  clear TT HB HB2 c0 c1 c2 c3 c4 c5 c6 c7 c8 g0 g1 g2 g3 g4 g5
  rintro w3 ⟨TT, HB, HB2⟩
  obtain ⟨c0, c1, c2, c3, c4, c5, c6, c7, c8⟩ := kb9 HB.out
  obtain ⟨g0, g1, g2, g3, g4, g5⟩ := kb6 HB2.out
  have HHO3 : Hid (∀ p : TchW w3, Calls Tryz.prog 170 #[.int .i64 r.tid] p.wo fun e w' => e = .returned (.int .i64 hmh) /\ p.wo = w') := fun p => HHO.out _
  refine wp_region_qt (by kernel_rfl) (by kernel_rfl) ?_
  repeat (go_big_quiet_step ((go_at_call 170; exact qt_s (HHO3.out _))))
  with_reducible refine wpQuiet_nil ?_
  rintro _ ⟨pq, rfl⟩
  clear HHO3
  have HN : Hid (otherM s r = 0) := by rw [Hid, otherM]; simp [HK.out, HRD.out, HOP.out, HOW.out]
  go_wp2_with (first
   | (go_at_call 167; with_reducible refine cz HWA.out TT fun q' => ?_)
   | (go_at_call 168; with_reducible refine cz HPO.out TT fun q' => ?_)
   | (go_at_call 169; refine cz HCO.out TT fun q' => ?_))
  go_ret
  exact ⟨ret_e HN.out, TT.out.trans0 (TchW.t _)⟩
 ·
  go_upto_region 3 with (first
   | (go_at_call 167; with_reducible refine cz HWA.out TT fun q' => ?_)
   | (go_at_call 168; with_reducible refine cz HPO.out TT fun q' => ?_)
   | (go_at_call 169; refine cz HCO.out TT fun q' => ?_))
  refine wp_world (fun w' => Hid (Tch No w w') /\ Hid (BoxAt w' w.heap.size [.int .i64 s.broker, .int .i64 s.nid, .int .i64 s.nseq, .int .i64 s.tx, .slice am nm cm, .slice aw nw cw, .slice ae ne ce, .slice ao no co, .slice an nn cn]) /\ Hid (BoxAt w' (w.heap.size + 1) [.int .i64 3, .int .i64 r.tid, .int .i64 r.id, .bool r.yes, .slice ap np cp, .slice au nu cu])) ⟨TT.out.trans0 (TchW.t _), HB.out.keep (TchW.t _), HB2.out.keep (TchW.t _)⟩ ?_
  clear TT HB HB2 c0 c1 c2 c3 c4 c5 c6 c7 c8 g0 g1 g2 g3 g4 g5
  rintro w3 ⟨TT, HB, HB2⟩
  obtain ⟨c0, c1, c2, c3, c4, c5, c6, c7, c8⟩ := kb9 HB.out
  obtain ⟨g0, g1, g2, g3, g4, g5⟩ := kb6 HB2.out
  have HHO3 : Hid (∀ p : TchW w3, Calls Tryz.prog 170 #[.int .i64 r.tid] p.wo fun e w' => e = .returned (.int .i64 hmh) /\ p.wo = w') := fun p => HHO.out _
  refine wp_region_qt (by kernel_rfl) (by kernel_rfl) ?_
  repeat (go_big_quiet_step ((go_at_call 170; exact qt_s (HHO3.out _))))
  with_reducible refine wpQuiet_nil ?_
  rintro _ ⟨pq, rfl⟩
  clear HHO3
  cases rd with
  | true =>
   have HN : Hid (otherM s r = 12) := by rw [Hid, otherM]; simp [HK.out, HRD.out, HOP.out, HOW.out]
   go_wp2_with (first
    | (go_at_call 167; with_reducible refine cz HWA.out TT fun q' => ?_)
    | (go_at_call 168; with_reducible refine cz HPO.out TT fun q' => ?_)
    | (go_at_call 169; refine cz HCO.out TT fun q' => ?_))
   go_ret
   exact ⟨ret_e HN.out, TT.out.trans0 (TchW.t _)⟩
  | false =>
  cases op with
  | true =>
   have HN : Hid (otherM s r = 12) := by rw [Hid, otherM]; simp [HK.out, HRD.out, HOP.out, HOW.out]
   go_wp2_with (first
    | (go_at_call 167; with_reducible refine cz HWA.out TT fun q' => ?_)
    | (go_at_call 168; with_reducible refine cz HPO.out TT fun q' => ?_)
    | (go_at_call 169; refine cz HCO.out TT fun q' => ?_))
   go_ret
   exact ⟨ret_e HN.out, TT.out.trans0 (TchW.t _)⟩
  | false =>
  have HN : Hid (otherM s r = 0) := by rw [Hid, otherM]; simp [HK.out, HRD.out, HOP.out, HOW.out]
  go_wp2_with (first
   | (go_at_call 167; with_reducible refine cz HWA.out TT fun q' => ?_)
   | (go_at_call 168; with_reducible refine cz HPO.out TT fun q' => ?_)
   | (go_at_call 169; refine cz HCO.out TT fun q' => ?_))
  go_ret
  exact ⟨ret_e HN.out, TT.out.trans0 (TchW.t _)⟩
 ·
  go_upto_region 3 with (first
   | (go_at_call 167; with_reducible refine cz HWA.out TT fun q' => ?_)
   | (go_at_call 168; with_reducible refine cz HPO.out TT fun q' => ?_)
   | (go_at_call 169; refine cz HCO.out TT fun q' => ?_))
  refine wp_world (fun w' => Hid (Tch No w w') /\ Hid (BoxAt w' w.heap.size [.int .i64 s.broker, .int .i64 s.nid, .int .i64 s.nseq, .int .i64 s.tx, .slice am nm cm, .slice aw nw cw, .slice ae ne ce, .slice ao no co, .slice an nn cn]) /\ Hid (BoxAt w' (w.heap.size + 1) [.int .i64 4, .int .i64 r.tid, .int .i64 r.id, .bool r.yes, .slice ap np cp, .slice au nu cu])) ⟨TT.out.trans0 (TchW.t _), HB.out.keep (TchW.t _), HB2.out.keep (TchW.t _)⟩ ?_
  clear TT HB HB2 c0 c1 c2 c3 c4 c5 c6 c7 c8 g0 g1 g2 g3 g4 g5
  rintro w3 ⟨TT, HB, HB2⟩
  obtain ⟨c0, c1, c2, c3, c4, c5, c6, c7, c8⟩ := kb9 HB.out
  obtain ⟨g0, g1, g2, g3, g4, g5⟩ := kb6 HB2.out
  have HHO3 : Hid (∀ p : TchW w3, Calls Tryz.prog 170 #[.int .i64 r.tid] p.wo fun e w' => e = .returned (.int .i64 hmh) /\ p.wo = w') := fun p => HHO.out _
  refine wp_region_qt (by kernel_rfl) (by kernel_rfl) ?_
  repeat (go_big_quiet_step ((go_at_call 170; exact qt_s (HHO3.out _))))
  with_reducible refine wpQuiet_nil ?_
  rintro _ ⟨pq, rfl⟩
  clear HHO3
  cases rd with
  | true =>
   have HN : Hid (otherM s r = 12) := by rw [Hid, otherM]; simp [HK.out, HRD.out, HOP.out, HOW.out]
   go_wp2_with (first
    | (go_at_call 167; with_reducible refine cz HWA.out TT fun q' => ?_)
    | (go_at_call 168; with_reducible refine cz HPO.out TT fun q' => ?_)
    | (go_at_call 169; refine cz HCO.out TT fun q' => ?_))
   go_ret
   exact ⟨ret_e HN.out, TT.out.trans0 (TchW.t _)⟩
  | false =>
  cases ow with
  | true =>
   have HN : Hid (otherM s r = 12) := by rw [Hid, otherM]; simp [HK.out, HRD.out, HOP.out, HOW.out]
   go_wp2_with (first
    | (go_at_call 167; with_reducible refine cz HWA.out TT fun q' => ?_)
    | (go_at_call 168; with_reducible refine cz HPO.out TT fun q' => ?_)
    | (go_at_call 169; refine cz HCO.out TT fun q' => ?_))
   go_ret
   exact ⟨ret_e HN.out, TT.out.trans0 (TchW.t _)⟩
  | false =>
  have HN : Hid (otherM s r = 0) := by rw [Hid, otherM]; simp [HK.out, HRD.out, HOP.out, HOW.out]
  go_wp2_with (first
   | (go_at_call 167; with_reducible refine cz HWA.out TT fun q' => ?_)
   | (go_at_call 168; with_reducible refine cz HPO.out TT fun q' => ?_)
   | (go_at_call 169; refine cz HCO.out TT fun q' => ?_))
  go_ret
  exact ⟨ret_e HN.out, TT.out.trans0 (TchW.t _)⟩
 ·
  go_upto_region 3 with (first
   | (go_at_call 167; with_reducible refine cz HWA.out TT fun q' => ?_)
   | (go_at_call 168; with_reducible refine cz HPO.out TT fun q' => ?_)
   | (go_at_call 169; refine cz HCO.out TT fun q' => ?_))
  refine wp_world (fun w' => Hid (Tch No w w') /\ Hid (BoxAt w' w.heap.size [.int .i64 s.broker, .int .i64 s.nid, .int .i64 s.nseq, .int .i64 s.tx, .slice am nm cm, .slice aw nw cw, .slice ae ne ce, .slice ao no co, .slice an nn cn]) /\ Hid (BoxAt w' (w.heap.size + 1) [.int .i64 5, .int .i64 r.tid, .int .i64 r.id, .bool r.yes, .slice ap np cp, .slice au nu cu])) ⟨TT.out.trans0 (TchW.t _), HB.out.keep (TchW.t _), HB2.out.keep (TchW.t _)⟩ ?_
  clear TT HB HB2 c0 c1 c2 c3 c4 c5 c6 c7 c8 g0 g1 g2 g3 g4 g5
  rintro w3 ⟨TT, HB, HB2⟩
  obtain ⟨c0, c1, c2, c3, c4, c5, c6, c7, c8⟩ := kb9 HB.out
  obtain ⟨g0, g1, g2, g3, g4, g5⟩ := kb6 HB2.out
  have HHO3 : Hid (∀ p : TchW w3, Calls Tryz.prog 170 #[.int .i64 r.tid] p.wo fun e w' => e = .returned (.int .i64 hmh) /\ p.wo = w') := fun p => HHO.out _
  refine wp_region_qt (by kernel_rfl) (by kernel_rfl) ?_
  repeat (go_big_quiet_step ((go_at_call 170; exact qt_s (HHO3.out _))))
  with_reducible refine wpQuiet_nil ?_
  rintro _ ⟨pq, rfl⟩
  clear HHO3
  have HN : Hid (otherM s r = 0) := by rw [Hid, otherM]; simp [HK.out, HRD.out, HOP.out, HOW.out]
  go_wp2_with (first
   | (go_at_call 167; with_reducible refine cz HWA.out TT fun q' => ?_)
   | (go_at_call 168; with_reducible refine cz HPO.out TT fun q' => ?_)
   | (go_at_call 169; refine cz HCO.out TT fun q' => ?_))
  go_ret
  exact ⟨ret_e HN.out, TT.out.trans0 (TchW.t _)⟩
 ·
  go_upto_region 3 with (first
   | (go_at_call 167; with_reducible refine cz HWA.out TT fun q' => ?_)
   | (go_at_call 168; with_reducible refine cz HPO.out TT fun q' => ?_)
   | (go_at_call 169; refine cz HCO.out TT fun q' => ?_))
  refine wp_world (fun w' => Hid (Tch No w w') /\ Hid (BoxAt w' w.heap.size [.int .i64 s.broker, .int .i64 s.nid, .int .i64 s.nseq, .int .i64 s.tx, .slice am nm cm, .slice aw nw cw, .slice ae ne ce, .slice ao no co, .slice an nn cn]) /\ Hid (BoxAt w' (w.heap.size + 1) [.int .i64 6, .int .i64 r.tid, .int .i64 r.id, .bool r.yes, .slice ap np cp, .slice au nu cu])) ⟨TT.out.trans0 (TchW.t _), HB.out.keep (TchW.t _), HB2.out.keep (TchW.t _)⟩ ?_
  clear TT HB HB2 c0 c1 c2 c3 c4 c5 c6 c7 c8 g0 g1 g2 g3 g4 g5
  rintro w3 ⟨TT, HB, HB2⟩
  obtain ⟨c0, c1, c2, c3, c4, c5, c6, c7, c8⟩ := kb9 HB.out
  obtain ⟨g0, g1, g2, g3, g4, g5⟩ := kb6 HB2.out
  have HHO3 : Hid (∀ p : TchW w3, Calls Tryz.prog 170 #[.int .i64 r.tid] p.wo fun e w' => e = .returned (.int .i64 hmh) /\ p.wo = w') := fun p => HHO.out _
  refine wp_region_qt (by kernel_rfl) (by kernel_rfl) ?_
  repeat (go_big_quiet_step ((go_at_call 170; exact qt_s (HHO3.out _))))
  with_reducible refine wpQuiet_nil ?_
  rintro _ ⟨pq, rfl⟩
  clear HHO3
  cases ow with
  | false =>
   have HN : Hid (otherM s r = 12) := by rw [Hid, otherM]; simp [HK.out, HRD.out, HOP.out, HOW.out]
   go_wp2_with (first
    | (go_at_call 167; with_reducible refine cz HWA.out TT fun q' => ?_)
    | (go_at_call 168; with_reducible refine cz HPO.out TT fun q' => ?_)
    | (go_at_call 169; refine cz HCO.out TT fun q' => ?_))
   go_ret
   exact ⟨ret_e HN.out, TT.out.trans0 (TchW.t _)⟩
  | true =>
  cases rd with
  | true =>
   have HN : Hid (otherM s r = 12) := by rw [Hid, otherM]; simp [HK.out, HRD.out, HOP.out, HOW.out]
   go_wp2_with (first
    | (go_at_call 167; with_reducible refine cz HWA.out TT fun q' => ?_)
    | (go_at_call 168; with_reducible refine cz HPO.out TT fun q' => ?_)
    | (go_at_call 169; refine cz HCO.out TT fun q' => ?_))
   go_ret
   exact ⟨ret_e HN.out, TT.out.trans0 (TchW.t _)⟩
  | false =>
  cases hs with
  | true =>
   have HN : Hid (otherM s r = 12) := by rw [Hid, otherM]; simp [HK.out, HRD.out, HOP.out, HOW.out, HMEM.out]
   go_wp2_with (first
    | (go_at_call 167; with_reducible refine cz HWA.out TT fun q' => ?_)
    | (go_at_call 168; with_reducible refine cz HPO.out TT fun q' => ?_)
    | (go_at_call 169; refine cz HCO.out TT fun q' => ?_))
   go_ret
   exact ⟨ret_e HN.out, TT.out.trans0 (TchW.t _)⟩
  | false =>
  cases op with
  | true =>
   have HN : Hid (otherM s r = 12) := by rw [Hid, otherM]; simp [HK.out, HRD.out, HOP.out, HOW.out, HMEM.out]
   go_wp2_with (first
    | (go_at_call 167; with_reducible refine cz HWA.out TT fun q' => ?_)
    | (go_at_call 168; with_reducible refine cz HPO.out TT fun q' => ?_)
    | (go_at_call 169; refine cz HCO.out TT fun q' => ?_))
   go_ret
   exact ⟨ret_e HN.out, TT.out.trans0 (TchW.t _)⟩
  | false =>
  have HN : Hid (otherM s r = 0) := by rw [Hid, otherM]; simp [HK.out, HRD.out, HOP.out, HOW.out, HMEM.out]
  go_wp2_with (first
   | (go_at_call 167; with_reducible refine cz HWA.out TT fun q' => ?_)
   | (go_at_call 168; with_reducible refine cz HPO.out TT fun q' => ?_)
   | (go_at_call 169; refine cz HCO.out TT fun q' => ?_))
  go_ret
  exact ⟨ret_e HN.out, TT.out.trans0 (TchW.t _)⟩
 ·
  go_upto_region 3 with (first
   | (go_at_call 167; with_reducible refine cz HWA.out TT fun q' => ?_)
   | (go_at_call 168; with_reducible refine cz HPO.out TT fun q' => ?_)
   | (go_at_call 169; refine cz HCO.out TT fun q' => ?_))
  refine wp_world (fun w' => Hid (Tch No w w') /\ Hid (BoxAt w' w.heap.size [.int .i64 s.broker, .int .i64 s.nid, .int .i64 s.nseq, .int .i64 s.tx, .slice am nm cm, .slice aw nw cw, .slice ae ne ce, .slice ao no co, .slice an nn cn]) /\ Hid (BoxAt w' (w.heap.size + 1) [.int .i64 7, .int .i64 r.tid, .int .i64 r.id, .bool r.yes, .slice ap np cp, .slice au nu cu])) ⟨TT.out.trans0 (TchW.t _), HB.out.keep (TchW.t _), HB2.out.keep (TchW.t _)⟩ ?_
  clear TT HB HB2 c0 c1 c2 c3 c4 c5 c6 c7 c8 g0 g1 g2 g3 g4 g5
  rintro w3 ⟨TT, HB, HB2⟩
  obtain ⟨c0, c1, c2, c3, c4, c5, c6, c7, c8⟩ := kb9 HB.out
  obtain ⟨g0, g1, g2, g3, g4, g5⟩ := kb6 HB2.out
  have HHO3 : Hid (∀ p : TchW w3, Calls Tryz.prog 170 #[.int .i64 r.tid] p.wo fun e w' => e = .returned (.int .i64 hmh) /\ p.wo = w') := fun p => HHO.out _
  refine wp_region_qt (by kernel_rfl) (by kernel_rfl) ?_
  repeat (go_big_quiet_step ((go_at_call 170; exact qt_s (HHO3.out _))))
  with_reducible refine wpQuiet_nil ?_
  rintro _ ⟨pq, rfl⟩
  clear HHO3
  cases ow with
  | false =>
   have HN : Hid (otherM s r = 12) := by rw [Hid, otherM]; simp [HK.out, HRD.out, HOP.out, HOW.out]
   go_wp2_with (first
    | (go_at_call 167; with_reducible refine cz HWA.out TT fun q' => ?_)
    | (go_at_call 168; with_reducible refine cz HPO.out TT fun q' => ?_)
    | (go_at_call 169; refine cz HCO.out TT fun q' => ?_))
   go_ret
   exact ⟨ret_e HN.out, TT.out.trans0 (TchW.t _)⟩
  | true =>
  cases rd with
  | true =>
   have HN : Hid (otherM s r = 12) := by rw [Hid, otherM]; simp [HK.out, HRD.out, HOP.out, HOW.out]
   go_wp2_with (first
    | (go_at_call 167; with_reducible refine cz HWA.out TT fun q' => ?_)
    | (go_at_call 168; with_reducible refine cz HPO.out TT fun q' => ?_)
    | (go_at_call 169; refine cz HCO.out TT fun q' => ?_))
   go_ret
   exact ⟨ret_e HN.out, TT.out.trans0 (TchW.t _)⟩
  | false =>
  cases hs with
  | true =>
   have HN : Hid (otherM s r = 12) := by rw [Hid, otherM]; simp [HK.out, HRD.out, HOP.out, HOW.out, HMEM.out]
   go_wp2_with (first
    | (go_at_call 167; with_reducible refine cz HWA.out TT fun q' => ?_)
    | (go_at_call 168; with_reducible refine cz HPO.out TT fun q' => ?_)
    | (go_at_call 169; refine cz HCO.out TT fun q' => ?_))
   go_ret
   exact ⟨ret_e HN.out, TT.out.trans0 (TchW.t _)⟩
  | false =>
  have HN : Hid (otherM s r = 0) := by rw [Hid, otherM]; simp [HK.out, HRD.out, HOP.out, HOW.out, HMEM.out]
  go_wp2_with (first
   | (go_at_call 167; with_reducible refine cz HWA.out TT fun q' => ?_)
   | (go_at_call 168; with_reducible refine cz HPO.out TT fun q' => ?_)
   | (go_at_call 169; refine cz HCO.out TT fun q' => ?_))
  go_ret
  exact ⟨ret_e HN.out, TT.out.trans0 (TchW.t _)⟩
 ·
  go_upto_region 3 with (first
   | (go_at_call 167; with_reducible refine cz HWA.out TT fun q' => ?_)
   | (go_at_call 168; with_reducible refine cz HPO.out TT fun q' => ?_)
   | (go_at_call 169; refine cz HCO.out TT fun q' => ?_))
  refine wp_world (fun w' => Hid (Tch No w w') /\ Hid (BoxAt w' w.heap.size [.int .i64 s.broker, .int .i64 s.nid, .int .i64 s.nseq, .int .i64 s.tx, .slice am nm cm, .slice aw nw cw, .slice ae ne ce, .slice ao no co, .slice an nn cn]) /\ Hid (BoxAt w' (w.heap.size + 1) [.int .i64 8, .int .i64 r.tid, .int .i64 r.id, .bool r.yes, .slice ap np cp, .slice au nu cu])) ⟨TT.out.trans0 (TchW.t _), HB.out.keep (TchW.t _), HB2.out.keep (TchW.t _)⟩ ?_
  clear TT HB HB2 c0 c1 c2 c3 c4 c5 c6 c7 c8 g0 g1 g2 g3 g4 g5
  rintro w3 ⟨TT, HB, HB2⟩
  obtain ⟨c0, c1, c2, c3, c4, c5, c6, c7, c8⟩ := kb9 HB.out
  obtain ⟨g0, g1, g2, g3, g4, g5⟩ := kb6 HB2.out
  have HHO3 : Hid (∀ p : TchW w3, Calls Tryz.prog 170 #[.int .i64 r.tid] p.wo fun e w' => e = .returned (.int .i64 hmh) /\ p.wo = w') := fun p => HHO.out _
  refine wp_region_qt (by kernel_rfl) (by kernel_rfl) ?_
  repeat (go_big_quiet_step ((go_at_call 170; exact qt_s (HHO3.out _))))
  with_reducible refine wpQuiet_nil ?_
  rintro _ ⟨pq, rfl⟩
  clear HHO3
  cases ow with
  | false =>
   have HN : Hid (otherM s r = 12) := by rw [Hid, otherM]; simp [HK.out, HRD.out, HOP.out, HOW.out]
   go_wp2_with (first
    | (go_at_call 167; with_reducible refine cz HWA.out TT fun q' => ?_)
    | (go_at_call 168; with_reducible refine cz HPO.out TT fun q' => ?_)
    | (go_at_call 169; refine cz HCO.out TT fun q' => ?_))
   go_ret
   exact ⟨ret_e HN.out, TT.out.trans0 (TchW.t _)⟩
  | true =>
  cases rd with
  | true =>
   have HN : Hid (otherM s r = 12) := by rw [Hid, otherM]; simp [HK.out, HRD.out, HOP.out, HOW.out]
   go_wp2_with (first
    | (go_at_call 167; with_reducible refine cz HWA.out TT fun q' => ?_)
    | (go_at_call 168; with_reducible refine cz HPO.out TT fun q' => ?_)
    | (go_at_call 169; refine cz HCO.out TT fun q' => ?_))
   go_ret
   exact ⟨ret_e HN.out, TT.out.trans0 (TchW.t _)⟩
  | false =>
  cases hs with
  | true =>
   have HN : Hid (otherM s r = 12) := by rw [Hid, otherM]; simp [HK.out, HRD.out, HOP.out, HOW.out, HMEM.out]
   go_wp2_with (first
    | (go_at_call 167; with_reducible refine cz HWA.out TT fun q' => ?_)
    | (go_at_call 168; with_reducible refine cz HPO.out TT fun q' => ?_)
    | (go_at_call 169; refine cz HCO.out TT fun q' => ?_))
   go_ret
   exact ⟨ret_e HN.out, TT.out.trans0 (TchW.t _)⟩
  | false =>
  have HN : Hid (otherM s r = 0) := by rw [Hid, otherM]; simp [HK.out, HRD.out, HOP.out, HOW.out, HMEM.out]
  go_wp2_with (first
   | (go_at_call 167; with_reducible refine cz HWA.out TT fun q' => ?_)
   | (go_at_call 168; with_reducible refine cz HPO.out TT fun q' => ?_)
   | (go_at_call 169; refine cz HCO.out TT fun q' => ?_))
  go_ret
  exact ⟨ret_e HN.out, TT.out.trans0 (TchW.t _)⟩
 ·
  go_upto_region 3 with (first
   | (go_at_call 167; with_reducible refine cz HWA.out TT fun q' => ?_)
   | (go_at_call 168; with_reducible refine cz HPO.out TT fun q' => ?_)
   | (go_at_call 169; refine cz HCO.out TT fun q' => ?_))
  refine wp_world (fun w' => Hid (Tch No w w') /\ Hid (BoxAt w' w.heap.size [.int .i64 s.broker, .int .i64 s.nid, .int .i64 s.nseq, .int .i64 s.tx, .slice am nm cm, .slice aw nw cw, .slice ae ne ce, .slice ao no co, .slice an nn cn]) /\ Hid (BoxAt w' (w.heap.size + 1) [.int .i64 9, .int .i64 r.tid, .int .i64 r.id, .bool r.yes, .slice ap np cp, .slice au nu cu])) ⟨TT.out.trans0 (TchW.t _), HB.out.keep (TchW.t _), HB2.out.keep (TchW.t _)⟩ ?_
  clear TT HB HB2 c0 c1 c2 c3 c4 c5 c6 c7 c8 g0 g1 g2 g3 g4 g5
  rintro w3 ⟨TT, HB, HB2⟩
  obtain ⟨c0, c1, c2, c3, c4, c5, c6, c7, c8⟩ := kb9 HB.out
  obtain ⟨g0, g1, g2, g3, g4, g5⟩ := kb6 HB2.out
  have HHO3 : Hid (∀ p : TchW w3, Calls Tryz.prog 170 #[.int .i64 r.tid] p.wo fun e w' => e = .returned (.int .i64 hmh) /\ p.wo = w') := fun p => HHO.out _
  refine wp_region_qt (by kernel_rfl) (by kernel_rfl) ?_
  repeat (go_big_quiet_step ((go_at_call 170; exact qt_s (HHO3.out _))))
  with_reducible refine wpQuiet_nil ?_
  rintro _ ⟨pq, rfl⟩
  clear HHO3
  have HN : Hid (otherM s r = 0) := by rw [Hid, otherM]; simp [HK.out, HRD.out, HOP.out, HOW.out]
  go_wp2_with (first
   | (go_at_call 167; with_reducible refine cz HWA.out TT fun q' => ?_)
   | (go_at_call 168; with_reducible refine cz HPO.out TT fun q' => ?_)
   | (go_at_call 169; refine cz HCO.out TT fun q' => ?_))
  go_ret
  exact ⟨ret_e HN.out, TT.out.trans0 (TchW.t _)⟩
theorem sbusy_all (s : StM) (hok : OkSt s) (hm : MayP s) (r : RecM) (hor : OkRec r) (hkk : 1 <= r.kind /\ r.kind <= 9) (hrec : recB r = true) (hu : r.puts.length <= 1000000) (hpre : r.kind = 2 -> hasP (fun x : MsgM => x.id) s.ms r.id = true) (v vr : Value) (w : World) (h : IsSt w v s) (hr : IsRec w vr r) :
  Calls Tryz.prog 60 #[v, vr] w fun e w' => e = .returned (.int .i64 (busyM s r : Nat)) /\ Tch No w w' := by
 obtain ⟨kd, hk⟩ : ∃ x, r.kind = x := ⟨_, rfl⟩
 rw [hk] at hkk
 have HME : Hid (∀ W, Tch No w W -> Calls Tryz.prog 166 #[v, .int .i64 r.id] W fun e w' => e = .returned (.int .i64 (atI (·.id) s.ms r.id)) /\ Tch No W w') := fun W T => smessage_any s r.id v W (h.keep T)
 have HFI : Hid (∀ W, Tch No w W -> Calls Tryz.prog 171 #[v, .int .i64 (r.puts.length : Nat)] W fun e w' => e = .returned (.bool (fitsB s r.puts.length)) /\ Tch No W w') := fun W T => sfits_any s hm _ hu v W (h.keep T)
 have HHO := Lib.hid (fun W => khome_any r.tid hor.tid W)
 have HMK := Lib.hid (fun W => kmake_any s.broker (s.tx + 1) ⟨by have := hm.br; omega, by have := hm.br; omega⟩ ⟨by have := hm.tx; omega, by have := hm.tx; omega⟩ W)
 obtain ⟨am, cm, aw, cw, ae, ce, ao, co, an, cn, nm, nw, ne, no, nn, hval, HMSL, HNM, hlnm, HWSL, HNW, hlnw, HESL, HNE, hlne, HOSL, HNO, hlno, HNSL, HNN, hlnn⟩ := st_pre h
 have HWA : Hid (∀ W, Tch No w W -> Calls Tryz.prog 167 #[.slice aw nw cw, .int .i64 r.tid] W fun e w' => e = .returned (.tuple #[.int .i64 (posP (·.tid) s.waits r.tid : Nat), .bool (hasP (·.tid) s.waits r.tid)]) /\ Tch No W w') := fun W T => waits_any s.waits hm.waits2 (by have := hm.lw; omega) r.tid _ W (HWSL.out.keep T)
 have HPO : Hid (∀ W, Tch No w W -> Calls Tryz.prog 168 #[.slice ao no co, .int .i64 r.tid] W fun e w' => e = .returned (.tuple #[.int .i64 (posP (·.tid) s.opens r.tid : Nat), .bool (hasP (·.tid) s.opens r.tid)]) /\ Tch No W w') := fun W T => pends_any s.opens hm.opens2 (by have := hm.lo; omega) r.tid _ W (HOSL.out.keep T)
 have HPN : Hid (∀ W, Tch No w W -> Calls Tryz.prog 168 #[.slice an nn cn, .int .i64 r.tid] W fun e w' => e = .returned (.tuple #[.int .i64 (posP (·.tid) s.noes r.tid : Nat), .bool (hasP (·.tid) s.noes r.tid)]) /\ Tch No W w') := fun W T => pends_any s.noes hm.noes2 (by have := hm.ln; omega) r.tid _ W (HNSL.out.keep T)
 have HSN := Lib.hid hm.noes2
 obtain ⟨ap, cp, au, cu, rfl, hrp, hru⟩ := hr.shape
 have HCO : Hid (∀ W, Tch No w W -> Calls Tryz.prog 169 #[.slice ap r.parts.length cp, .int .i64 s.broker] W fun e w' => e = .returned (.bool (r.parts.contains s.broker)) /\ Tch No W w') := fun W T => (contains_any r.parts s.broker _ W (hrp.keep T)).mono (by rintro e w' ⟨rfl, rfl⟩; exact ⟨rfl, Tch.refl _ _⟩)
 have HK := Lib.hid hk
 have HPRE := Lib.hid hpre
 have HREC := Lib.hid hrec
 have HRP := Lib.hid hrp
 have HP1 : Hid (r.kind = 9 -> r.parts.length = 1) := fun h9 => by
  have h := hrec
  unfold recB at h
  simp only [Bool.and_eq_true] at h
  have h2 := h.2
  rw [h9] at h2
  simp at h2
  exact h2.1
 have hpn : r.parts.length <= 9223372036854775807 := by
  obtain ⟨_, c, _, h1, h2⟩ := CellsAt.shape hrp
  unfold maxLen at h2; omega
 rw [hk]
 obtain ⟨np, hnp⟩ : ∃ n, r.parts.length = n := ⟨_, rfl⟩
 obtain ⟨nu, hnu⟩ : ∃ n, r.puts.length = n := ⟨_, rfl⟩
 have HNPP := Lib.hid hnp
 have HNU := Lib.hid hnu
 rw [hnp] at HCO hpn ⊢
 rw [hnu] at HFI hu ⊢
 have HRP2 : Hid (IsInts w (.slice ap np cp) r.parts) := by have h := HRP.out; rw [hnp] at h; exact h
 obtain ⟨htx1, htx2⟩ := hm.tx
 subst hval
 obtain ⟨rd, hrd⟩ : ∃ b, hasP (fun x : BrM => x.tid) s.waits r.tid = b := ⟨_, rfl⟩
 obtain ⟨op, hop⟩ : ∃ b, hasP (fun x : PendM => x.tid) s.opens r.tid = b := ⟨_, rfl⟩
 obtain ⟨hmh, hhm⟩ : ∃ x, homeM r.tid = x := ⟨_, rfl⟩
 obtain ⟨ow, how⟩ : ∃ b, (hmh == s.broker) = b := ⟨_, rfl⟩
 obtain ⟨hs, hhs⟩ : ∃ b, r.parts.contains s.broker = b := ⟨_, rfl⟩
 obtain ⟨mk, hmk⟩ : ∃ x, makeM s.broker (s.tx + 1) = x := ⟨_, rfl⟩
 obtain ⟨fi, hfi0⟩ : ∃ b, fitsB s nu = b := ⟨_, rfl⟩
 have HFB := Lib.hid hfi0
 have HRD := Lib.hid hrd
 have HOP := Lib.hid hop
 have HMB := Lib.hid hmk
 have HMEM : Hid (s.broker ∈ r.parts ↔ hs = true) := by rw [Hid, <- hhs, List.contains_iff_mem]
 have HOW : Hid (decide (homeM r.tid = s.broker) = ow) := by rw [Hid, hhm, <- how]; rfl
 rw [hrd] at HWA
 rw [hop] at HPO
 rw [hhm] at HHO
 rw [hhs] at HCO
 rw [hmk] at HMK
 rw [hfi0] at HFI
 generalize posP (fun x : BrM => x.tid) s.waits r.tid = pw at HWA
 generalize posP (fun x : PendM => x.tid) s.opens r.tid = po at HPO
 clear h hr hrec hk hor hok hrp hru hm hnp hnu hrd hop hhm hhs hmk HRP hfi0
 have HRP := HRP2
 clear HRP2
 go_enter Tryz.func60, Tryz.ntmps60
 go_upto_region 1 with fail
 refine wp_world (fun w' => Hid (Tch No w w') /\ Hid (BoxAt w' w.heap.size [.int .i64 s.broker, .int .i64 s.nid, .int .i64 s.nseq, .int .i64 s.tx, .slice am nm cm, .slice aw nw cw, .slice ae ne ce, .slice ao no co, .slice an nn cn]) /\ Hid (BoxAt w' (w.heap.size + 1) [.int .i64 kd, .int .i64 r.tid, .int .i64 r.id, .bool r.yes, .slice ap np cp, .slice au nu cu])) ⟨(Tch.alloc _ _).trans0 (Tch.alloc _ _), box2a _ _ _ _ _, box2b _ _ _ _ _⟩ ?_
 rintro w1 ⟨TT, HB, HB2⟩
 refine wp_world (fun w' => ∃ p : TchW w1, w' = p.wo) ⟨⟨w1, Tch.refl _ _⟩, rfl⟩ ?_
 rintro _ ⟨p0, rfl⟩
 obtain ⟨c0, c1, c2, c3, c4, c5, c6, c7, c8⟩ := kb9 HB.out
 obtain ⟨g0, g1, g2, g3, g4, g5⟩ := kb6 HB2.out
 have h19 : kd = 1 ∨ kd = 2 ∨ kd = 3 ∨ kd = 4 ∨ kd = 5 ∨ kd = 6 ∨ kd = 7 ∨ kd = 8 ∨ kd = 9 := by omega
 clear hkk
 rcases h19 with rfl | rfl | rfl | rfl | rfl | rfl | rfl | rfl | rfl
 ·
  have HN : Hid (busyM s r = 0) := by rw [Hid, busyM]; simp [HK.out]
  go_wp2_with (first
   | (go_at_call 166; with_reducible refine cz HME.out TT fun q' => ?_)
   | (go_at_call 167; with_reducible refine cz HWA.out TT fun q' => ?_)
   | (go_at_call 168; with_reducible refine cz HPO.out TT fun q' => ?_)
   | (go_at_call 169; refine cz HCO.out TT fun q' => ?_))
  go_ret
  exact ⟨ret_e HN.out, TT.out.trans0 (TchW.t _)⟩
 ·
  obtain ⟨k, hk, hat, hfi⟩ : ∃ k, ∃ h : k < s.ms.length, atI (·.id) s.ms r.id = (k : Int) /\ s.ms.find? (fun x => decide (x.id = r.id)) = some s.ms[k] := by
   rcases find_at (fun x : MsgM => x.id) s.ms r.id with ⟨hno, _, _⟩ | ⟨k, hk, _, hat, hfi⟩
   ·have := HPRE.out HK.out; rw [hno] at this; cases this
   ·exact ⟨k, hk, hat, hfi⟩
  have HFD := Lib.hid hfi
  rw [hat] at HME
  have hkn : k < nm := by have := HNM.out; omega
  have hb : ∃ b o, am = some ⟨b, o, none⟩ /\ w.cell? ⟨b, o + k * 6 + 5, none⟩ = some (.int .i64 s.ms[k].who) := by
   rcases msgs_cells HMSL.out with ⟨_, h0⟩ | ⟨b, o, cap2, h1, _, _, _, h5⟩
   ·rw [h0] at hk; simp at hk
   ·rw [HNM.out] at h1
    injection h1 with h1 _ _
    exact ⟨b, o, h1, (h5 k hk).2.2.2.2.2⟩
  obtain ⟨b, o, rfl, e5⟩ := hb
  obtain ⟨wh, hwh⟩ : ∃ x, s.ms[k].who = x := ⟨_, rfl⟩
  have HWH := Lib.hid hwh
  rw [hwh] at e5
  clear hat hfi hwh
  go_upto_region 5 with (first
   | (go_at_call 166; with_reducible refine cz HME.out TT fun q' => ?_)
   | (go_at_call 167; with_reducible refine cz HWA.out TT fun q' => ?_)
   | (go_at_call 168; with_reducible refine cz HPO.out TT fun q' => ?_)
   | (go_at_call 169; refine cz HCO.out TT fun q' => ?_))
  refine wp_world (fun w' => Hid (Tch No w w') /\ Hid (BoxAt w' w.heap.size [.int .i64 s.broker, .int .i64 s.nid, .int .i64 s.nseq, .int .i64 s.tx, .slice (some ⟨b, o, none⟩) nm cm, .slice aw nw cw, .slice ae ne ce, .slice ao no co, .slice an nn cn]) /\ Hid (BoxAt w' (w.heap.size + 1) [.int .i64 2, .int .i64 r.tid, .int .i64 r.id, .bool r.yes, .slice ap np cp, .slice au nu cu])) ⟨TT.out.trans0 (TchW.t _), HB.out.keep (TchW.t _), HB2.out.keep (TchW.t _)⟩ ?_
  clear TT HB HB2 c0 c1 c2 c3 c4 c5 c6 c7 c8 g0 g1 g2 g3 g4 g5
  rintro w5 ⟨TT, HB, HB2⟩
  obtain ⟨c0, c1, c2, c3, c4, c5, c6, c7, c8⟩ := kb9 HB.out
  obtain ⟨g0, g1, g2, g3, g4, g5⟩ := kb6 HB2.out
  have e5' := fun (p : TchW w5) => (TT.out.trans0 p.t).cell e5 (fun h => h)
  have HME5 : Hid (∀ p : TchW w5, Calls Tryz.prog 166 #[.agg #[.int .i64 s.broker, .int .i64 s.nid, .int .i64 s.nseq, .int .i64 s.tx, .slice (some ⟨b, o, none⟩) nm cm, .slice aw nw cw, .slice ae ne ce, .slice ao no co, .slice an nn cn], .int .i64 r.id] p.wo fun e w' => e = .returned (.int .i64 (k : Int)) /\ Tch No p.wo w') := fun p => HME.out _ (TT.out.trans0 p.t)
  clear e5
  refine wp_region_qt (by kernel_rfl) (by kernel_rfl) ?_
  repeat (go_big_quiet_step ((go_at_call 166; exact qt_t (HME5.out _))))
  with_reducible refine wpQuiet_nil ?_
  rintro _ ⟨pq, rfl⟩
  clear HME5
  have g1' := g1 pq
  by_cases l1 : wh = 0
  ·have d1 : (wh == 0) = true := by simpa using l1
   have d2 : (wh != 0) = false := by simpa using l1
   have L1 := Lib.hid l1
   clear l1
   cases rd with
   | true =>
    have HN : Hid (busyM s r = 8) := by rw [Hid, busyM]; simp [HK.out, HRD.out, HOP.out, HOW.out, HFD.out, HWH.out, L1.out]
    go_wp2_with (first
     | (go_at_call 166; with_reducible refine cz HME.out TT fun q' => ?_)
     | (go_at_call 167; with_reducible refine cz HWA.out TT fun q' => ?_)
     | (go_at_call 168; with_reducible refine cz HPO.out TT fun q' => ?_)
     | (go_at_call 169; refine cz HCO.out TT fun q' => ?_))
    go_ret
    exact ⟨ret_e HN.out, TT.out.trans0 (TchW.t _)⟩
   | false =>
   cases op with
   | true =>
    have HN : Hid (busyM s r = 8) := by rw [Hid, busyM]; simp [HK.out, HRD.out, HOP.out, HOW.out, HFD.out, HWH.out, L1.out]
    go_wp2_with (first
     | (go_at_call 166; with_reducible refine cz HME.out TT fun q' => ?_)
     | (go_at_call 167; with_reducible refine cz HWA.out TT fun q' => ?_)
     | (go_at_call 168; with_reducible refine cz HPO.out TT fun q' => ?_)
     | (go_at_call 169; refine cz HCO.out TT fun q' => ?_))
    go_ret
    exact ⟨ret_e HN.out, TT.out.trans0 (TchW.t _)⟩
   | false =>
    have HN : Hid (busyM s r = 0) := by rw [Hid, busyM]; simp [HK.out, HRD.out, HOP.out, HOW.out, HFD.out, HWH.out, L1.out]
    go_wp2_with (first
     | (go_at_call 166; with_reducible refine cz HME.out TT fun q' => ?_)
     | (go_at_call 167; with_reducible refine cz HWA.out TT fun q' => ?_)
     | (go_at_call 168; with_reducible refine cz HPO.out TT fun q' => ?_)
     | (go_at_call 169; refine cz HCO.out TT fun q' => ?_))
    go_ret
    exact ⟨ret_e HN.out, TT.out.trans0 (TchW.t _)⟩
  ·have d1 : (wh == 0) = false := by simpa using l1
   have d2 : (wh != 0) = true := by simpa using l1
   have L1 := Lib.hid l1
   clear l1
   by_cases l3 : wh = r.tid
   case neg =>
    have d3 : (wh == r.tid) = false := by simpa using l3
    have d4 : (wh != r.tid) = true := by simpa using l3
    have L3 := Lib.hid l3
    clear l3
    have HN : Hid (busyM s r = 8) := by rw [Hid, busyM]; simp [HK.out, HFD.out, HWH.out, L1.out, L3.out]
    go_wp2_with (first
     | (go_at_call 166; with_reducible refine cz HME.out TT fun q' => ?_)
     | (go_at_call 167; with_reducible refine cz HWA.out TT fun q' => ?_)
     | (go_at_call 168; with_reducible refine cz HPO.out TT fun q' => ?_)
     | (go_at_call 169; refine cz HCO.out TT fun q' => ?_))
    go_ret
    exact ⟨ret_e HN.out, TT.out.trans0 (TchW.t _)⟩
   have d3 : (wh == r.tid) = true := by simpa using l3
   have d4 : (wh != r.tid) = false := by simpa using l3
   have L3 := Lib.hid l3
   clear l3
   cases rd with
   | true =>
    have HN : Hid (busyM s r = 8) := by rw [Hid, busyM]; simp [HK.out, HRD.out, HOP.out, HOW.out, HFD.out, HWH.out, L1.out, eq_true L3.out]
    go_wp2_with (first
     | (go_at_call 166; with_reducible refine cz HME.out TT fun q' => ?_)
     | (go_at_call 167; with_reducible refine cz HWA.out TT fun q' => ?_)
     | (go_at_call 168; with_reducible refine cz HPO.out TT fun q' => ?_)
     | (go_at_call 169; refine cz HCO.out TT fun q' => ?_))
    go_ret
    exact ⟨ret_e HN.out, TT.out.trans0 (TchW.t _)⟩
   | false =>
   cases op with
   | true =>
    have HN : Hid (busyM s r = 8) := by rw [Hid, busyM]; simp [HK.out, HRD.out, HOP.out, HOW.out, HFD.out, HWH.out, L1.out, eq_true L3.out]
    go_wp2_with (first
     | (go_at_call 166; with_reducible refine cz HME.out TT fun q' => ?_)
     | (go_at_call 167; with_reducible refine cz HWA.out TT fun q' => ?_)
     | (go_at_call 168; with_reducible refine cz HPO.out TT fun q' => ?_)
     | (go_at_call 169; refine cz HCO.out TT fun q' => ?_))
    go_ret
    exact ⟨ret_e HN.out, TT.out.trans0 (TchW.t _)⟩
   | false =>
    have HN : Hid (busyM s r = 0) := by rw [Hid, busyM]; simp [HK.out, HRD.out, HOP.out, HOW.out, HFD.out, HWH.out, L1.out, eq_true L3.out]
    go_wp2_with (first
     | (go_at_call 166; with_reducible refine cz HME.out TT fun q' => ?_)
     | (go_at_call 167; with_reducible refine cz HWA.out TT fun q' => ?_)
     | (go_at_call 168; with_reducible refine cz HPO.out TT fun q' => ?_)
     | (go_at_call 169; refine cz HCO.out TT fun q' => ?_))
    go_ret
    exact ⟨ret_e HN.out, TT.out.trans0 (TchW.t _)⟩
 ·
  have HN : Hid (busyM s r = 0) := by rw [Hid, busyM]; simp [HK.out]
  go_wp2_with (first
   | (go_at_call 166; with_reducible refine cz HME.out TT fun q' => ?_)
   | (go_at_call 167; with_reducible refine cz HWA.out TT fun q' => ?_)
   | (go_at_call 168; with_reducible refine cz HPO.out TT fun q' => ?_)
   | (go_at_call 169; refine cz HCO.out TT fun q' => ?_))
  go_ret
  exact ⟨ret_e HN.out, TT.out.trans0 (TchW.t _)⟩
 ·
  have HN : Hid (busyM s r = 0) := by rw [Hid, busyM]; simp [HK.out]
  go_wp2_with (first
   | (go_at_call 166; with_reducible refine cz HME.out TT fun q' => ?_)
   | (go_at_call 167; with_reducible refine cz HWA.out TT fun q' => ?_)
   | (go_at_call 168; with_reducible refine cz HPO.out TT fun q' => ?_)
   | (go_at_call 169; refine cz HCO.out TT fun q' => ?_))
  go_ret
  exact ⟨ret_e HN.out, TT.out.trans0 (TchW.t _)⟩
 ·
  have HN : Hid (busyM s r = 0) := by rw [Hid, busyM]; simp [HK.out]
  go_wp2_with (first
   | (go_at_call 166; with_reducible refine cz HME.out TT fun q' => ?_)
   | (go_at_call 167; with_reducible refine cz HWA.out TT fun q' => ?_)
   | (go_at_call 168; with_reducible refine cz HPO.out TT fun q' => ?_)
   | (go_at_call 169; refine cz HCO.out TT fun q' => ?_))
  go_ret
  exact ⟨ret_e HN.out, TT.out.trans0 (TchW.t _)⟩
 ·
  have HN : Hid (busyM s r = 0) := by rw [Hid, busyM]; simp [HK.out]
  go_wp2_with (first
   | (go_at_call 166; with_reducible refine cz HME.out TT fun q' => ?_)
   | (go_at_call 167; with_reducible refine cz HWA.out TT fun q' => ?_)
   | (go_at_call 168; with_reducible refine cz HPO.out TT fun q' => ?_)
   | (go_at_call 169; refine cz HCO.out TT fun q' => ?_))
  go_ret
  exact ⟨ret_e HN.out, TT.out.trans0 (TchW.t _)⟩
 ·
  have HN : Hid (busyM s r = 0) := by rw [Hid, busyM]; simp [HK.out]
  go_wp2_with (first
   | (go_at_call 166; with_reducible refine cz HME.out TT fun q' => ?_)
   | (go_at_call 167; with_reducible refine cz HWA.out TT fun q' => ?_)
   | (go_at_call 168; with_reducible refine cz HPO.out TT fun q' => ?_)
   | (go_at_call 169; refine cz HCO.out TT fun q' => ?_))
  go_ret
  exact ⟨ret_e HN.out, TT.out.trans0 (TchW.t _)⟩
 ·
  have HN : Hid (busyM s r = 0) := by rw [Hid, busyM]; simp [HK.out]
  go_wp2_with (first
   | (go_at_call 166; with_reducible refine cz HME.out TT fun q' => ?_)
   | (go_at_call 167; with_reducible refine cz HWA.out TT fun q' => ?_)
   | (go_at_call 168; with_reducible refine cz HPO.out TT fun q' => ?_)
   | (go_at_call 169; refine cz HCO.out TT fun q' => ?_))
  go_ret
  exact ⟨ret_e HN.out, TT.out.trans0 (TchW.t _)⟩
 ·
  have HN : Hid (busyM s r = 0) := by rw [Hid, busyM]; simp [HK.out]
  go_wp2_with (first
   | (go_at_call 166; with_reducible refine cz HME.out TT fun q' => ?_)
   | (go_at_call 167; with_reducible refine cz HWA.out TT fun q' => ?_)
   | (go_at_call 168; with_reducible refine cz HPO.out TT fun q' => ?_)
   | (go_at_call 169; refine cz HCO.out TT fun q' => ?_))
  go_ret
  exact ⟨ret_e HN.out, TT.out.trans0 (TchW.t _)⟩
theorem sfull_all (s : StM) (hok : OkSt s) (hm : MayP s) (r : RecM) (hor : OkRec r) (hkk : 1 <= r.kind /\ r.kind <= 9) (hrec : recB r = true) (hu : r.puts.length <= 1000000) (v vr : Value) (w : World) (h : IsSt w v s) (hr : IsRec w vr r) :
  Calls Tryz.prog 61 #[v, vr] w fun e w' => e = .returned (.int .i64 (sfullM s r : Nat)) /\ Tch No w w' := by
 obtain ⟨kd, hk⟩ : ∃ x, r.kind = x := ⟨_, rfl⟩
 rw [hk] at hkk
 have HME : Hid (∀ W, Tch No w W -> Calls Tryz.prog 166 #[v, .int .i64 r.id] W fun e w' => e = .returned (.int .i64 (atI (·.id) s.ms r.id)) /\ Tch No W w') := fun W T => smessage_any s r.id v W (h.keep T)
 have HFI : Hid (∀ W, Tch No w W -> Calls Tryz.prog 171 #[v, .int .i64 (r.puts.length : Nat)] W fun e w' => e = .returned (.bool (fitsB s r.puts.length)) /\ Tch No W w') := fun W T => sfits_any s hm _ hu v W (h.keep T)
 have HHO := Lib.hid (fun W => khome_any r.tid hor.tid W)
 have HMK := Lib.hid (fun W => kmake_any s.broker (s.tx + 1) ⟨by have := hm.br; omega, by have := hm.br; omega⟩ ⟨by have := hm.tx; omega, by have := hm.tx; omega⟩ W)
 obtain ⟨am, cm, aw, cw, ae, ce, ao, co, an, cn, nm, nw, ne, no, nn, hval, HMSL, HNM, hlnm, HWSL, HNW, hlnw, HESL, HNE, hlne, HOSL, HNO, hlno, HNSL, HNN, hlnn⟩ := st_pre h
 have HWA : Hid (∀ W, Tch No w W -> Calls Tryz.prog 167 #[.slice aw nw cw, .int .i64 r.tid] W fun e w' => e = .returned (.tuple #[.int .i64 (posP (·.tid) s.waits r.tid : Nat), .bool (hasP (·.tid) s.waits r.tid)]) /\ Tch No W w') := fun W T => waits_any s.waits hm.waits2 (by have := hm.lw; omega) r.tid _ W (HWSL.out.keep T)
 have HPO : Hid (∀ W, Tch No w W -> Calls Tryz.prog 168 #[.slice ao no co, .int .i64 r.tid] W fun e w' => e = .returned (.tuple #[.int .i64 (posP (·.tid) s.opens r.tid : Nat), .bool (hasP (·.tid) s.opens r.tid)]) /\ Tch No W w') := fun W T => pends_any s.opens hm.opens2 (by have := hm.lo; omega) r.tid _ W (HOSL.out.keep T)
 have HPN : Hid (∀ W, Tch No w W -> Calls Tryz.prog 168 #[.slice an nn cn, .int .i64 r.tid] W fun e w' => e = .returned (.tuple #[.int .i64 (posP (·.tid) s.noes r.tid : Nat), .bool (hasP (·.tid) s.noes r.tid)]) /\ Tch No W w') := fun W T => pends_any s.noes hm.noes2 (by have := hm.ln; omega) r.tid _ W (HNSL.out.keep T)
 have HSN := Lib.hid hm.noes2
 obtain ⟨ap, cp, au, cu, rfl, hrp, hru⟩ := hr.shape
 have HCO : Hid (∀ W, Tch No w W -> Calls Tryz.prog 169 #[.slice ap r.parts.length cp, .int .i64 s.broker] W fun e w' => e = .returned (.bool (r.parts.contains s.broker)) /\ Tch No W w') := fun W T => (contains_any r.parts s.broker _ W (hrp.keep T)).mono (by rintro e w' ⟨rfl, rfl⟩; exact ⟨rfl, Tch.refl _ _⟩)
 have HK := Lib.hid hk
 have HREC := Lib.hid hrec
 have HRP := Lib.hid hrp
 have HP1 : Hid (r.kind = 9 -> r.parts.length = 1) := fun h9 => by
  have h := hrec
  unfold recB at h
  simp only [Bool.and_eq_true] at h
  have h2 := h.2
  rw [h9] at h2
  simp at h2
  exact h2.1
 have hpn : r.parts.length <= 9223372036854775807 := by
  obtain ⟨_, c, _, h1, h2⟩ := CellsAt.shape hrp
  unfold maxLen at h2; omega
 rw [hk]
 obtain ⟨np, hnp⟩ : ∃ n, r.parts.length = n := ⟨_, rfl⟩
 obtain ⟨nu, hnu⟩ : ∃ n, r.puts.length = n := ⟨_, rfl⟩
 have HNPP := Lib.hid hnp
 have HNU := Lib.hid hnu
 rw [hnp] at HCO hpn ⊢
 rw [hnu] at HFI hu ⊢
 have HRP2 : Hid (IsInts w (.slice ap np cp) r.parts) := by have h := HRP.out; rw [hnp] at h; exact h
 obtain ⟨htx1, htx2⟩ := hm.tx
 subst hval
 obtain ⟨rd, hrd⟩ : ∃ b, hasP (fun x : BrM => x.tid) s.waits r.tid = b := ⟨_, rfl⟩
 obtain ⟨op, hop⟩ : ∃ b, hasP (fun x : PendM => x.tid) s.opens r.tid = b := ⟨_, rfl⟩
 obtain ⟨hmh, hhm⟩ : ∃ x, homeM r.tid = x := ⟨_, rfl⟩
 obtain ⟨ow, how⟩ : ∃ b, (hmh == s.broker) = b := ⟨_, rfl⟩
 obtain ⟨hs, hhs⟩ : ∃ b, r.parts.contains s.broker = b := ⟨_, rfl⟩
 obtain ⟨mk, hmk⟩ : ∃ x, makeM s.broker (s.tx + 1) = x := ⟨_, rfl⟩
 obtain ⟨fi, hfi0⟩ : ∃ b, fitsB s nu = b := ⟨_, rfl⟩
 have HFB := Lib.hid hfi0
 have HRD := Lib.hid hrd
 have HOP := Lib.hid hop
 have HMB := Lib.hid hmk
 have HMEM : Hid (s.broker ∈ r.parts ↔ hs = true) := by rw [Hid, <- hhs, List.contains_iff_mem]
 have HOW : Hid (decide (homeM r.tid = s.broker) = ow) := by rw [Hid, hhm, <- how]; rfl
 rw [hrd] at HWA
 rw [hop] at HPO
 rw [hhm] at HHO
 rw [hhs] at HCO
 rw [hmk] at HMK
 rw [hfi0] at HFI
 generalize posP (fun x : BrM => x.tid) s.waits r.tid = pw at HWA
 generalize posP (fun x : PendM => x.tid) s.opens r.tid = po at HPO
 clear h hr hrec hk hor hok hrp hru hm hnp hnu hrd hop hhm hhs hmk HRP hfi0
 have HRP := HRP2
 clear HRP2
 go_enter Tryz.func61, Tryz.ntmps61
 go_upto_region 1 with fail
 refine wp_world (fun w' => Hid (Tch No w w') /\ Hid (BoxAt w' w.heap.size [.int .i64 s.broker, .int .i64 s.nid, .int .i64 s.nseq, .int .i64 s.tx, .slice am nm cm, .slice aw nw cw, .slice ae ne ce, .slice ao no co, .slice an nn cn]) /\ Hid (BoxAt w' (w.heap.size + 1) [.int .i64 kd, .int .i64 r.tid, .int .i64 r.id, .bool r.yes, .slice ap np cp, .slice au nu cu])) ⟨(Tch.alloc _ _).trans0 (Tch.alloc _ _), box2a _ _ _ _ _, box2b _ _ _ _ _⟩ ?_
 rintro w1 ⟨TT, HB, HB2⟩
 refine wp_world (fun w' => ∃ p : TchW w1, w' = p.wo) ⟨⟨w1, Tch.refl _ _⟩, rfl⟩ ?_
 rintro _ ⟨p0, rfl⟩
 obtain ⟨c0, c1, c2, c3, c4, c5, c6, c7, c8⟩ := kb9 HB.out
 obtain ⟨g0, g1, g2, g3, g4, g5⟩ := kb6 HB2.out
 have h19 : kd = 1 ∨ kd = 2 ∨ kd = 3 ∨ kd = 4 ∨ kd = 5 ∨ kd = 6 ∨ kd = 7 ∨ kd = 8 ∨ kd = 9 := by omega
 clear hkk
 rcases h19 with rfl | rfl | rfl | rfl | rfl | rfl | rfl | rfl | rfl
 ·
  by_cases l1 : 200 <= s.tx
  case pos =>
   have HN : Hid (sfullM s r = 5) := by rw [Hid, sfullM]; unfold fullM; simp [HK.out, HNE.out, HNW.out, HNO.out, HNN.out, HNU.out, HFB.out, l1]
   go_wp2_with (first
    | (go_at_call 171; with_reducible refine cz HFI.out TT fun q' => ?_)
    | (go_at_call 169; refine cz HCO.out TT fun q' => ?_))
   go_ret
   exact ⟨ret_e HN.out, TT.out.trans0 (TchW.t _)⟩
  have HN : Hid (sfullM s r = 0) := by rw [Hid, sfullM]; unfold fullM; simp [HK.out, HNE.out, HNW.out, HNO.out, HNN.out, HNU.out, HFB.out, l1]
  go_wp2_with (first
   | (go_at_call 171; with_reducible refine cz HFI.out TT fun q' => ?_)
   | (go_at_call 169; refine cz HCO.out TT fun q' => ?_))
  go_ret
  exact ⟨ret_e HN.out, TT.out.trans0 (TchW.t _)⟩
 ·
  have HN : Hid (sfullM s r = 0) := by rw [Hid, sfullM]; unfold fullM; simp [HK.out, HNE.out, HNW.out, HNO.out, HNN.out, HNU.out, HFB.out]
  go_wp2_with (first
   | (go_at_call 171; with_reducible refine cz HFI.out TT fun q' => ?_)
   | (go_at_call 169; refine cz HCO.out TT fun q' => ?_))
  go_ret
  exact ⟨ret_e HN.out, TT.out.trans0 (TchW.t _)⟩
 ·
  by_cases l1 : 2000 <= ne
  case pos =>
   have HN : Hid (sfullM s r = 5) := by rw [Hid, sfullM]; unfold fullM; simp [HK.out, HNE.out, HNW.out, HNO.out, HNN.out, HNU.out, HFB.out, l1]
   go_wp2_with (first
    | (go_at_call 171; with_reducible refine cz HFI.out TT fun q' => ?_)
    | (go_at_call 169; refine cz HCO.out TT fun q' => ?_))
   go_ret
   exact ⟨ret_e HN.out, TT.out.trans0 (TchW.t _)⟩
  have HN : Hid (sfullM s r = 0) := by rw [Hid, sfullM]; unfold fullM; simp [HK.out, HNE.out, HNW.out, HNO.out, HNN.out, HNU.out, HFB.out, l1]
  go_wp2_with (first
   | (go_at_call 171; with_reducible refine cz HFI.out TT fun q' => ?_)
   | (go_at_call 169; refine cz HCO.out TT fun q' => ?_))
  go_ret
  exact ⟨ret_e HN.out, TT.out.trans0 (TchW.t _)⟩
 ·
  by_cases l2 : 2000 <= nw
  case pos =>
   have HN : Hid (sfullM s r = 5) := by rw [Hid, sfullM]; unfold fullM; simp [HK.out, HNE.out, HNW.out, HNO.out, HNN.out, HNU.out, HFB.out, l2]
   go_wp2_with (first
    | (go_at_call 171; with_reducible refine cz HFI.out TT fun q' => ?_)
    | (go_at_call 169; refine cz HCO.out TT fun q' => ?_))
   go_ret
   exact ⟨ret_e HN.out, TT.out.trans0 (TchW.t _)⟩
  cases fi with
  | false =>
   have HN : Hid (sfullM s r = 5) := by rw [Hid, sfullM]; unfold fullM; simp [HK.out, HNE.out, HNW.out, HNO.out, HNN.out, HNU.out, HFB.out, l2]
   go_wp2_with (first
    | (go_at_call 171; with_reducible refine cz HFI.out TT fun q' => ?_)
    | (go_at_call 169; refine cz HCO.out TT fun q' => ?_))
   go_ret
   exact ⟨ret_e HN.out, TT.out.trans0 (TchW.t _)⟩
  | true =>
   have HN : Hid (sfullM s r = 0) := by rw [Hid, sfullM]; unfold fullM; simp [HK.out, HNE.out, HNW.out, HNO.out, HNN.out, HNU.out, HFB.out, l2]
   go_wp2_with (first
    | (go_at_call 171; with_reducible refine cz HFI.out TT fun q' => ?_)
    | (go_at_call 169; refine cz HCO.out TT fun q' => ?_))
   go_ret
   exact ⟨ret_e HN.out, TT.out.trans0 (TchW.t _)⟩
 ·
  by_cases l1 : 2000 <= ne
  case pos =>
   have HN : Hid (sfullM s r = 5) := by rw [Hid, sfullM]; unfold fullM; simp [HK.out, HNE.out, HNW.out, HNO.out, HNN.out, HNU.out, HFB.out, l1]
   go_wp2_with (first
    | (go_at_call 171; with_reducible refine cz HFI.out TT fun q' => ?_)
    | (go_at_call 169; refine cz HCO.out TT fun q' => ?_))
   go_ret
   exact ⟨ret_e HN.out, TT.out.trans0 (TchW.t _)⟩
  have HN : Hid (sfullM s r = 0) := by rw [Hid, sfullM]; unfold fullM; simp [HK.out, HNE.out, HNW.out, HNO.out, HNN.out, HNU.out, HFB.out, l1]
  go_wp2_with (first
   | (go_at_call 171; with_reducible refine cz HFI.out TT fun q' => ?_)
   | (go_at_call 169; refine cz HCO.out TT fun q' => ?_))
  go_ret
  exact ⟨ret_e HN.out, TT.out.trans0 (TchW.t _)⟩
 ·
  by_cases l2 : 2000 <= no
  case pos =>
   have HN : Hid (sfullM s r = 5) := by rw [Hid, sfullM]; unfold fullM; simp [HK.out, HNE.out, HNW.out, HNO.out, HNN.out, HNU.out, HFB.out, l2]
   go_wp2_with (first
    | (go_at_call 171; with_reducible refine cz HFI.out TT fun q' => ?_)
    | (go_at_call 169; refine cz HCO.out TT fun q' => ?_))
   go_ret
   exact ⟨ret_e HN.out, TT.out.trans0 (TchW.t _)⟩
  have HN : Hid (sfullM s r = 0) := by rw [Hid, sfullM]; unfold fullM; simp [HK.out, HNE.out, HNW.out, HNO.out, HNN.out, HNU.out, HFB.out, l2]
  go_wp2_with (first
   | (go_at_call 171; with_reducible refine cz HFI.out TT fun q' => ?_)
   | (go_at_call 169; refine cz HCO.out TT fun q' => ?_))
  go_ret
  exact ⟨ret_e HN.out, TT.out.trans0 (TchW.t _)⟩
 ·
  by_cases l1 : 2000 <= ne
  case pos =>
   have HN : Hid (sfullM s r = 5) := by rw [Hid, sfullM]; unfold fullM; simp [HK.out, HNE.out, HNW.out, HNO.out, HNN.out, HNU.out, HFB.out, l1]
   go_wp2_with (first
    | (go_at_call 171; with_reducible refine cz HFI.out TT fun q' => ?_)
    | (go_at_call 169; refine cz HCO.out TT fun q' => ?_))
   go_ret
   exact ⟨ret_e HN.out, TT.out.trans0 (TchW.t _)⟩
  cases fi with
  | false =>
   have HN : Hid (sfullM s r = 5) := by rw [Hid, sfullM]; unfold fullM; simp [HK.out, HNE.out, HNW.out, HNO.out, HNN.out, HNU.out, HFB.out, l1]
   go_wp2_with (first
    | (go_at_call 171; with_reducible refine cz HFI.out TT fun q' => ?_)
    | (go_at_call 169; refine cz HCO.out TT fun q' => ?_))
   go_ret
   exact ⟨ret_e HN.out, TT.out.trans0 (TchW.t _)⟩
  | true =>
   have HN : Hid (sfullM s r = 0) := by rw [Hid, sfullM]; unfold fullM; simp [HK.out, HNE.out, HNW.out, HNO.out, HNN.out, HNU.out, HFB.out, l1]
   go_wp2_with (first
    | (go_at_call 171; with_reducible refine cz HFI.out TT fun q' => ?_)
    | (go_at_call 169; refine cz HCO.out TT fun q' => ?_))
   go_ret
   exact ⟨ret_e HN.out, TT.out.trans0 (TchW.t _)⟩
 ·
  by_cases l1 : 2000 <= ne
  case pos =>
   have HN : Hid (sfullM s r = 5) := by rw [Hid, sfullM]; unfold fullM; simp [HK.out, HNE.out, HNW.out, HNO.out, HNN.out, HNU.out, HFB.out, l1]
   go_wp2_with (first
    | (go_at_call 171; with_reducible refine cz HFI.out TT fun q' => ?_)
    | (go_at_call 169; refine cz HCO.out TT fun q' => ?_))
   go_ret
   exact ⟨ret_e HN.out, TT.out.trans0 (TchW.t _)⟩
  by_cases l2 : np = 0
  case pos =>
   have l2' : r.parts = [] := List.eq_nil_of_length_eq_zero (by rw [HNPP.out]; exact l2)
   have L2 := Lib.hid l2'
   clear l2'
   have HN : Hid (sfullM s r = 0) := by rw [Hid, sfullM]; unfold fullM; simp [HK.out, HNE.out, HNW.out, HNO.out, HNN.out, HNU.out, HFB.out, l1, L2.out]
   go_wp2_with (first
    | (go_at_call 171; with_reducible refine cz HFI.out TT fun q' => ?_)
    | (go_at_call 169; refine cz HCO.out TT fun q' => ?_))
   go_ret
   exact ⟨ret_e HN.out, TT.out.trans0 (TchW.t _)⟩
  have l2' : r.parts ≠ [] := fun e => l2 (by rw [<- HNPP.out, e]; rfl)
  have L2 := Lib.hid l2'
  have l3 : 0 < np := by omega
  clear l2'
  by_cases l4 : 2000 <= nn
  case pos =>
   have HN : Hid (sfullM s r = 5) := by rw [Hid, sfullM]; unfold fullM; simp [HK.out, HNE.out, HNW.out, HNO.out, HNN.out, HNU.out, HFB.out, l1, L2.out, l4]
   go_wp2_with (first
    | (go_at_call 171; with_reducible refine cz HFI.out TT fun q' => ?_)
    | (go_at_call 169; refine cz HCO.out TT fun q' => ?_))
   go_ret
   exact ⟨ret_e HN.out, TT.out.trans0 (TchW.t _)⟩
  have HN : Hid (sfullM s r = 0) := by rw [Hid, sfullM]; unfold fullM; simp [HK.out, HNE.out, HNW.out, HNO.out, HNN.out, HNU.out, HFB.out, l1, L2.out, l4]
  go_wp2_with (first
   | (go_at_call 171; with_reducible refine cz HFI.out TT fun q' => ?_)
   | (go_at_call 169; refine cz HCO.out TT fun q' => ?_))
  go_ret
  exact ⟨ret_e HN.out, TT.out.trans0 (TchW.t _)⟩
 ·
  have HN : Hid (sfullM s r = 0) := by rw [Hid, sfullM]; unfold fullM; simp [HK.out, HNE.out, HNW.out, HNO.out, HNN.out, HNU.out, HFB.out]
  go_wp2_with (first
   | (go_at_call 171; with_reducible refine cz HFI.out TT fun q' => ?_)
   | (go_at_call 169; refine cz HCO.out TT fun q' => ?_))
  go_ret
  exact ⟨ret_e HN.out, TT.out.trans0 (TchW.t _)⟩
end
end Go.Proofs.YtafndmnbnmlklaaGreat
