/- Part 19 of what the proof of StoreIds rests on. No condition. -/
import Derived.StillTailTactics
import Derived.Test.YtafndmnbnmlklaaGreatPStoreIds09
import Derived.Test.YtafndmnbnmlklaaGreatPStoreIds15
import Derived.Test.YtafndmnbnmlklaaGreatPStoreIds16
import Derived.Test.YtafndmnbnmlklaaGreatPStoreIds17
import Derived.Test.YtafndmnbnmlklaaGreatPStoreIds18
namespace Go.Proofs.YtafndmnbnmlklaaGreat
set_option maxRecDepth 100000
set_option maxHeartbeats 60000000
set_option linter.unusedVariables false
set_option linter.unusedSimpArgs false
set_option linter.unusedSectionVars false
section
open Go.RowKit Go.Maps
theorem tid_lim {t : Int} (h : tidB t = true) : I64 t /\ 4294967296 < t /\ t < 38654705664 := by
 unfold tidB homeM at h
 have h := of_decide_eq_true h
 split at h
 ·rename_i c; unfold I64; omega
 ·omega
theorem home_lim {t b : Int} (h : homeM t = b) (hb : 1 <= b /\ b <= 8) : I64 t := by
 have := home_pos h hb.1
 unfold I64; omega
theorem okT_q {q : Txt} (h : queueB q = true) : OkT q := by
 unfold queueB at h
 simp only [Bool.and_eq_true, decide_eq_true_eq] at h
 unfold OkT lim; omega
theorem okT_b {q : Txt} (h : bodyB q = true) : OkT q := by
 unfold bodyB at h
 have h := of_decide_eq_true h
 unfold OkT lim; omega
theorem okPut_of {p : PutM} (h : putB p = true) : OkPut p := by
 unfold putB at h
 rw [Bool.and_eq_true] at h
 exact ⟨okT_q h.1, okT_b h.2⟩
theorem pend_lim {b : Int} {p : PendM} (h : PendP b p) (hb : 1 <= b /\ b <= 8) : I64 p.tid /\ ∀ x ∈ p.parts, I64 x := by
 refine ⟨home_lim h.home hb, fun x hx => ?_⟩
 have h1 := h.rising
 unfold risingB at h1
 rw [Bool.and_eq_true] at h1
 have h2 := List.all_eq_true.1 h1.1 x hx
 unfold brokerB at h2
 have h2 := of_decide_eq_true h2
 unfold I64; omega
theorem okst_may {s : StM} (h : MayP s) : OkSt s := by
 have hb := h.br
 have hn := h.nid
 have hq := h.nseq
 have ht := h.tx
 refine ⟨by unfold I64; omega, by unfold I64; omega, by unfold I64; omega, by unfold I64; omega, fun m hm => ?_, fun b hw => ?_, fun e he => (tid_lim (h.ends e he)).1, fun p hp => pend_lim (h.opens p hp).1 hb, fun p hp => pend_lim (h.noes p hp).1 hb⟩
 ·have k := h.ms m hm
  have k1 := k.seq
  have k2 := k.cnt
  refine ⟨home_lim k.home hb, okT_q k.q, okT_b k.b, by unfold I64; omega, by unfold I64; omega, ?_⟩
  rcases k.who with e | e
  ·rw [e]; unfold I64; omega
  ·exact (tid_lim e.1).1
 ·have k := h.waits b hw
  exact ⟨(tid_lim k.tid).1, fun p hp => okPut_of (List.all_eq_true.1 k.puts p hp)⟩
theorem may_apply {s : StM} {r : RecM} (h : MayP s) (hr : RoomP s 0) : MayP (applyM s r) /\ RoomP (applyM s r) 0 := by
 unfold applyM
 split
 ·rename_i c; exact may_do h hr c.2
 ·exact ⟨h, hr⟩
theorem may_new {b : Int} (hb : 1 <= b /\ b <= 8) : MayP (newM b) /\ RoomP (newM b) 0 /\ newM b = ⟨b, 1, 1, 0, [], [], [], [], []⟩ := by
 have e : newM b = ⟨b, 1, 1, 0, [], [], [], [], []⟩ := by unfold newM; rw [if_pos hb]
 rw [e]
 refine ⟨⟨hb, by simp, by simp, by simp, by simp, by simp, by simp, by simp, by simp, fun m hm => (by cases hm), rfl, by simp, fun m hm => (by cases hm), rfl, fun m hm => (by cases hm), rfl, fun m hm => (by cases hm), rfl, fun m hm => (by cases hm), rfl⟩, ⟨by simp [pendingM], by simp [pendingM], by simp [pendingM]⟩, rfl⟩
theorem argrs_shape {w : World} {v : Value} {l : List RecM} (h : ArgRs w v l) : ∃ a c, v = .slice a l.length c /\ l.length <= 9223372036854775807 := by
 obtain ⟨prs, h1, h2, h3⟩ := h
 obtain ⟨a, c, e, g1, g2⟩ := h2.shape
 have hl : prs.length = l.length := by rw [<- h1, List.length_map]
 rw [hl] at e g1
 unfold maxLen at g2
 exact ⟨a, c, e, by omega⟩
theorem argrs_elem {w : World} {a : Option Addr} {n c : Nat} {l : List RecM} (h : ArgRs w (.slice a n c) l) {i : Nat} (hi : i < l.length) : ∃ b o vp vu, a = some ⟨b, o, none⟩ /\ n = l.length /\ ArgRec w (.agg #[.int .i64 l[i].kind, .int .i64 l[i].tid, .int .i64 l[i].id, .bool l[i].yes, vp, vu]) l[i] /\
  ∀ W, Tch No w W -> W.cell? ⟨b, o + i * 6, none⟩ = some (.int .i64 l[i].kind) /\ W.cell? ⟨b, o + i * 6 + 1, none⟩ = some (.int .i64 l[i].tid) /\ W.cell? ⟨b, o + i * 6 + 2, none⟩ = some (.int .i64 l[i].id) /\ W.cell? ⟨b, o + i * 6 + 3, none⟩ = some (.bool l[i].yes) /\ W.cell? ⟨b, o + i * 6 + 4, none⟩ = some vp /\ W.cell? ⟨b, o + i * 6 + 5, none⟩ = some vu := by
 obtain ⟨prs, h1, h2, h3⟩ := h
 have hl : prs.length = l.length := by rw [<- h1, List.length_map]
 have hip : i < prs.length := by omega
 have hat := h2.at (by omega)
 obtain ⟨b, o, cap, e, g⟩ := CellsAt.elem (enc := encRp) (m := 6) (fun _ => rfl) hat hip
 injection e with e1 e2 e3
 have hpi : prs[i].1 = l[i] := by simp [<- h1]
 have hr := h3 prs[i] (List.getElem_mem hip)
 rw [hpi] at hr
 have g2 : ∀ j x, j < 6 -> (encRp prs[i])[j]? = some x -> ∀ W, Tch No w W -> W.cell? ⟨b, o + i * 6 + j, none⟩ = some x := fun j x hj hx W t => t.cell (by rw [Nat.add_assoc]; exact g j x hj hx) (fun h => h)
 refine ⟨b, o, prs[i].2.1, prs[i].2.2, e1, by omega, hr, fun W t => ?_⟩
 rw [<- hpi]
 exact ⟨g2 0 _ (by decide) rfl W t, g2 1 _ (by decide) rfl W t, g2 2 _ (by decide) rfl W t, g2 3 _ (by decide) rfl W t, g2 4 _ (by decide) rfl W t, g2 5 _ (by decide) rfl W t⟩
theorem y_ixRecord {ρ : Operand -> Value} {o : Oper} (x y : Operand) {b off n c k : Nat} (ho : o.op = .indexAddr 22 x y) (hx : ρ x = .slice (some ⟨b, off, none⟩) n c) (hy : ρ y = .int .i64 (k : Nat)) (hk : k < n) (W : World) : Runs Tryz.prog ρ o W (.pointer (some ⟨b, off + k * 6, none⟩)) W := by
 constructor
 have h1 : (k : Int) < (n : Int) := by omega
 unfold execOp
 simp only [ho, hx, hy]
 go_simp
theorem record_rw {w : World} {v : Value} {r : RecM} (h : ArgRec w v r) (n : Nat) : ∀ W, Tch No w W -> n <= W.heap.size -> Calls Tryz.prog 19 #[v] W fun e w' => ∃ v', e = .returned v' /\ RecW (Tch (fun k => k < n) w') v' (cutRec r) /\ Tch No W w' := fun W t hn =>
 (lrec_any r v W (h.keep t)).mono (by
  rintro e w' ⟨vp, vu, rfl, h2, h3, h4⟩
  refine ⟨_, rfl, ⟨vp, vu, rfl, fun X tx => ⟨?_, ?_⟩⟩, h2⟩
  ·exact CellsAt.ofRow (own_tch h3.1 tx (fun b hb e => by have := h3.2 b hb; omega))
  ·exact CellsAt.ofRow (own_tch h4.1 tx (fun b hb e => by have := h4.2 b hb; omega)))
theorem stb_rw {n : Nat} {r : RecM} : Stb (fun x W => RecW (Tch (fun k => k < n) W) x r) := fun x w w' t h => h.mono (fun X tx => t.no.trans tx (fun _ _ e => e))
theorem stb_stw {F : Nat -> Prop} {s : StM} : Stb (fun x W => StW (Tch F W) x s) := fun x w w' t h => h.mono (fun X tx => t.no.trans tx (fun _ _ e => e))
theorem SX.msAt {G : Nat -> Prop} {w : World} {b : Nat} {s : StM} (h : SX G b s w) {k : Nat} (hk : k < s.ms.length) : ∃ mb mo cm, w.cell? ⟨b, 4, none⟩ = some (.slice (some ⟨mb, mo, none⟩) s.ms.length cm) /\ w.cell? ⟨mb, mo + k * 6, none⟩ = some (.int .i64 s.ms[k].id) /\ w.cell? ⟨mb, mo + k * 6 + 1, none⟩ = some (strV s.ms[k].q) /\ w.cell? ⟨mb, mo + k * 6 + 2, none⟩ = some (strV s.ms[k].b) /\ w.cell? ⟨mb, mo + k * 6 + 3, none⟩ = some (.int .i64 s.ms[k].seq) /\ w.cell? ⟨mb, mo + k * 6 + 4, none⟩ = some (.int .i64 s.ms[k].cnt) /\ w.cell? ⟨mb, mo + k * 6 + 5, none⟩ = some (.int .i64 s.ms[k].who) := by
 obtain ⟨am, cm, aw, cw, ae, ce, ao, co, an, cn, h1, h2⟩ := h.cells
 obtain ⟨prb, pro, prn, _, _, _, hat⟩ := sx_stw h2
 obtain ⟨mb, mo, cm2, e, g⟩ := CellsAt.elem (enc := encMsg) (m := 6) (fun _ => rfl) (hat w (Tch.refl _ _)).ms hk
 injection e with e1 _ _
 subst e1
 have g2 : ∀ j x, j < 6 -> (encMsg s.ms[k])[j]? = some x -> w.cell? ⟨mb, mo + k * 6 + j, none⟩ = some x := fun j x hj hx => by rw [Nat.add_assoc]; exact g j x hj hx
 exact ⟨mb, mo, cm, (blk_cell h1 4).trans rfl, g2 0 _ (by decide) rfl, g2 1 _ (by decide) rfl, g2 2 _ (by decide) rfl, g2 3 _ (by decide) rfl, g2 4 _ (by decide) rfl, g2 5 _ (by decide) rfl⟩
end
section
open Go.RowKit Go.Maps
def Z9 : Array Value := #[.int .i64 0, .int .i64 0, .int .i64 0, .int .i64 0, .slice none 0 0, .slice none 0 0, .slice none 0 0, .slice none 0 0, .slice none 0 0]
def World.back (X : World) (b : Nat) (o : Obj) : World := { X with heap := X.heap.setIfInBounds b o }
theorem z9_mem {i : Nat} {x : Value} (h : Z9[i]? = some x) : x = .int .i64 0 ∨ x = .slice none 0 0 := by
 have hi : i < 9 := by
  have := (Array.getElem?_eq_some_iff.1 h).1
  simpa [Z9] using this
 have hii : i = 0 ∨ i = 1 ∨ i = 2 ∨ i = 3 ∨ i = 4 ∨ i = 5 ∨ i = 6 ∨ i = 7 ∨ i = 8 := by omega
 rcases hii with rfl | rfl | rfl | rfl | rfl | rfl | rfl | rfl | rfl <;> simp [Z9] at h <;> simp [<- h]
def OffZ (cs : List Value) : Prop := cs = [] ∨ ∃ (j : Nat) (x : Value), cs[j]? = some x /\ x ≠ .int .i64 0 /\ x ≠ .slice none 0 0
theorem cells_move {X X' : World} {v : Value} {n size b9 : Nat} {cs : List Value} {T : TypeId} {fr : Nat × Nat} (h : CellsAt X' v n size cs) (ho : OffZ cs) (hz : X'.heap[b9]? = some (.cells Z9 T fr)) (hs : X.heap.size = X'.heap.size) (hq : ∀ q, q ≠ b9 -> X.heap[q]? = X'.heap[q]?) : CellsAt X v n size cs := by
 refine ⟨h.1, ?_⟩
 rcases h.2 with h2 | ⟨b, o, cap, h2, h3, h4, h5, h6⟩
 ·exact .inl h2
 ·refine .inr ⟨b, o, cap, h2, h3, h4, by omega, fun j x hx => ?_⟩
  have hb : b ≠ b9 := fun e => by
   subst e
   rcases ho with e | ⟨j', x', e1, e2, e3⟩
   ·rw [e] at hx; simp at hx
   ·have g := h6 j' x' e1
    rw [blk_cell hz] at g
    rcases z9_mem g with e | e
    ·exact e2 e
    ·exact e3 e
  have g := h6 j x hx
  unfold World.cell? at g ⊢
  rw [hq b hb]
  exact g
theorem off_flat {α : Type} {enc : α -> List Value} {l : List α} (k : Nat) (h : ∀ x ∈ l, ∃ y, (enc x)[k]? = some y /\ y ≠ .int .i64 0 /\ y ≠ .slice none 0 0) : OffZ (l.flatMap enc) := by
 cases l with
 | nil => exact .inl rfl
 | cons a r =>
  obtain ⟨y, h1, h2, h3⟩ := h a List.mem_cons_self
  refine .inr ⟨k, y, ?_, h2, h3⟩
  have hk := (List.getElem?_eq_some_iff.1 h1).1
  rw [List.flatMap_cons, List.getElem?_append_left hk]
  exact h1
theorem tid_ne0 {t : Int} (h : tidB t = true) : Value.int .i64 t ≠ .int .i64 0 /\ Value.int .i64 t ≠ .slice none 0 0 := by
 have := tid_lim h
 refine ⟨fun e => ?_, fun e => by cases e⟩
 injection e with _ e
 omega
theorem parts_off {b : Int} {p : PendM} (h : PendP b p) : OffZ (p.parts.map (fun x => Value.int .i64 x)) := by
 cases hp : p.parts with
 | nil => exact .inl rfl
 | cons a r =>
  refine .inr ⟨0, .int .i64 a, rfl, fun e => ?_, fun e => by cases e⟩
  injection e with _ e
  have h1 := h.rising
  unfold risingB at h1
  rw [Bool.and_eq_true] at h1
  have h2 := List.all_eq_true.1 h1.1 a (by rw [hp]; exact List.mem_cons_self)
  unfold brokerB at h2
  have h2 := of_decide_eq_true h2
  omega
theorem home_tid {t b : Int} (h : homeM t = b) (hb : 1 <= b) : tidB t = true := by
 unfold tidB
 exact decide_eq_true (by omega)
theorem stw_apart {F : Nat -> Prop} {wf : World} {v : Value} {t : StM} {b9 : Nat} {T : TypeId} {fr : Nat × Nat} (hm : MayP t) (h : StW (Tch F wf) v t) (hz : wf.heap[b9]? = some (.cells Z9 T fr)) (hF : ¬ F b9) : StW (Tch (fun q => F q ∨ q = b9) wf) v t := by
 obtain ⟨vm, vw, ve, vo, vn, prb, pro, prn, e, h1, h2, h3, h4⟩ := h
 refine ⟨vm, vw, ve, vo, vn, prb, pro, prn, e, h1, h2, h3, fun X tx => ?_⟩
 have hlt := blk_lt hz
 obtain ⟨X', hX'⟩ : ∃ x, World.back X b9 (.cells Z9 T fr) = x := ⟨_, rfl⟩
 have hs : X.heap.size = X'.heap.size := by rw [<- hX']; simp [World.back]
 have hq : ∀ q, q ≠ b9 -> X.heap[q]? = X'.heap[q]? := fun q hq => by
  rw [<- hX']
  simp only [World.back]
  rw [Array.getElem?_setIfInBounds_ne (fun e => hq e.symm)]
 have hz' : X'.heap[b9]? = some (.cells Z9 T fr) := by
  rw [<- hX']
  simp only [World.back]
  rw [Array.getElem?_setIfInBounds, if_pos rfl, if_pos (Nat.lt_of_lt_of_le hlt tx.size)]
 have tx' : Tch F wf X' := by
  rw [<- hX']
  refine ⟨tx.os, tx.tape, tx.output, by simpa [World.back] using tx.size, fun k hk hn => ?_⟩
  by_cases e : k = b9
  ·subst e
   rw [hX', hz', hz]
  ·rw [hX', <- hq k e]
   exact tx.block k hk (fun e2 => e2.elim hn e)
 have g := h4 X' tx'
 have mv : ∀ {v n size cs}, CellsAt X' v n size cs -> OffZ cs -> CellsAt X v n size cs := fun h ho => cells_move h ho hz' hs hq
 have hb := hm.br
 refine ⟨mv g.ms (off_flat 1 (fun x _ => ⟨strV x.q, rfl, (fun e => by cases e), (fun e => by cases e)⟩)), mv g.cb (off_flat 0 (fun x hx => ?_)), fun p hp => mv (g.ib p hp) (off_flat 0 (fun x _ => ⟨strV x.q, rfl, (fun e => by cases e), (fun e => by cases e)⟩)), mv g.en (off_flat 1 (fun x _ => ⟨.bool x.yes, rfl, (fun e => by cases e), (fun e => by cases e)⟩)), mv g.co (off_flat 0 (fun x hx => ?_)), fun p hp => mv (g.io p hp) (parts_off (hm.opens p.1 (by rw [<- h2]; exact List.mem_map_of_mem hp)).1), mv g.cn (off_flat 0 (fun x hx => ?_)), fun p hp => mv (g.inn p hp) (parts_off (hm.noes p.1 (by rw [<- h3]; exact List.mem_map_of_mem hp)).1)⟩
 ·have hw := hm.waits x.1 (by rw [<- h1]; exact List.mem_map_of_mem hx)
  exact ⟨_, rfl, tid_ne0 hw.tid⟩
 ·have ho := hm.opens x.1 (by rw [<- h2]; exact List.mem_map_of_mem hx)
  exact ⟨_, rfl, tid_ne0 (home_tid ho.1.home hb.1)⟩
 ·have ho := hm.noes x.1 (by rw [<- h3]; exact List.mem_map_of_mem hx)
  exact ⟨_, rfl, tid_ne0 (home_tid ho.1.home hb.1)⟩
theorem y_alState {ρ : Operand -> Value} {o : Oper} (ho : o.op = .alloc 29) (W : World) : Runs Tryz.prog ρ o W (.pointer (some ⟨W.heap.size, 0, none⟩)) (W.alloc (.cells Z9 29 (0, 0))) := by
 constructor
 unfold execOp Z9
 simp only [ho]
 go_simp
end
section
open Go.RowKit Go.Maps
theorem find_pos {α : Type} {f : α -> Int} {l : List α} (hs : strictB (l.map f) = true) {t : Int} (h : hasP f l t = true) : ∃ hlt : posP f l t < l.length, l.find? (fun x => decide (f x = t)) = some l[posP f l t] := by
 obtain ⟨h1, h2⟩ := (hasP_pos hs t).1 h
 refine ⟨h1, ?_⟩
 rw [List.find?_eq_some_iff_getElem]
 refine ⟨by simpa using h2, posP f l t, h1, rfl, fun j hj => ?_⟩
 have := strictB_get hs (i := j) (j := posP f l t) hj (by simpa using h1)
 simp only [List.getElem_map] at this
 simp
 omega
theorem sapply5 (s : StM) (r : RecM) (hk : r.kind = 5) (ok : AplOk s r) (hf : hasP (·.tid) s.ends r.tid = false) (hin : hasP (·.tid) s.waits r.tid = true) (G : Nat -> Prop) (v vr : Value) (WE : World) (h0 : StW (Tch G WE) v s) (hr0 : RecW (Tch G WE) vr r) :
  Calls Tryz.prog 68 #[v, vr] WE (AplPost G WE (doM s r)) := by
 obtain ⟨w, hwe⟩ : ∃ x, x = WE := ⟨_, rfl⟩
 have te : Tch No w WE := by rw [hwe]; exact Tch.refl _ _
 have HWE := Lib.hid hwe
 obtain ⟨vm, vw, ve, vo, vn, prb, pro, prn, rfl, hmb, hmo, hmn, hst⟩ := h0
 have g0 := hst w (by rw [hwe]; exact Tch.refl _ _)
 have hm := g0.ms
 have hw := brs_pairs.2 ⟨prb, hmb, g0.cb, g0.ib⟩
 have he := g0.en
 have ho := pends_pairs.2 ⟨pro, hmo, g0.co, g0.io⟩
 have hno := pends_pairs.2 ⟨prn, hmn, g0.cn, g0.inn⟩
 obtain ⟨ma, mc, rfl, _, _⟩ := CellsAt.shape hm
 obtain ⟨wa, wk, rfl, _, _⟩ := hw.shape
 obtain ⟨ea, ec, rfl, _, _⟩ := CellsAt.shape he
 obtain ⟨oa, oc, rfl, _, _⟩ := ho.shape
 obtain ⟨na, nc, rfl, _, _⟩ := hno.shape
 obtain ⟨vp, vu, rfl, hpu⟩ := hr0
 obtain ⟨hp, hu⟩ := hpu w (by rw [hwe]; exact Tch.refl _ _)
 obtain ⟨qa, qc, rfl, _, _⟩ := CellsAt.shape hp
 obtain ⟨ua, uc, rfl, _, _⟩ := CellsAt.shape hu
 have OK := Lib.hid ok
 have HM := Lib.hid hm
 have HW := Lib.hid hw
 have HE := Lib.hid he
 have HO := Lib.hid ho
 have HNO := Lib.hid hno
 have HP := Lib.hid hp
 have HU := Lib.hid hu
 have TE := Lib.hid te
 have HST := Lib.hid hst
 have HG0 := Lib.hid g0
 have HMB0 := Lib.hid hmb
 have HMO0 := Lib.hid hmo
 have HMN0 := Lib.hid hmn
 have HPU0 := Lib.hid hpu
 have HSZW : Hid (w.heap.size = WE.heap.size) := by rw [Hid, hwe]
 clear hst g0 hmb hmo hmn hpu hwe
 obtain ⟨brk, nid, nseq, tx, ms, waits, ends, opens, noes⟩ := s
 obtain ⟨kd, tid, rid, yes, parts, puts⟩ := r
 simp only at hk HM HW HE HO HNO HP HU HMB0 HMO0 HMN0 HPU0 hf hin ⊢
 subst hk
 clear hm hw he ho hno hp hu ok
 obtain ⟨bs, hbs⟩ : ∃ x, WE.heap.size = x := ⟨_, rfl⟩
 obtain ⟨bq, hbq⟩ : ∃ x, (WE.alloc (.cells #[.int .i64 brk, .int .i64 nid, .int .i64 nseq, .int .i64 tx, .slice ma ms.length mc, .slice wa waits.length wk, .slice ea ends.length ec, .slice oa opens.length oc, .slice na noes.length nc] 29)).heap.size = x := ⟨_, rfl⟩
 obtain ⟨w1, hw1⟩ : ∃ x, ((WE.alloc (.cells #[.int .i64 brk, .int .i64 nid, .int .i64 nseq, .int .i64 tx, .slice ma ms.length mc, .slice wa waits.length wk, .slice ea ends.length ec, .slice oa opens.length oc, .slice na noes.length nc] 29)).alloc (.cells #[.int .i64 5, .int .i64 tid, .int .i64 rid, .bool yes, .slice qa parts.length qc, .slice ua puts.length uc] 34)).alloc (.cells #[.int .i64 0, .int .i64 0, .int .i64 0, .int .i64 0, .slice none 0 0, .slice none 0 0, .slice none 0 0, .slice none 0 0, .slice none 0 0] 29) = x := ⟨_, rfl⟩
 obtain ⟨bz, hbz⟩ : ∃ x, x = bq + 1 := ⟨_, rfl⟩
 have HB1 : Hid (w1.heap[bs]? = some (.cells #[.int .i64 brk, .int .i64 nid, .int .i64 nseq, .int .i64 tx, .slice ma ms.length mc, .slice wa waits.length wk, .slice ea ends.length ec, .slice oa opens.length oc, .slice na noes.length nc] 29 (0, 0))) := by
  rw [Hid, <- hw1, <- hbs]
  exact blk_tch ((Tch.alloc _ _).trans0 (Tch.alloc _ _)) (blk_new WE _) (fun h => h)
 have HQ1 : Hid (w1.heap[bq]? = some (.cells #[.int .i64 5, .int .i64 tid, .int .i64 rid, .bool yes, .slice qa parts.length qc, .slice ua puts.length uc] 34 (0, 0))) := by
  rw [Hid, <- hw1, <- hbq]
  exact blk_tch (Tch.alloc _ _) (blk_new _ _) (fun h => h)
 have HZ1 : Hid (w1.heap[bz]? = some (.cells #[.int .i64 0, .int .i64 0, .int .i64 0, .int .i64 0, .slice none 0 0, .slice none 0 0, .slice none 0 0, .slice none 0 0, .slice none 0 0] 29 (0, 0))) := by
  rw [Hid, <- hw1, hbz, <- hbq]
  have := blk_new ((WE.alloc (.cells #[.int .i64 brk, .int .i64 nid, .int .i64 nseq, .int .i64 tx, .slice ma ms.length mc, .slice wa waits.length wk, .slice ea ends.length ec, .slice oa opens.length oc, .slice na noes.length nc] 29)).alloc (.cells #[.int .i64 5, .int .i64 tid, .int .i64 rid, .bool yes, .slice qa parts.length qc, .slice ua puts.length uc] 34)) (.cells #[.int .i64 0, .int .i64 0, .int .i64 0, .int .i64 0, .slice none 0 0, .slice none 0 0, .slice none 0 0, .slice none 0 0, .slice none 0 0] 29)
  have e : ((WE.alloc (.cells #[.int .i64 brk, .int .i64 nid, .int .i64 nseq, .int .i64 tx, .slice ma ms.length mc, .slice wa waits.length wk, .slice ea ends.length ec, .slice oa opens.length oc, .slice na noes.length nc] 29)).alloc (.cells #[.int .i64 5, .int .i64 tid, .int .i64 rid, .bool yes, .slice qa parts.length qc, .slice ua puts.length uc] 34)).heap.size = (WE.alloc (.cells #[.int .i64 brk, .int .i64 nid, .int .i64 nseq, .int .i64 tx, .slice ma ms.length mc, .slice wa waits.length wk, .slice ea ends.length ec, .slice oa opens.length oc, .slice na noes.length nc] 29)).heap.size + 1 := by simp
  rwa [e] at this
 have TV1 : Hid (Tch No WE w1) := by rw [Hid, <- hw1]; exact ((Tch.alloc _ _).trans0 (Tch.alloc _ _)).trans0 (Tch.alloc _ _)
 have TW1 : Hid (Tch No w w1) := te.trans0 TV1.out
 have HLT : Hid (w.heap.size <= bs /\ WE.heap.size = bs /\ bq = bs + 1 /\ bz = bs + 2 /\ w1.heap.size = bs + 3) := by
  have e1 : bq = bs + 1 := by rw [<- hbq, <- hbs]; simp
  refine ⟨by rw [<- hbs]; exact te.size, hbs, e1, by omega, ?_⟩
  rw [<- hw1, <- hbs]; simp
 have HBZ := Lib.hid hbz
 clear hbz
 obtain ⟨b0, b1, b2, b3, b4, b5, b6, b7, b8⟩ := kc9 HB1.out
 obtain ⟨c0, c1, c2, c3, c4, c5⟩ := kc6 HQ1.out
 obtain ⟨hlt0, hfind⟩ := find_pos OK.out.risew hin
 simp only at hlt0 hfind
 have hnW : waits.length <= 100000 := OK.out.nw
 have HWA := Lib.hid (waits_any waits OK.out.risew (by omega) tid (.slice wa waits.length wk) w1 (HW.out.keep TW1.out))
 have hmb := HMB0.out
 have hcb := HG0.out.cb
 have hib := HG0.out.ib
 have hlb : prb.length = waits.length := by rw [<- hmb, List.length_map]
 obtain ⟨k2, hk2⟩ : ∃ k, posP (fun x : BrM => x.tid) waits tid = k := ⟨_, rfl⟩
 rw [hk2] at HWA
 simp only [hk2] at hlt0 hfind
 have hbr : (prb[k2]'(by omega)).1 = waits[k2] := by
  have e : (prb.map Prod.fst)[k2]'(by rw [List.length_map]; omega) = waits[k2] := by simp only [hmb]
  rw [<- e, List.getElem_map]
 obtain ⟨pv, hpv⟩ : ∃ x, (prb[k2]'(by omega)).2 = x := ⟨_, rfl⟩
 have hpu : IsPuts w pv waits[k2].puts := by rw [<- hpv, <- hbr]; exact hib _ (List.getElem_mem _)
 obtain ⟨pl, hpl⟩ : ∃ x, waits[k2].puts = x := ⟨_, rfl⟩
 have hpln : pl.length <= 100000 := by rw [<- hpl]; exact OK.out.wputs _ (List.getElem_mem hlt0)
 rw [hpl] at hpu
 obtain ⟨pa, pc, rfl, _, _⟩ := CellsAt.shape hpu
 have HPU := Lib.hid hpu
 have HPW : Hid (∀ X, Tch G WE X -> IsPuts X (.slice pa pl.length pc) pl) := fun X t => by
  have h9 := (HST.out X t).ib _ (List.getElem_mem (show k2 < prb.length by omega))
  rw [hbr, hpv, hpl] at h9
  exact h9
 have hex : ∃ b o, wa = some ⟨b, o, none⟩ /\ w.cell? ⟨b, o + k2 * 2 + 1, none⟩ = some (.slice pa pl.length pc) := by
  have hcb' := hcb
  unfold IsL at hcb'
  rw [hlb] at hcb'
  rcases hcb'.2 with ⟨h1, h0⟩ | ⟨b, o, cap2, h1, _, _, _, h5⟩
  ·omega
  ·injection h1 with h1 _ _
   refine ⟨b, o, h1, ?_⟩
   have := h5 (k2 * 2 + 1) (.slice pa pl.length pc) (by
    rw [flat_get (encPr (fun q : BrM => q.tid)) 2 (fun _ => rfl) prb k2 1 (by omega) (by decide), <- hpv]; rfl)
   rwa [<- Nat.add_assoc] at this
 obtain ⟨b, o, rfl, hcell⟩ := hex
 have HCELL : Hid (∀ W, Tch No w W -> W.cell? ⟨b, o + k2 * 2 + 1, none⟩ = some (.slice pa pl.length pc)) := fun W t => t.cell hcell (fun h => h)
 have HFND : Hid (((waits.find? (fun w => decide (w.tid = tid))).map (·.puts)).getD [] = pl) := by rw [Hid, hfind]; exact hpl
 have HLT2 : Hid (k2 < waits.length) := hlt0
 have HEND := Lib.hid (fun W (tw : Tch No w W) => send_any (fun k => G k ∨ WE.heap.size <= k) ⟨brk, nid, nseq, tx, ms, waits, ends, opens, noes⟩ tid yes pl (OK.out.endOk hf pl hpln) (.agg #[.int .i64 brk, .int .i64 nid, .int .i64 nseq, .int .i64 tx, .slice ma ms.length mc, .slice (some ⟨b, o, none⟩) waits.length wk, .slice ea ends.length ec, .slice oa opens.length oc, .slice na noes.length nc]) (.slice pa pl.length pc) W ⟨_, _, _, _, _, prb, pro, prn, rfl, HMB0.out, HMO0.out, HMN0.out, fun X t => HST.out X (tch_we HWE.out tw t)⟩ (fun X t => HPW.out X (tch_we HWE.out tw t)))
 clear hf hin hmb hcb hib hlb hbr hpv hpu hpl hcell hfind hk2
 go_enter Tryz.func68, Tryz.ntmps68
 go_wp2_with fail
 clear hbs hbq hw1 te
 refine HWA.out.mono ?_
 rintro e w3 ⟨rfl, T3⟩
 have TT3 : Hid (Tch No w1 w3) := T3
 have TW3 : Hid (Tch No w w3) := TW1.out.trans0 T3
 have HB3 := Lib.hid (blk_tch T3 HB1.out (fun h => h))
 have HQ3 := Lib.hid (blk_tch T3 HQ1.out (fun h => h))
 have HZ3 := Lib.hid (blk_tch T3 HZ1.out (fun h => h))
 obtain ⟨d0, d1, d2, d3, d4, d5, d6, d7, d8⟩ := kc9 HB3.out
 have g1 : w3.cell? ⟨bq, 1, none⟩ = some (.int .i64 tid) := (blk_cell HQ3.out 1).trans rfl
 have g3 : w3.cell? ⟨bq, 3, none⟩ = some (.bool yes) := (blk_cell HQ3.out 3).trans rfl
 have e1 : w3.cell? ⟨b, o + k2 * 2 + 1, none⟩ = some (.slice pa pl.length pc) := HCELL.out _ TW3.out
 have hk2n : (k2 : Int) < (waits.length : Int) := by have := HLT2.out; omega
 have hk2m : k2 < waits.length := HLT2.out
 clear T3
 go_upto_region 14 with fail
 go_still_tail 11, (by kernel_rfl)
 change wpList _ _ _ _ _ (World.drew w3)
 have HBd : Hid ((World.drew w3).heap[bs]? = some (.cells #[.int .i64 brk, .int .i64 nid, .int .i64 nseq, .int .i64 tx, .slice ma ms.length mc, .slice (some ⟨b, o, none⟩) waits.length wk, .slice ea ends.length ec, .slice oa opens.length oc, .slice na noes.length nc] 29 (0, 0))) := HB3.out
 have HQd : Hid ((World.drew w3).heap[bq]? = some (.cells #[.int .i64 5, .int .i64 tid, .int .i64 rid, .bool yes, .slice qa parts.length qc, .slice ua puts.length uc] 34 (0, 0))) := HQ3.out
 have HZd : Hid ((World.drew w3).heap[bz]? = some (.cells #[.int .i64 0, .int .i64 0, .int .i64 0, .int .i64 0, .slice none 0 0, .slice none 0 0, .slice none 0 0, .slice none 0 0, .slice none 0 0] 29 (0, 0))) := HZ3.out
 go_wp2_with fail
 refine (HEND.out _ (TW3.out.trans0 (Tch.drew w3))).mono ?_
 rintro e w5 ⟨v', rfl, h5, hz, T5⟩
 obtain ⟨e0, e1, e2, e3, am, nm, cm, aw, nw, cw, ae, ne, ce, ao, no, co, rfl⟩ : ∃ e0 e1 e2 e3 am nm cm aw nw cw ae ne ce ao no co, v' = .agg #[.int .i64 e0, .int .i64 e1, .int .i64 e2, .int .i64 e3, .slice am nm cm, .slice aw nw cw, .slice ae ne ce, .slice ao no co, .slice na noes.length nc] := by
  obtain ⟨x0, x1, x2, x3, x4, x5, x6, x7, y0, y1, y2, y3, y4, y5, y6, y7, z, hz1, hz2⟩ := hz
  obtain ⟨am, cm, aw, cw, ae, ce, ao, co, an, cn, hv⟩ := (h5.is (Tch.refl _ _)).vals
  have hzn : z = .slice na noes.length nc := by
   injection hz1 with hz1; injection hz1 with hz1
   simp only [List.cons.injEq, and_true] at hz1
   exact hz1.2.2.2.2.2.2.2.2.symm
  have hzm := hz2.symm.trans hv
  injection hzm with hzm; injection hzm with hzm
  simp only [List.cons.injEq, and_true] at hzm
  rw [<- hzm.2.2.2.2.2.2.2.2, hzn] at hv
  exact ⟨_, _, _, _, am, _, cm, aw, _, cw, ae, _, ce, ao, _, co, hv⟩
 have H5 := Lib.hid h5
 have TT5 : Hid (Tch No (World.drew w3) w5) := T5
 clear h5 T5 hz
 have HB5 := Lib.hid (blk_tch TT5.out HBd.out (fun h => h))
 have HQ5 := Lib.hid (blk_tch TT5.out HQd.out (fun h => h))
 have HZ5 := Lib.hid (blk_tch TT5.out HZd.out (fun h => h))
 obtain ⟨w6, hw6, HB6, T6⟩ : ∃ W, (((((((((w5.setCell ⟨bs, 0, none⟩ (.int .i64 e0)).setCell ⟨bs, 1, none⟩ (.int .i64 e1)).setCell ⟨bs, 2, none⟩ (.int .i64 e2)).setCell ⟨bs, 3, none⟩ (.int .i64 e3)).setCell ⟨bs, 4, none⟩ (.slice am nm cm)).setCell ⟨bs, 5, none⟩ (.slice aw nw cw)).setCell ⟨bs, 6, none⟩ (.slice ae ne ce)).setCell ⟨bs, 7, none⟩ (.slice ao no co)).setCell ⟨bs, 8, none⟩ (.slice na noes.length nc)) = W /\ Hid (W.heap[bs]? = some (.cells #[.int .i64 e0, .int .i64 e1, .int .i64 e2, .int .i64 e3, .slice am nm cm, .slice aw nw cw, .slice ae ne ce, .slice ao no co, .slice na noes.length nc] 29 (0, 0))) /\ Hid (Tch (fun q => q = bs) w5 W) := by
  obtain ⟨g1, g2⟩ := set9e (W := w5) (b := bs) (T := 29) (.int .i64 e0) (.int .i64 e1) (.int .i64 e2) (.int .i64 e3) (.slice am nm cm) (.slice aw nw cw) (.slice ae ne ce) (.slice ao no co) (.slice na noes.length nc) HB5.out
  exact ⟨_, rfl, g1, g2⟩
 have HQ6 := Lib.hid (blk_tch T6.out HQ5.out (by have := HLT.out; show ¬ bq = bs; omega))
 have HZ6 := Lib.hid (blk_tch T6.out HZ5.out (by have := HLT.out; show ¬ bz = bs; omega))
 have z0 : w5.cell? ⟨bs, 0, none⟩ = some (.int .i64 brk) := (blk_cell HB5.out 0).trans rfl
 have zf0 := blk_free HB5.out 0
 have z1 : w5.cell? ⟨bs, 1, none⟩ = some (.int .i64 nid) := (blk_cell HB5.out 1).trans rfl
 have zf1 := blk_free HB5.out 1
 have z2 : w5.cell? ⟨bs, 2, none⟩ = some (.int .i64 nseq) := (blk_cell HB5.out 2).trans rfl
 have zf2 := blk_free HB5.out 2
 have z3 : w5.cell? ⟨bs, 3, none⟩ = some (.int .i64 tx) := (blk_cell HB5.out 3).trans rfl
 have zf3 := blk_free HB5.out 3
 have z4 : w5.cell? ⟨bs, 4, none⟩ = some (.slice ma ms.length mc) := (blk_cell HB5.out 4).trans rfl
 have zf4 := blk_free HB5.out 4
 have z5 : w5.cell? ⟨bs, 5, none⟩ = some (.slice (some ⟨b, o, none⟩) waits.length wk) := (blk_cell HB5.out 5).trans rfl
 have zf5 := blk_free HB5.out 5
 have z6 : w5.cell? ⟨bs, 6, none⟩ = some (.slice ea ends.length ec) := (blk_cell HB5.out 6).trans rfl
 have zf6 := blk_free HB5.out 6
 have z7 : w5.cell? ⟨bs, 7, none⟩ = some (.slice oa opens.length oc) := (blk_cell HB5.out 7).trans rfl
 have zf7 := blk_free HB5.out 7
 have z8 : w5.cell? ⟨bs, 8, none⟩ = some (.slice na noes.length nc) := (blk_cell HB5.out 8).trans rfl
 have zf8 := blk_free HB5.out 8
 have HBX := HB6
 have HZX := HZ6
 obtain ⟨wz, hwz, HRZ, TZ⟩ := kx9 (W := w6) (b := bz) (T := 29) (.int .i64 e0) (.int .i64 e1) (.int .i64 e2) (.int .i64 e3) (.slice am nm cm) (.slice aw nw cw) (.slice ae ne ce) (.slice ao no co) (.slice na noes.length nc) HZX.out
 rw [HBZ.out] at hwz
 obtain ⟨l0, l1, l2, l3, l4, l5, l6, l7, l8⟩ := kc9 HBX.out
 obtain ⟨r0, r1, r2, r3, r4, r5, r6, r7, r8⟩ := kc9 (W := w6) (b := bq + 1) (by rw [<- HBZ.out]; exact HZX.out)
 obtain ⟨fr0, fr1, fr2, fr3, fr4, fr5, fr6, fr7, fr8⟩ := kf9 (W := w6) (b := bq + 1) (by rw [<- HBZ.out]; exact HZX.out)
 go_wp2_with fail
 obtain ⟨q0, q1, q2, q3, q4, q5, q6, q7, q8⟩ := kc9 (W := wz) (b := bq + 1) (by rw [<- HBZ.out]; exact HRZ.out)
 refine bodyPost_ret (v := .agg #[.int .i64 e0, .int .i64 e1, .int .i64 e2, .int .i64 e3, .slice am nm cm, .slice aw nw cw, .slice ae ne ce, .slice ao no co, .slice na noes.length nc]) (by simp [results, Tryz.results68, go_sem, q0, q1, q2, q3, q4, q5, q6, q7, q8]) rfl ?_
 have glt := HLT.out
 have tX : Tch (fun q => q = bs) w1 w6 := (((TT3.out.trans0 (Tch.drew w3)).trans0 TT5.out).no).trans T6.out (fun _ _ h => h)
 have tz1 : Tch (fun q => q = bs ∨ q = bz) w1 wz := (tX.mono (G := fun q => q = bs ∨ q = bz) (fun _ _ h => .inl h)).trans (TZ.out.mono (G := fun q => q = bs ∨ q = bz) (fun _ _ h => .inr h)) (fun _ _ h => h)
 refine ⟨_, rfl, ?_, TV1.out.fresh tz1 (fun q h => by omega)⟩
 have hs3 : w1.heap.size <= w3.heap.size := TT3.out.size
 have t5w : ∀ W2, Tch (fun k => G k /\ k < WE.heap.size) wz W2 -> Tch (fun q => (G q ∨ WE.heap.size <= q) /\ q < w3.drew.heap.size) w5 W2 := fun W2 t2 => ((T6.out.mono (G := fun q => (G q ∨ WE.heap.size <= q) /\ q < w3.drew.heap.size) (fun q _ h => ⟨.inr (by omega), by show q < w3.heap.size; omega⟩)).trans (TZ.out.mono (G := fun q => (G q ∨ WE.heap.size <= q) /\ q < w3.drew.heap.size) (fun q _ h => ⟨.inr (by omega), by show q < w3.heap.size; omega⟩)) (fun _ _ h => h)).trans (t2.mono (G := fun q => (G q ∨ WE.heap.size <= q) /\ q < w3.drew.heap.size) (fun q _ h => ⟨.inl h.1, by show q < w3.heap.size; have := h.2; omega⟩)) (fun _ _ h => h)
 have e : doM ⟨brk, nid, nseq, tx, ms, waits, ends, opens, noes⟩ ⟨5, tid, rid, yes, parts, puts⟩ = endM ⟨brk, nid, nseq, tx, ms, waits, ends, opens, noes⟩ tid yes pl := by
  have := HFND.out
  simp [doM, this]
 rw [e]
 exact H5.out.mono t5w
end
end Go.Proofs.YtafndmnbnmlklaaGreat
