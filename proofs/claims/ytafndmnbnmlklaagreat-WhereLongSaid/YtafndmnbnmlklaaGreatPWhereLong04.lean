/- Part 4 of what the proof of WhereLong rests on. No condition. -/
import Derived.Test.YtafndmnbnmlklaaGreatPWhereLong01
import Derived.Test.YtafndmnbnmlklaaGreatPWhereLong02
import Derived.Test.YtafndmnbnmlklaaGreatPWhereLong03
namespace Go.Proofs.YtafndmnbnmlklaaGreat
set_option maxRecDepth 100000
set_option maxHeartbeats 60000000
set_option linter.unusedVariables false
set_option linter.unusedSimpArgs false
set_option linter.unusedSectionVars false
section
open Go.RowKit Go.Maps
theorem sx_sz (w : World) : (Go.sizeOf 29).run Tryz.prog w = .ok 9 w := by
 have h : (Tryz.prog.info? 29).map (·.size) = some 9 := by kernel_rfl
 rw [Option.map_eq_some_iff] at h
 obtain ⟨i, h1, h2⟩ := h
 simp [sizeOf, typeInfo, h1, h2]
theorem sx_ag (w : World) : (isAgg 29).run Tryz.prog w = .ok true w := by
 unfold isAgg
 rw [Sem.run_bind, run_underlying Tryz.underlying29 w]
 rfl
theorem sx_ld {ρ : Operand -> Value} {o : Oper} {x : Operand} {b : Nat} {A : Array Value} {fr : Nat × Nat} {w : World} (ho : o.op = .load 29 x) (hp : ρ x = .pointer (some ⟨b, 0, none⟩)) (h1 : A.size = 9) (h2 : w.heap[b]? = some (.cells A 29 fr)) :
  (execOp ρ o).run Tryz.prog w = .ok (.value (.agg A)) w := by
 have hl := run_loadCells_list (P := Tryz.prog) w ⟨b, 0, none⟩ A.toList (fun j x hx => by have h3 := blk_cell h2 j; have e : (⟨b, 0, none⟩ : Addr).add j = ⟨b, j, none⟩ := (by unfold Addr.add; split <;> simp_all); rw [e, h3]; simpa using hx)
 have hlen : A.toList.length = 9 := by simp [h1]
 rw [hlen] at hl
 unfold execOp
 rw [ho]
 simp [hp, Instr.loadAt, Instr.sureAddr, loadVar, Sem.run_bind, sx_ag, sx_sz, hl]
theorem sx_stv {ρ : Operand -> Value} {o : Oper} {x y : Operand} {b : Nat} {l : List Value} {w w' : World} (ho : o.op = .store 29 x y) (hp : ρ x = .pointer (some ⟨b, 0, none⟩)) (hv : ρ y = .agg l.toArray) (h1 : l.length = 9) (hst : (storeCells ⟨b, 0, none⟩ l).run Tryz.prog w = .ok () w') :
  (execOp ρ o).run Tryz.prog w = .ok .skip w' := by
 unfold execOp
 rw [ho]
 simp [hp, hv, Value.cells, Instr.storeAt, Instr.sureAddr, storeVar, Sem.run_bind, sx_sz, h1, hst]
theorem sx_vals {w : World} {v : Value} {s : StM} (h : IsSt w v s) : ∃ am cm aw cw ae ce ao co an cn, v = .agg #[.int .i64 s.broker, .int .i64 s.nid, .int .i64 s.nseq, .int .i64 s.tx, .slice am s.ms.length cm, .slice aw s.waits.length cw, .slice ae s.ends.length ce, .slice ao s.opens.length co, .slice an s.noes.length cn] := by
 obtain ⟨vm, vw, ve, vo, vn, rfl, h1, h2, h3, h4, h5⟩ := h
 obtain ⟨am, cm, rfl, _, _⟩ := CellsAt.shape h1
 obtain ⟨aw, cw, rfl, _, _⟩ := h2.shape
 obtain ⟨ae, ce, rfl, _, _⟩ := CellsAt.shape h3
 obtain ⟨ao, co, rfl, _, _⟩ := h4.shape
 obtain ⟨an, cn, rfl, _, _⟩ := h5.shape
 exact ⟨am, cm, aw, cw, ae, ce, ao, co, an, cn, rfl⟩
structure SX0 (G : Nat -> Prop) (b : Nat) (w : World) : Prop where
 mem : G b
 ex : ∃ A : Array Value, A.size = 9 /\ w.heap[b]? = some (.cells A 29 (0, 0))
structure SX (G : Nat -> Prop) (b : Nat) (s : StM) (w : World) : Prop where
 mem : G b
 ex : ∃ A : Array Value, A.size = 9 /\ w.heap[b]? = some (.cells A 29 (0, 0)) /\ StW (Tch G w) (.agg A) s
variable {G : Nat -> Prop} {b : Nat} {s : StM} {w w' : World}
theorem SX.zero (h : SX G b s w) : SX0 G b w := by
 obtain ⟨A, h1, h2, h3⟩ := h.ex
 exact ⟨h.mem, A, h1, h2⟩
theorem SX0.keep (h : SX0 G b w) (t : Tch (fun k => G k /\ k ≠ b) w w') : SX0 G b w' := by
 obtain ⟨A, h1, h2⟩ := h.ex
 exact ⟨h.mem, A, h1, blk_tch t h2 (fun e => e.2 rfl)⟩
theorem SX.turn (h : SX G b s w) (t : Tch (fun k => G k /\ k ≠ b) w w') : SX G b s w' := by
 obtain ⟨A, h1, h2, h3⟩ := h.ex
 exact ⟨h.mem, A, h1, blk_tch t h2 (fun e => e.2 rfl), h3.mono (fun X tx => (t.mono (fun _ _ e => e.1)).trans tx (fun _ _ e => e))⟩
theorem SX.keep (h : SX G b s w) (t : Tch No w w') : SX G b s w' := h.turn t.no
theorem SX.sub {G' : Nat -> Prop} (h : SX G b s w) (hG : ∀ k, G' k -> G k) (hm : G' b) : SX G' b s w := by
 obtain ⟨A, h1, h2, h3⟩ := h.ex
 exact ⟨hm, A, h1, h2, h3.mono (fun X tx => tx.mono (fun k _ e => hG k e))⟩
theorem SX.is (h : SX G b s w) : ∃ A : Array Value, w.heap[b]? = some (.cells A 29 (0, 0)) /\ IsSt w (.agg A) s := by
 obtain ⟨A, h1, h2, h3⟩ := h.ex
 exact ⟨A, h2, h3.is (Tch.refl _ _)⟩
theorem SX.cells (h : SX G b s w) : ∃ am cm aw cw ae ce ao co an cn, w.heap[b]? = some (.cells #[.int .i64 s.broker, .int .i64 s.nid, .int .i64 s.nseq, .int .i64 s.tx, .slice am s.ms.length cm, .slice aw s.waits.length cw, .slice ae s.ends.length ce, .slice ao s.opens.length co, .slice an s.noes.length cn] 29 (0, 0)) /\ StW (Tch G w) (.agg #[.int .i64 s.broker, .int .i64 s.nid, .int .i64 s.nseq, .int .i64 s.tx, .slice am s.ms.length cm, .slice aw s.waits.length cw, .slice ae s.ends.length ce, .slice ao s.opens.length co, .slice an s.noes.length cn]) s := by
 obtain ⟨A, h1, h2, h3⟩ := h.ex
 obtain ⟨am, cm, aw, cw, ae, ce, ao, co, an, cn, e⟩ := sx_vals (h3.is (Tch.refl _ _))
 injection e with e
 subst e
 exact ⟨am, cm, aw, cw, ae, ce, ao, co, an, cn, h2, h3⟩
variable {Al : World -> Prop} {A : Array Value}
theorem stw_f0 (h : StW Al (.agg A) s) (x : Int) : StW Al (.agg (A.setIfInBounds 0 (.int .i64 x))) { s with broker := x } := by
 obtain ⟨vm, vw, ve, vo, vn, prb, pro, prn, e, h1, h2, h3, h4⟩ := h
 injection e with e
 subst e
 exact ⟨vm, vw, ve, vo, vn, prb, pro, prn, rfl, h1, h2, h3, fun W hW => by have g := h4 W hW; exact ⟨g.ms, g.cb, g.ib, g.en, g.co, g.io, g.cn, g.inn⟩⟩
theorem stw_f1 (h : StW Al (.agg A) s) (x : Int) : StW Al (.agg (A.setIfInBounds 1 (.int .i64 x))) { s with nid := x } := by
 obtain ⟨vm, vw, ve, vo, vn, prb, pro, prn, e, h1, h2, h3, h4⟩ := h
 injection e with e
 subst e
 exact ⟨vm, vw, ve, vo, vn, prb, pro, prn, rfl, h1, h2, h3, fun W hW => by have g := h4 W hW; exact ⟨g.ms, g.cb, g.ib, g.en, g.co, g.io, g.cn, g.inn⟩⟩
theorem stw_f2 (h : StW Al (.agg A) s) (x : Int) : StW Al (.agg (A.setIfInBounds 2 (.int .i64 x))) { s with nseq := x } := by
 obtain ⟨vm, vw, ve, vo, vn, prb, pro, prn, e, h1, h2, h3, h4⟩ := h
 injection e with e
 subst e
 exact ⟨vm, vw, ve, vo, vn, prb, pro, prn, rfl, h1, h2, h3, fun W hW => by have g := h4 W hW; exact ⟨g.ms, g.cb, g.ib, g.en, g.co, g.io, g.cn, g.inn⟩⟩
theorem stw_f3 (h : StW Al (.agg A) s) (x : Int) : StW Al (.agg (A.setIfInBounds 3 (.int .i64 x))) { s with tx := x } := by
 obtain ⟨vm, vw, ve, vo, vn, prb, pro, prn, e, h1, h2, h3, h4⟩ := h
 injection e with e
 subst e
 exact ⟨vm, vw, ve, vo, vn, prb, pro, prn, rfl, h1, h2, h3, fun W hW => by have g := h4 W hW; exact ⟨g.ms, g.cb, g.ib, g.en, g.co, g.io, g.cn, g.inn⟩⟩
theorem stw_f5 (h : StW Al (.agg A) s) {v : Value} {l : List BrM} (p : List (BrM × Value)) (hp : p.map Prod.fst = l) (hv : ∀ W, Al W -> IsL (encPr (fun q : BrM => q.tid)) 2 W v p /\ ∀ x ∈ p, IsPuts W x.2 x.1.puts) : StW Al (.agg (A.setIfInBounds 5 v)) { s with waits := l } := by
 obtain ⟨vm, vw, ve, vo, vn, prb, pro, prn, e, h1, h2, h3, h4⟩ := h
 injection e with e
 subst e
 exact ⟨vm, v, ve, vo, vn, p, pro, prn, rfl, hp, h2, h3, fun W hW => by have g := h4 W hW; exact ⟨g.ms, (hv W hW).1, (hv W hW).2, g.en, g.co, g.io, g.cn, g.inn⟩⟩
theorem stw_f6 (h : StW Al (.agg A) s) {v : Value} {l : List EndM} (hv : ∀ W, Al W -> IsEnds W v l) : StW Al (.agg (A.setIfInBounds 6 v)) { s with ends := l } := by
 obtain ⟨vm, vw, ve, vo, vn, prb, pro, prn, e, h1, h2, h3, h4⟩ := h
 injection e with e
 subst e
 exact ⟨vm, vw, v, vo, vn, prb, pro, prn, rfl, h1, h2, h3, fun W hW => by have g := h4 W hW; exact ⟨g.ms, g.cb, g.ib, hv W hW, g.co, g.io, g.cn, g.inn⟩⟩
theorem stw_f7 (h : StW Al (.agg A) s) {v : Value} {l : List PendM} (p : List (PendM × Value)) (hp : p.map Prod.fst = l) (hv : ∀ W, Al W -> IsL (encPr (fun q : PendM => q.tid)) 2 W v p /\ ∀ x ∈ p, IsInts W x.2 x.1.parts) : StW Al (.agg (A.setIfInBounds 7 v)) { s with opens := l } := by
 obtain ⟨vm, vw, ve, vo, vn, prb, pro, prn, e, h1, h2, h3, h4⟩ := h
 injection e with e
 subst e
 exact ⟨vm, vw, ve, v, vn, prb, p, prn, rfl, h1, hp, h3, fun W hW => by have g := h4 W hW; exact ⟨g.ms, g.cb, g.ib, g.en, (hv W hW).1, (hv W hW).2, g.cn, g.inn⟩⟩
theorem stw_f8 (h : StW Al (.agg A) s) {v : Value} {l : List PendM} (p : List (PendM × Value)) (hp : p.map Prod.fst = l) (hv : ∀ W, Al W -> IsL (encPr (fun q : PendM => q.tid)) 2 W v p /\ ∀ x ∈ p, IsInts W x.2 x.1.parts) : StW Al (.agg (A.setIfInBounds 8 v)) { s with noes := l } := by
 obtain ⟨vm, vw, ve, vo, vn, prb, pro, prn, e, h1, h2, h3, h4⟩ := h
 injection e with e
 subst e
 exact ⟨vm, vw, ve, vo, v, prb, pro, p, rfl, h1, h2, hp, fun W hW => by have g := h4 W hW; exact ⟨g.ms, g.cb, g.ib, g.en, g.co, g.io, (hv W hW).1, (hv W hW).2⟩⟩
theorem SX.set (h : SX G b s w) (j : Nat) (u : Value) (s' : StM) (hs : ∀ A, StW (Tch G w) (.agg A) s -> StW (Tch G w) (.agg (A.setIfInBounds j u)) s') : SX G b s' (w.setCell ⟨b, j, none⟩ u) := by
 obtain ⟨A, h1, h2, h3⟩ := h.ex
 have t : Tch (fun k => k = b) w (w.setCell ⟨b, j, none⟩ u) := Tch.setCell (F := fun k => k = b) _ _ _ (fun _ => rfl)
 exact ⟨h.mem, _, by simpa using h1, blk_set h2 j u, (hs A h3).mono (fun X tx => (t.mono (fun k _ e => by rw [e]; exact h.mem)).trans tx (fun _ _ e => e))⟩
variable {a : Act} {K : Act -> World -> Prop} {Q : Exit -> Act -> World -> Prop} {o : Oper} {ops : Array Oper} {rest : List Oper} {k : Nat} {ty : TypeId} {pos : String} {af : Array Edge} {v : Value}
theorem SX.w0 (h : SX G b s w) (x : Int) (x' y : Operand) (ho : o.op = .store 3 x' y) (hd : o.dst = none) (hx : a.eval x' = .pointer (some ⟨b, 0, none⟩)) (hy : a.eval y = (.int .i64 x))
  (hK : ∀ z wz, SX G b { s with broker := x } wz -> Tch (fun q => q = b) w wz -> K (a.put o.dst z) wz) : Oper.wp Tryz.prog o a w K Q := by
 obtain ⟨A, h1, h2, h3⟩ := h.ex
 refine w_stint x' y ho hd hx hy rfl ((blk_cell h2 0).trans (Array.getElem?_eq_getElem (by omega))) (blk_free h2 0) (fun z => hK z _ ?_ (Tch.setCell (F := fun q => q = b) _ _ _ (fun _ => rfl)))
 exact h.set 0 _ _ (fun A g => stw_f0 g x)
theorem SX.w1 (h : SX G b s w) (x : Int) (x' y : Operand) (ho : o.op = .store 2 x' y) (hd : o.dst = none) (hx : a.eval x' = .pointer (some ⟨b, 1, none⟩)) (hy : a.eval y = (.int .i64 x))
  (hK : ∀ z wz, SX G b { s with nid := x } wz -> Tch (fun q => q = b) w wz -> K (a.put o.dst z) wz) : Oper.wp Tryz.prog o a w K Q := by
 obtain ⟨A, h1, h2, h3⟩ := h.ex
 refine w_stint64 x' y ho hd hx hy rfl ((blk_cell h2 1).trans (Array.getElem?_eq_getElem (by omega))) (blk_free h2 1) (fun z => hK z _ ?_ (Tch.setCell (F := fun q => q = b) _ _ _ (fun _ => rfl)))
 exact h.set 1 _ _ (fun A g => stw_f1 g x)
theorem SX.st1 (h : SX G b s w) (x : Int) {y : Operand} (ha : a.eval (.tmp k) = .pointer (some ⟨b, 1, none⟩)) (hy : a.eval y = (.int .i64 x))
  (hK : ∀ wz, Hid (SX G b { s with nid := x } wz) -> Hid (Tch (fun q => q = b) w wz) -> wpList Tryz.prog ops Q rest a wz) :
  wpList Tryz.prog ops Q (⟨none, .store 2 (.tmp k) y, ty, pos, af, none⟩ :: rest) a w :=
 wpList_plain rfl fun K hK2 => h.w1 x (.tmp k) y rfl rfl ha hy (fun z wz h1 h2 => hK2 _ _ (hK wz h1 h2))
theorem SX.w2 (h : SX G b s w) (x : Int) (x' y : Operand) (ho : o.op = .store 2 x' y) (hd : o.dst = none) (hx : a.eval x' = .pointer (some ⟨b, 2, none⟩)) (hy : a.eval y = (.int .i64 x))
  (hK : ∀ z wz, SX G b { s with nseq := x } wz -> Tch (fun q => q = b) w wz -> K (a.put o.dst z) wz) : Oper.wp Tryz.prog o a w K Q := by
 obtain ⟨A, h1, h2, h3⟩ := h.ex
 refine w_stint64 x' y ho hd hx hy rfl ((blk_cell h2 2).trans (Array.getElem?_eq_getElem (by omega))) (blk_free h2 2) (fun z => hK z _ ?_ (Tch.setCell (F := fun q => q = b) _ _ _ (fun _ => rfl)))
 exact h.set 2 _ _ (fun A g => stw_f2 g x)
theorem SX.st2 (h : SX G b s w) (x : Int) {y : Operand} (ha : a.eval (.tmp k) = .pointer (some ⟨b, 2, none⟩)) (hy : a.eval y = (.int .i64 x))
  (hK : ∀ wz, Hid (SX G b { s with nseq := x } wz) -> Hid (Tch (fun q => q = b) w wz) -> wpList Tryz.prog ops Q rest a wz) :
  wpList Tryz.prog ops Q (⟨none, .store 2 (.tmp k) y, ty, pos, af, none⟩ :: rest) a w :=
 wpList_plain rfl fun K hK2 => h.w2 x (.tmp k) y rfl rfl ha hy (fun z wz h1 h2 => hK2 _ _ (hK wz h1 h2))
theorem SX.w3 (h : SX G b s w) (x : Int) (x' y : Operand) (ho : o.op = .store 2 x' y) (hd : o.dst = none) (hx : a.eval x' = .pointer (some ⟨b, 3, none⟩)) (hy : a.eval y = (.int .i64 x))
  (hK : ∀ z wz, SX G b { s with tx := x } wz -> Tch (fun q => q = b) w wz -> K (a.put o.dst z) wz) : Oper.wp Tryz.prog o a w K Q := by
 obtain ⟨A, h1, h2, h3⟩ := h.ex
 refine w_stint64 x' y ho hd hx hy rfl ((blk_cell h2 3).trans (Array.getElem?_eq_getElem (by omega))) (blk_free h2 3) (fun z => hK z _ ?_ (Tch.setCell (F := fun q => q = b) _ _ _ (fun _ => rfl)))
 exact h.set 3 _ _ (fun A g => stw_f3 g x)
theorem SX.w5 (h : SX G b s w) {l : List BrM} (p : List (BrM × Value)) (hp : p.map Prod.fst = l) (hv : ∀ W, Tch G w W -> IsL (encPr (fun q : BrM => q.tid)) 2 W v p /\ ∀ x ∈ p, IsPuts W x.2 x.1.puts) (x' y : Operand) (ho : o.op = .store 25 x' y) (hd : o.dst = none) (hx : a.eval x' = .pointer (some ⟨b, 5, none⟩)) (hy : a.eval y = v)
  (hK : ∀ z wz, SX G b { s with waits := l } wz -> Tch (fun q => q = b) w wz -> K (a.put o.dst z) wz) : Oper.wp Tryz.prog o a w K Q := by
 obtain ⟨A, h1, h2, h3⟩ := h.ex
 refine w_stSBranch x' y ho hd hx hy (CellsAt.one (hv w (Tch.refl _ _)).1) ((blk_cell h2 5).trans (Array.getElem?_eq_getElem (by omega))) (blk_free h2 5) (fun z => hK z _ ?_ (Tch.setCell (F := fun q => q = b) _ _ _ (fun _ => rfl)))
 exact h.set 5 _ _ (fun A g => stw_f5 g p hp hv)
theorem SX.w6 (h : SX G b s w) {l : List EndM} (hv : ∀ W, Tch G w W -> IsEnds W v l) (x' y : Operand) (ho : o.op = .store 26 x' y) (hd : o.dst = none) (hx : a.eval x' = .pointer (some ⟨b, 6, none⟩)) (hy : a.eval y = v)
  (hK : ∀ z wz, SX G b { s with ends := l } wz -> Tch (fun q => q = b) w wz -> K (a.put o.dst z) wz) : Oper.wp Tryz.prog o a w K Q := by
 obtain ⟨A, h1, h2, h3⟩ := h.ex
 refine w_stSEnd x' y ho hd hx hy (CellsAt.one (hv w (Tch.refl _ _))) ((blk_cell h2 6).trans (Array.getElem?_eq_getElem (by omega))) (blk_free h2 6) (fun z => hK z _ ?_ (Tch.setCell (F := fun q => q = b) _ _ _ (fun _ => rfl)))
 exact h.set 6 _ _ (fun A g => stw_f6 g hv)
theorem SX.w7 (h : SX G b s w) {l : List PendM} (p : List (PendM × Value)) (hp : p.map Prod.fst = l) (hv : ∀ W, Tch G w W -> IsL (encPr (fun q : PendM => q.tid)) 2 W v p /\ ∀ x ∈ p, IsInts W x.2 x.1.parts) (x' y : Operand) (ho : o.op = .store 27 x' y) (hd : o.dst = none) (hx : a.eval x' = .pointer (some ⟨b, 7, none⟩)) (hy : a.eval y = v)
  (hK : ∀ z wz, SX G b { s with opens := l } wz -> Tch (fun q => q = b) w wz -> K (a.put o.dst z) wz) : Oper.wp Tryz.prog o a w K Q := by
 obtain ⟨A, h1, h2, h3⟩ := h.ex
 refine w_stSPend x' y ho hd hx hy (CellsAt.one (hv w (Tch.refl _ _)).1) ((blk_cell h2 7).trans (Array.getElem?_eq_getElem (by omega))) (blk_free h2 7) (fun z => hK z _ ?_ (Tch.setCell (F := fun q => q = b) _ _ _ (fun _ => rfl)))
 exact h.set 7 _ _ (fun A g => stw_f7 g p hp hv)
theorem SX.w8 (h : SX G b s w) {l : List PendM} (p : List (PendM × Value)) (hp : p.map Prod.fst = l) (hv : ∀ W, Tch G w W -> IsL (encPr (fun q : PendM => q.tid)) 2 W v p /\ ∀ x ∈ p, IsInts W x.2 x.1.parts) (x' y : Operand) (ho : o.op = .store 27 x' y) (hd : o.dst = none) (hx : a.eval x' = .pointer (some ⟨b, 8, none⟩)) (hy : a.eval y = v)
  (hK : ∀ z wz, SX G b { s with noes := l } wz -> Tch (fun q => q = b) w wz -> K (a.put o.dst z) wz) : Oper.wp Tryz.prog o a w K Q := by
 obtain ⟨A, h1, h2, h3⟩ := h.ex
 refine w_stSPend x' y ho hd hx hy (CellsAt.one (hv w (Tch.refl _ _)).1) ((blk_cell h2 8).trans (Array.getElem?_eq_getElem (by omega))) (blk_free h2 8) (fun z => hK z _ ?_ (Tch.setCell (F := fun q => q = b) _ _ _ (fun _ => rfl)))
 exact h.set 8 _ _ (fun A g => stw_f8 g p hp hv)
theorem SX.load (h : SX G b s w) {d : Nat} (ha : a.eval (.tmp k) = .pointer (some ⟨b, 0, none⟩)) (hK : ∀ A : Array Value, Hid (StW (Tch G w) (.agg A) s) -> wpList Tryz.prog ops Q rest (a.put (some d) (.agg A)) w) :
  wpList Tryz.prog ops Q (⟨some d, .load 29 (.tmp k), ty, pos, af, none⟩ :: rest) a w := by
 obtain ⟨A, h1, h2, h3⟩ := h.ex
 refine wpList_plain rfl fun K hK2 => ?_
 unfold Oper.wp
 rw [sx_ld rfl ha h1 h2]
 exact hK2 _ _ (hK A h3)
theorem SX0.wstore {s' : StM} {v7 : Value} {w7 : World} (h : SX0 G b w7) (s7 : StW (Tch G w7) v7 s') (x y : Operand) (ho : o.op = .store 29 x y)
  (ha : a.eval x = .pointer (some ⟨b, 0, none⟩)) (hv : a.eval y = v7) (hK : ∀ z wz, SX G b s' wz -> Tch (fun k => k = b) w7 wz -> K (a.put o.dst z) wz) : Oper.wp Tryz.prog o a w7 K Q := by
 obtain ⟨A, h1, h2⟩ := h.ex
 obtain ⟨am, cm, aw, cw, ae, ce, ao, co, an, cn, rfl⟩ := sx_vals (s7.is (Tch.refl _ _))
 obtain ⟨l, hl⟩ : ∃ l : List Value, [.int .i64 s'.broker, .int .i64 s'.nid, .int .i64 s'.nseq, .int .i64 s'.tx, .slice am s'.ms.length cm, .slice aw s'.waits.length cw, .slice ae s'.ends.length ce, .slice ao s'.opens.length co, .slice an s'.noes.length cn] = l := ⟨_, rfl⟩
 have hl9 : l.length = 9 := by rw [<- hl]; rfl
 have hone : ∀ u ∈ l, u.oneCell' = true := by
  rw [<- hl]
  intro u hu
  simp only [List.mem_cons, List.not_mem_nil, or_false] at hu
  rcases hu with rfl | rfl | rfl | rfl | rfl | rfl | rfl | rfl | rfl <;> rfl
 have hst := run_storeCells_cells (P := Tryz.prog) b 0 l 0 w7 (by intro j hj; rw [Nat.zero_add, blk_cell h2 j]; simp; omega) (by intro j hj; exact blk_free h2 _) hone
 obtain ⟨cur, g1, g2, g3⟩ := blk_sets l 0 w7 A h2 (by omega)
 have hcur : cur = l.toArray := by
  apply Array.ext_getElem?
  intro i
  rw [g3 i]
  simp only [Nat.zero_le, Nat.zero_add, Nat.sub_zero, true_and, List.getElem?_toArray]
  split
  ·rfl
  ·rw [List.getElem?_eq_none (by omega), Array.getElem?_eq_none (by omega)]
 have hsb : SX G b s' (w7.setCells b 0 l) := by
  have tz : Tch (fun k => k = b) w7 (w7.setCells b 0 l) := Tch.setCells (F := fun k => k = b) rfl l 0 w7
  refine ⟨h.mem, l.toArray, by simpa using hl9, by rw [<- hcur]; exact g1, ?_⟩
  rw [<- hl] at tz ⊢
  exact s7.mono (fun X tx => (tz.mono (fun k _ e => by rw [e]; exact h.mem)).trans tx (fun _ _ e => e))
 rw [hl] at hv
 unfold Oper.wp
 rw [sx_stv ho ha hv hl9 (by simpa using hst)]
 have hd := hK undef _ hsb (Tch.setCells (F := fun k => k = b) rfl l 0 w7)
 exact hK _ _ hsb (Tch.setCells (F := fun k => k = b) rfl l 0 w7)
theorem SX0.store {s' : StM} {v7 : Value} {w7 : World} (h : SX0 G b w7) (s7 : StW (Tch G w7) v7 s') {j : Nat}
  (ha : a.eval (.tmp k) = .pointer (some ⟨b, 0, none⟩)) (hv : a.eval (.tmp j) = v7) (hK : ∀ wz, Hid (SX G b s' wz) -> Hid (Tch (fun k => k = b) w7 wz) -> wpList Tryz.prog ops Q rest a wz) :
  wpList Tryz.prog ops Q (⟨none, .store 29 (.tmp k) (.tmp j), ty, pos, af, none⟩ :: rest) a w7 :=
 wpList_plain rfl fun K hK2 => h.wstore s7 (.tmp k) (.tmp j) rfl ha hv (fun z wz h1 h2 => hK2 _ _ (hK wz h1 h2))
theorem SX.new {G' : Nat -> Prop} {w2 : World} {Z : Array Value} {v2 : Value} (h : StW (Tch G w2) v2 s) (hG : ∀ k, k < w2.heap.size -> G' k -> G k) (hb : w2.heap.size = b) (hm : G' b) (hZ : Z.size = 9) {j : Nat}
  (ha : a.eval (.tmp k) = .pointer (some ⟨b, 0, none⟩)) (hv : a.eval (.tmp j) = v2) (hK : ∀ wz, Hid (SX G' b s wz) -> Hid (Tch No w2 wz) -> wpList Tryz.prog ops Q rest a wz) :
  wpList Tryz.prog ops Q (⟨none, .store 29 (.tmp k) (.tmp j), ty, pos, af, none⟩ :: rest) a (w2.alloc (.cells Z 29 (0, 0))) := by
 have ta := Tch.alloc w2 (.cells Z 29 (0, 0))
 refine SX0.store (G := G') ⟨hm, Z, hZ, by rw [<- hb]; exact blk_new _ _⟩ (h.mono (fun X tx => ta.no.trans tx hG)) ha hv (fun wz h1 h2 => hK wz h1 (ta.fresh h2.out (fun i e => by rw [e, <- hb]; exact Nat.le_refl _)))
end
section
open Go.RowKit Go.Maps
structure AplOk (s : StM) (r : RecM) : Prop where
 risee : strictB (s.ends.map (·.tid)) = true
 risew : strictB (s.waits.map (·.tid)) = true
 riseo : strictB (s.opens.map (·.tid)) = true
 risen : strictB (s.noes.map (·.tid)) = true
 nms : s.ms.length <= 100000
 nw : s.waits.length <= 100000
 ne : s.ends.length <= 100000
 no : s.opens.length <= 100000
 nn : s.noes.length <= 100000
 nparts : r.parts.length <= 100000
 nputs : r.puts.length <= 100000
 wputs : ∀ b ∈ s.waits, b.puts.length <= 100000
 nparts2 : ∀ p ∈ s.noes, p.parts.length <= 100000
 brk : I64 s.broker
 nid : 0 <= s.nid /\ s.nid <= 4611686018427387904
 nseq : 0 <= s.nseq /\ s.nseq <= 4611686018427387904
 tx : 0 <= s.tx /\ s.tx <= 4611686018427387904
 cnt : ∀ m ∈ s.ms, 0 <= m.cnt /\ m.cnt <= 4611686018427387904
 ids : I64 r.id /\ ∀ m ∈ s.ms, I64 m.id
theorem IsSt.vals {w : World} {v : Value} {s : StM} (h : IsSt w v s) : ∃ am cm aw cw ae ce ao co an cn, v = .agg #[.int .i64 s.broker, .int .i64 s.nid, .int .i64 s.nseq, .int .i64 s.tx, .slice am s.ms.length cm, .slice aw s.waits.length cw, .slice ae s.ends.length ce, .slice ao s.opens.length co, .slice an s.noes.length cn] := by
 obtain ⟨vm, vw, ve, vo, vn, rfl, h1, h2, h3, h4, h5⟩ := h
 obtain ⟨am, cm, rfl, _, _⟩ := CellsAt.shape h1
 obtain ⟨aw, cw, rfl, _, _⟩ := h2.shape
 obtain ⟨ae, ce, rfl, _, _⟩ := CellsAt.shape h3
 obtain ⟨ao, co, rfl, _, _⟩ := h4.shape
 obtain ⟨an, cn, rfl, _, _⟩ := h5.shape
 exact ⟨am, cm, aw, cw, ae, ce, ao, co, an, cn, rfl⟩
theorem IsSt.noes {W : World} {a b c d vm vw ve vo vn vx : Value} {s : StM} {l : List PendM} (h : IsSt W (.agg #[a, b, c, d, vm, vw, ve, vo, vn]) s) (hl : IsPends W vx l) : IsSt W (.agg #[a, b, c, d, vm, vw, ve, vo, vx]) { s with noes := l } := by
 obtain ⟨xm, xw, xe, xo, xn, hv, h1, h2, h3, h4, h5⟩ := h
 injection hv with hv; injection hv with hv
 simp only [List.cons.injEq, and_true] at hv
 obtain ⟨rfl, rfl, rfl, rfl, rfl, rfl, rfl, rfl, rfl⟩ := hv
 exact ⟨_, _, _, _, _, rfl, h1, h2, h3, h4, hl⟩
def RecW (Al : World -> Prop) (v : Value) (r : RecM) : Prop := ∃ vp vu, v = .agg #[.int .i64 r.kind, .int .i64 r.tid, .int .i64 r.id, .bool r.yes, vp, vu] /\ ∀ W, Al W -> IsInts W vp r.parts /\ IsPuts W vu r.puts
theorem RecW.of {v : Value} {r : RecM} {w : World} (h : IsRec w v r) : RecW (Tch No w) v r := by
 obtain ⟨vp, vu, e, h1, h2⟩ := h
 exact ⟨vp, vu, e, fun W t => ⟨h1.keep t, h2.keep t⟩⟩
theorem RecW.mono {Al Al' : World -> Prop} {v : Value} {r : RecM} (h : RecW Al v r) (hA : ∀ W, Al' W -> Al W) : RecW Al' v r := by
 obtain ⟨vp, vu, e, h1⟩ := h
 exact ⟨vp, vu, e, fun W hW => h1 W (hA W hW)⟩
theorem RecW.is {Al : World -> Prop} {v : Value} {r : RecM} (h : RecW Al v r) {W : World} (hW : Al W) : IsRec W v r := by
 obtain ⟨vp, vu, e, h1⟩ := h
 exact ⟨vp, vu, e, (h1 W hW).1, (h1 W hW).2⟩
end
namespace Ev
open Go Go.RowKit Go.Maps
inductive Cp | ex (c : Nat) | op (sz : Nat)
inductive C
 | bool (b : Bool) | int (k : IntKind) (n : Int) | str (s : List UInt8)
 | ptr (i off : Nat) | nilp | sl (i off len : Nat) (c : Cp) | snil | se
 | fn (f : FuncId) (cap : List (Nat × Nat)) | nilf | map (i : Nat) | mapn | nilI
inductive V | c (x : C) | agg (l : List C)
inductive S | v (x : V) | tup (l : List V) | un
structure Blk where
 b : Nat
 t : Nat
inductive Kd | ok | rd | mp (es : List (C × V))
structure AO where
 ty : TypeId
 cs : List C
 opn : Bool
 k : Kd
def AO.fz (o : AO) : Bool := match o.k with | .ok => false | _ => true
abbrev Heap := Nat -> Option AO
def adr (k : Blk) (off : Nat) : Addr := ⟨k.b, off, none⟩
def RC (σ : Nat -> Blk) (D : Nat -> Prop) : C -> Value -> Prop
 | .bool b, v => v = .bool b
 | .int k n, v => v = .int k n
 | .str s, v => v = .string ⟨s.toArray⟩
 | .ptr i off, v => D i /\ v = .pointer (some (adr (σ i) off))
 | .nilp, v => v = .pointer none
 | .sl i off len (.ex c), v => D i /\ v = .slice (some (adr (σ i) off)) len c
 | .sl i off len (.op sz), v => D i /\ ∃ c, v = .slice (some (adr (σ i) off)) len c /\ len <= c /\ c <= maxLen /\ off + c * sz = (σ i).t
 | .snil, v => v = .slice none 0 0
 | .se, v => ∃ a c, v = .slice a 0 c
 | .fn f cap, v => (∀ p ∈ cap, D p.1) /\ v = .func (.func f) #[] ((cap.map fun p => Value.pointer (some (adr (σ p.1) p.2))).toArray)
 | .nilf, v => v = .nilFunc
 | .map i, v => D i /\ v = .map (some (σ i).b)
 | .mapn, v => v = .map none
 | .nilI, v => v = .nilIface
def RL (σ : Nat -> Blk) (D : Nat -> Prop) : List C -> List Value -> Prop
 | [], [] => True
 | c :: l, v :: m => RC σ D c v /\ RL σ D l m
 | _, _ => False
def RV (σ : Nat -> Blk) (D : Nat -> Prop) : V -> Value -> Prop
 | .c x, v => RC σ D x v
 | .agg l, v => ∃ m, RL σ D l m /\ v = .agg m.toArray
def RVL (σ : Nat -> Blk) (D : Nat -> Prop) : List V -> List Value -> Prop
 | [], [] => True
 | c :: l, v :: m => RV σ D c v /\ RVL σ D l m
 | _, _ => False
def RS (σ : Nat -> Blk) (D : Nat -> Prop) : S -> Value -> Prop
 | .v x, v => RV σ D x v
 | .tup l, v => ∃ m, RVL σ D l m /\ v = .tuple m.toArray
 | .un, v => v = undef
section
variable {σ σ' : Nat -> Blk} {D D' : Nat -> Prop}
theorem RC.ext {c : C} {v : Value} (h : RC σ D c v) (hs : ∀ i, D i -> σ' i = σ i) (hD : ∀ i, D i -> D' i) : RC σ' D' c v := by
 cases c with
 | ptr i off => obtain ⟨h1, h2⟩ := h; exact ⟨hD i h1, by rw [hs i h1]; exact h2⟩
 | map i => obtain ⟨h1, h2⟩ := h; exact ⟨hD i h1, by rw [hs i h1]; exact h2⟩
 | sl i off len cp =>
  cases cp with
  | ex c => obtain ⟨h1, h2⟩ := h; exact ⟨hD i h1, by rw [hs i h1]; exact h2⟩
  | op sz => obtain ⟨h1, h2⟩ := h; exact ⟨hD i h1, by rw [hs i h1]; exact h2⟩
 | fn f cap =>
  obtain ⟨h1, h2⟩ := h
  refine ⟨fun p hp => hD _ (h1 p hp), ?_⟩
  rw [h2]
  congr 2
  apply List.map_congr_left
  intro p hp
  rw [hs _ (h1 p hp)]
 | _ => exact h
theorem RL.ext : ∀ {l : List C} {m : List Value}, RL σ D l m -> (∀ i, D i -> σ' i = σ i) -> (∀ i, D i -> D' i) -> RL σ' D' l m
 | [], [], _, _, _ => trivial
 | _ :: _, _ :: _, h, hs, hD => ⟨h.1.ext hs hD, h.2.ext hs hD⟩
theorem RV.ext {x : V} {v : Value} (h : RV σ D x v) (hs : ∀ i, D i -> σ' i = σ i) (hD : ∀ i, D i -> D' i) : RV σ' D' x v := by
 cases x with
 | c x => exact RC.ext h hs hD
 | agg l => obtain ⟨m, h1, h2⟩ := h; exact ⟨m, h1.ext hs hD, h2⟩
theorem RVL.ext : ∀ {l : List V} {m : List Value}, RVL σ D l m -> (∀ i, D i -> σ' i = σ i) -> (∀ i, D i -> D' i) -> RVL σ' D' l m
 | [], [], _, _, _ => trivial
 | _ :: _, _ :: _, h, hs, hD => ⟨h.1.ext hs hD, h.2.ext hs hD⟩
theorem RS.ext {x : S} {v : Value} (h : RS σ D x v) (hs : ∀ i, D i -> σ' i = σ i) (hD : ∀ i, D i -> D' i) : RS σ' D' x v := by
 cases x with
 | v x => exact RV.ext h hs hD
 | tup l => obtain ⟨m, h1, h2⟩ := h; exact ⟨m, h1.ext hs hD, h2⟩
 | un => exact h
theorem RC.one {c : C} {v : Value} (h : RC σ D c v) : v.oneCell' = true := by
 cases c with
 | sl i off len cp =>
  cases cp with
  | ex c => obtain ⟨_, rfl⟩ := h; rfl
  | op sz => obtain ⟨_, c, rfl, _⟩ := h; rfl
 | ptr i off => obtain ⟨_, rfl⟩ := h; rfl
 | map i => obtain ⟨_, rfl⟩ := h; rfl
 | fn f cap => obtain ⟨_, rfl⟩ := h; rfl
 | se => obtain ⟨_, _, rfl⟩ := h; rfl
 | _ => (cases h; rfl)
theorem RL.length : ∀ {l : List C} {m : List Value}, RL σ D l m -> m.length = l.length
 | [], [], _ => rfl
 | _ :: _, _ :: _, h => by rw [List.length_cons, List.length_cons, h.2.length]
theorem RL.get : ∀ {l : List C} {m : List Value} {j : Nat} {c : C}, RL σ D l m -> l[j]? = some c -> ∃ v, m[j]? = some v /\ RC σ D c v
 | [], [], _, _, _, e => by cases e
 | a :: l, v :: m, 0, c, h, e => by
  rw [List.getElem?_cons_zero] at e
  cases e
  exact ⟨v, rfl, h.1⟩
 | a :: l, v :: m, j + 1, c, h, e => h.2.get (by simpa using e)
theorem RL.of : ∀ {l : List C} {m : List Value}, m.length = l.length -> (∀ (j : Nat) (c : C), l[j]? = some c -> ∃ v, m[j]? = some v /\ RC σ D c v) -> RL σ D l m
 | [], [], _, _ => trivial
 | [], _ :: _, h, _ => by simp at h
 | _ :: _, [], h, _ => by simp at h
 | a :: l, v :: m, h, g => by
  refine ⟨?_, RL.of (by simpa using h) (fun j c e => ?_)⟩
  ·obtain ⟨v', h1, h2⟩ := g 0 a rfl
   rw [List.getElem?_cons_zero] at h1
   cases h1; exact h2
  ·have := g (j + 1) c (by simpa using e)
   simpa using this
end
def RM (σ : Nat -> Blk) (D : Nat -> Prop) : List (C × V) -> List MapEntry -> Prop
 | [], [] => True
 | a :: l, b :: m => (RC σ D a.1 b.key /\ RV σ D a.2 b.val) /\ RM σ D l m
 | _, _ => False
theorem RM.ext {σ σ' : Nat -> Blk} {D D' : Nat -> Prop} : ∀ {l : List (C × V)} {m : List MapEntry}, RM σ D l m -> (∀ i, D i -> σ' i = σ i) -> (∀ i, D i -> D' i) -> RM σ' D' l m
 | [], [], _, _, _ => trivial
 | _ :: _, _ :: _, h, hs, hD => ⟨⟨h.1.1.ext hs hD, h.1.2.ext hs hD⟩, h.2.ext hs hD⟩
def ObjCells (σ : Nat -> Blk) (D : Nat -> Prop) (i : Nat) (o : AO) (w : World) : Prop :=
 ∃ (cur : Array Value) (fr : Nat × Nat), w.heap[(σ i).b]? = some (.cells cur o.ty fr) /\ (o.fz = false -> fr = (0, 0)) /\ cur.size = (σ i).t /\ o.cs.length <= (σ i).t /\ (o.opn = false -> o.cs.length = (σ i).t) /\
  ∀ (j : Nat) (c : C), o.cs[j]? = some c -> ∃ v, cur[j]? = some v /\ RC σ D c v
def ObjMap (σ : Nat -> Blk) (D : Nat -> Prop) (i : Nat) (es : List (C × V)) (w : World) : Prop := ∃ (m : Array MapEntry) (clock : Nat), w.heap[(σ i).b]? = some (.map m clock) /\ RM σ D es m.toList
def ObjAt (σ : Nat -> Blk) (D : Nat -> Prop) (i : Nat) (o : AO) (w : World) : Prop := match o.k with
 | .mp es => o.cs = [] /\ ObjMap σ D i es w
 | _ => ObjCells σ D i o w
theorem ObjAt.ok {σ : Nat -> Blk} {D : Nat -> Prop} {i : Nat} {o : AO} {w : World} (h : ObjAt σ D i o w) (hf : o.fz = false) : ObjCells σ D i o w := by
 unfold ObjAt at h
 unfold AO.fz at hf
 split at h
 ·rename_i e; rw [e] at hf; cases hf
 ·exact h
theorem ObjAt.either {σ : Nat -> Blk} {D : Nat -> Prop} {i : Nat} {o : AO} {w : World} (h : ObjAt σ D i o w) : o.cs = [] ∨ ObjCells σ D i o w := by
 unfold ObjAt at h
 split at h
 ·exact .inl h.1
 ·exact .inr h
structure Sat (σ : Nat -> Blk) (D : Nat -> Prop) (h : Heap) (w : World) : Prop where
 obj : ∀ i o, h i = some o -> D i /\ ObjAt σ D i o w
 inj : ∀ i j, (h i).isSome = true -> (h j).isSome = true -> (σ i).b = (σ j).b -> i = j
def rst (F : Nat -> Bool) (h : Heap) : Heap := fun i => if F i then h i else none
def upd (F : Nat -> Bool) (n n' : Nat) (h g : Heap) : Heap := fun i => if F i || (decide (n <= i) && decide (i < n')) then g i else h i
def more (D : Nat -> Prop) (n n' : Nat) : Nat -> Prop := fun i => D i ∨ (n <= i /\ i < n')
structure Out (σ : Nat -> Blk) (D : Nat -> Prop) (w : World) (h h' : Heap) (n n' : Nat) (W : Nat -> Bool) (σ' : Nat -> Blk) (w' : World) : Prop where
 same : ∀ i, ¬ (n <= i /\ i < n') -> σ' i = σ i
 sat : Sat σ' (more D n n') h' w'
 tch : Tch (fun k => ∃ i, W i = true /\ (h i).isSome = true /\ k = (σ i).b) w w'
 old : ∀ i, ¬ (n <= i /\ i < n') -> (h' i).isSome = true -> (h i).isSome = true
 new : ∀ i, n <= i -> i < n' -> (h' i).isSome = true -> w.heap.size <= (σ' i).b ∨ ∃ j, W j = true /\ (h j).isSome = true /\ h' j = none /\ (σ' i).b = (σ j).b
theorem ObjAt.lt {σ : Nat -> Blk} {D : Nat -> Prop} {i : Nat} {o : AO} {w : World} (h : ObjAt σ D i o w) : (σ i).b < w.heap.size := by
 unfold ObjAt at h
 split at h
 ·obtain ⟨_, m, c, h1, _⟩ := h
  exact (Array.getElem?_eq_some_iff.1 h1).1
 ·obtain ⟨cur, fr, h1, _⟩ := h
  exact (Array.getElem?_eq_some_iff.1 h1).1
theorem ObjAt.ext {σ σ' : Nat -> Blk} {D D' : Nat -> Prop} {i : Nat} {o : AO} {w w' : World} (h : ObjAt σ D i o w) (hi : σ' i = σ i) (hb : w'.heap[(σ i).b]? = w.heap[(σ i).b]?) (hs : ∀ i, D i -> σ' i = σ i) (hD : ∀ i, D i -> D' i) : ObjAt σ' D' i o w' := by
 unfold ObjAt at h ⊢
 split at h
 ·obtain ⟨h0, m, c, h1, h2⟩ := h
  exact ⟨h0, m, c, by rw [hi, hb]; exact h1, h2.ext hs hD⟩
 ·obtain ⟨cur, fr, h1, h0, h2, h3, h4, h5⟩ := h
  refine ⟨cur, fr, by rw [hi, hb]; exact h1, h0, by rw [hi]; exact h2, by rw [hi]; exact h3, by rw [hi]; exact h4, fun j c e => ?_⟩
  obtain ⟨v, g1, g2⟩ := h5 j c e
  exact ⟨v, g1, g2.ext hs hD⟩
theorem frame {σ σ' : Nat -> Blk} {D : Nat -> Prop} {w w' : World} {h g g' : Heap} {n n' : Nat} {F W : Nat -> Bool} (hs : Sat σ D h w) (hF : ∀ i, F i = true -> g i = h i) (hg : ∀ i, F i = false -> g i = none) (hD : ∀ i, n <= i -> i < n' -> ¬ D i)
  (ho : Out σ D w g g' n n' W σ' w') (hW : ∀ i, W i = true -> F i = true) : Out σ D w h (upd F n n' h g') n n' W σ' w' := by
 have hsame : ∀ i, D i -> σ' i = σ i := fun i hi => ho.same i (fun ⟨a, b⟩ => hD i a b hi)
 have hgs : ∀ i, (g i).isSome = true -> (h i).isSome = true := fun i hi => by
  cases e : F i with
  | false => rw [hg i e] at hi; cases hi
  | true => rw [<- hF i e]; exact hi
 have hrest : ∀ i, F i = false -> (h i).isSome = true -> w'.heap[(σ i).b]? = w.heap[(σ i).b]? := fun i hi hh => by
  obtain ⟨o, ho1⟩ := Option.isSome_iff_exists.1 hh
  obtain ⟨hDi, hoi⟩ := hs.obj i o ho1
  refine ho.tch.block _ hoi.lt ?_
  rintro ⟨j, h1, h2, h3⟩
  have := hs.inj i j hh (hgs j h2) h3
  subst this
  rw [hW i h1] at hi; cases hi
 have hne : ∀ i, (h i).isSome = true -> ¬ (n <= i /\ i < n') := fun i hh ⟨a, b⟩ => by
  obtain ⟨o, ho1⟩ := Option.isSome_iff_exists.1 hh
  exact hD i a b (hs.obj i o ho1).1
 refine ⟨ho.same, ⟨fun i o e => ?_, fun i j hi hj e => ?_⟩, ho.tch.mono (fun k _ ⟨i, a, b, c⟩ => ⟨i, a, hgs i b, c⟩), ?_, ?_⟩
 ·unfold upd at e
  by_cases c : (F i || (decide (n <= i) && decide (i < n'))) = true
  ·rw [if_pos c] at e; exact ho.sat.obj i o e
  ·rw [if_neg c] at e
   have hFi : F i = false := by cases e2 : F i with | false => rfl | true => simp [e2] at c
   obtain ⟨h1, h2⟩ := hs.obj i o e
   exact ⟨.inl h1, h2.ext (hsame i h1) (hrest i hFi (by rw [e]; rfl)) hsame (fun _ x => .inl x)⟩
 ·-- no two in one block
  have key : ∀ i j, (upd F n n' h g' i).isSome = true -> (F i || (decide (n <= i) && decide (i < n'))) = true -> (h j).isSome = true -> (F j || (decide (n <= j) && decide (j < n'))) ≠ true -> (σ' i).b = (σ' j).b -> False := by
   intro i j hi ci hj cj e
   unfold upd at hi; rw [if_pos ci] at hi
   obtain ⟨oj, hoj⟩ := Option.isSome_iff_exists.1 hj
   obtain ⟨hDj, hoj2⟩ := hs.obj j oj hoj
   have hFj : F j = false := by cases e2 : F j with | false => rfl | true => simp [e2] at cj
   rw [hsame j hDj] at e
   by_cases hn : n <= i /\ i < n'
   ·rcases ho.new i hn.1 hn.2 hi with h1 | ⟨k, h1, h2, h3, h4⟩
    ·have := hoj2.lt; omega
    ·have := hs.inj k j (hgs k h2) hj (by rw [<- h4]; exact e)
     subst this
     rw [hW k h1] at hFj; cases hFj
   ·have hFi : F i = true := by
     cases e2 : F i with
     | true => rfl
     | false =>
      exfalso; apply hn
      simpa [e2] using ci
    rw [ho.same i hn] at e
    -- i is of F and alive behind: alive ahead, too
    have hgi : (g i).isSome = true := ho.old i hn hi
    have := hs.inj i j (hgs i hgi) hj e
    subst this
    rw [hFi] at hFj; cases hFj
  by_cases ci : (F i || (decide (n <= i) && decide (i < n'))) = true
  ·by_cases cj : (F j || (decide (n <= j) && decide (j < n'))) = true
   ·unfold upd at hi hj; rw [if_pos ci] at hi; rw [if_pos cj] at hj
    exact ho.sat.inj i j hi hj e
   ·refine (key i j hi ci ?_ cj e).elim
    unfold upd at hj; rw [if_neg cj] at hj; exact hj
  ·by_cases cj : (F j || (decide (n <= j) && decide (j < n'))) = true
   ·refine (key j i hj cj ?_ ci e.symm).elim
    unfold upd at hi; rw [if_neg ci] at hi; exact hi
   ·unfold upd at hi hj; rw [if_neg ci] at hi; rw [if_neg cj] at hj
    obtain ⟨oi, hoi⟩ := Option.isSome_iff_exists.1 hi
    obtain ⟨oj, hoj⟩ := Option.isSome_iff_exists.1 hj
    rw [hsame i (hs.obj i oi hoi).1, hsame j (hs.obj j oj hoj).1] at e
    exact hs.inj i j hi hj e
 ·intro i hn hh
  unfold upd at hh
  by_cases c : (F i || (decide (n <= i) && decide (i < n'))) = true
  ·rw [if_pos c] at hh
   exact hgs i (ho.old i hn hh)
  ·rw [if_neg c] at hh; exact hh
 ·intro i hi hi' hh
  unfold upd at hh
  have c : (F i || (decide (n <= i) && decide (i < n'))) = true := by simp [hi, hi']
  rw [if_pos c] at hh
  rcases ho.new i hi hi' hh with h1 | ⟨j, h1, h2, h3, h4⟩
  ·exact .inl h1
  ·refine .inr ⟨j, h1, hgs j h2, ?_, h4⟩
   unfold upd
   have := hW j h1
   simp [this, h3]
end Ev
end Go.Proofs.YtafndmnbnmlklaaGreat
