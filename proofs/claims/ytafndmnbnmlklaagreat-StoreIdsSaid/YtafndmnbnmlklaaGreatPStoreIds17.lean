/- Part 17 of what the proof of StoreIds rests on. No condition. -/
import Derived.Test.YtafndmnbnmlklaaGreatPStoreIds08
import Derived.Test.YtafndmnbnmlklaaGreatPStoreIds13
namespace Go.Proofs.YtafndmnbnmlklaaGreat
set_option maxRecDepth 100000
set_option maxHeartbeats 60000000
set_option linter.unusedVariables false
set_option linter.unusedSimpArgs false
set_option linter.unusedSectionVars false
section
open Go.RowKit Go.Maps
theorem sx_sz (w : World) : (Go.sizeOf 29).run Tryz.prog w = .ok 9 w := by
 have h : (Tryz.prog.info? 29).map (·.size) = some 9 := by kernel_rfl
 rw [Option.map_eq_some_iff] at h
 obtain ⟨i, h1, h2⟩ := h
 simp [sizeOf, typeInfo, h1, h2]
theorem sx_ag (w : World) : (isAgg 29).run Tryz.prog w = .ok true w := by
 unfold isAgg
 rw [Sem.run_bind, run_underlying Tryz.underlying29 w]
 rfl
theorem sx_ld {ρ : Operand -> Value} {o : Oper} {x : Operand} {b : Nat} {A : Array Value} {fr : Nat × Nat} {w : World} (ho : o.op = .load 29 x) (hp : ρ x = .pointer (some ⟨b, 0, none⟩)) (h1 : A.size = 9) (h2 : w.heap[b]? = some (.cells A 29 fr)) :
  (execOp ρ o).run Tryz.prog w = .ok (.value (.agg A)) w := by
 have hl := run_loadCells_list (P := Tryz.prog) w ⟨b, 0, none⟩ A.toList (fun j x hx => by have h3 := blk_cell h2 j; have e : (⟨b, 0, none⟩ : Addr).add j = ⟨b, j, none⟩ := (by unfold Addr.add; split <;> simp_all); rw [e, h3]; simpa using hx)
 have hlen : A.toList.length = 9 := by simp [h1]
 rw [hlen] at hl
 unfold execOp
 rw [ho]
 simp [hp, Instr.loadAt, Instr.sureAddr, loadVar, Sem.run_bind, sx_ag, sx_sz, hl]
theorem sx_stv {ρ : Operand -> Value} {o : Oper} {x y : Operand} {b : Nat} {l : List Value} {w w' : World} (ho : o.op = .store 29 x y) (hp : ρ x = .pointer (some ⟨b, 0, none⟩)) (hv : ρ y = .agg l.toArray) (h1 : l.length = 9) (hst : (storeCells ⟨b, 0, none⟩ l).run Tryz.prog w = .ok () w') :
  (execOp ρ o).run Tryz.prog w = .ok .skip w' := by
 unfold execOp
 rw [ho]
 simp [hp, hv, Value.cells, Instr.storeAt, Instr.sureAddr, storeVar, Sem.run_bind, sx_sz, h1, hst]
theorem sx_vals {w : World} {v : Value} {s : StM} (h : IsSt w v s) : ∃ am cm aw cw ae ce ao co an cn, v = .agg #[.int .i64 s.broker, .int .i64 s.nid, .int .i64 s.nseq, .int .i64 s.tx, .slice am s.ms.length cm, .slice aw s.waits.length cw, .slice ae s.ends.length ce, .slice ao s.opens.length co, .slice an s.noes.length cn] := by
 obtain ⟨vm, vw, ve, vo, vn, rfl, h1, h2, h3, h4, h5⟩ := h
 obtain ⟨am, cm, rfl, _, _⟩ := CellsAt.shape h1
 obtain ⟨aw, cw, rfl, _, _⟩ := h2.shape
 obtain ⟨ae, ce, rfl, _, _⟩ := CellsAt.shape h3
 obtain ⟨ao, co, rfl, _, _⟩ := h4.shape
 obtain ⟨an, cn, rfl, _, _⟩ := h5.shape
 exact ⟨am, cm, aw, cw, ae, ce, ao, co, an, cn, rfl⟩
structure SX0 (G : Nat -> Prop) (b : Nat) (w : World) : Prop where
 mem : G b
 ex : ∃ A : Array Value, A.size = 9 /\ w.heap[b]? = some (.cells A 29 (0, 0))
structure SX (G : Nat -> Prop) (b : Nat) (s : StM) (w : World) : Prop where
 mem : G b
 ex : ∃ A : Array Value, A.size = 9 /\ w.heap[b]? = some (.cells A 29 (0, 0)) /\ StW (Tch G w) (.agg A) s
variable {G : Nat -> Prop} {b : Nat} {s : StM} {w w' : World}
theorem SX.zero (h : SX G b s w) : SX0 G b w := by
 obtain ⟨A, h1, h2, h3⟩ := h.ex
 exact ⟨h.mem, A, h1, h2⟩
theorem SX0.keep (h : SX0 G b w) (t : Tch (fun k => G k /\ k ≠ b) w w') : SX0 G b w' := by
 obtain ⟨A, h1, h2⟩ := h.ex
 exact ⟨h.mem, A, h1, blk_tch t h2 (fun e => e.2 rfl)⟩
theorem SX.turn (h : SX G b s w) (t : Tch (fun k => G k /\ k ≠ b) w w') : SX G b s w' := by
 obtain ⟨A, h1, h2, h3⟩ := h.ex
 exact ⟨h.mem, A, h1, blk_tch t h2 (fun e => e.2 rfl), h3.mono (fun X tx => (t.mono (fun _ _ e => e.1)).trans tx (fun _ _ e => e))⟩
theorem SX.keep (h : SX G b s w) (t : Tch No w w') : SX G b s w' := h.turn t.no
theorem SX.sub {G' : Nat -> Prop} (h : SX G b s w) (hG : ∀ k, G' k -> G k) (hm : G' b) : SX G' b s w := by
 obtain ⟨A, h1, h2, h3⟩ := h.ex
 exact ⟨hm, A, h1, h2, h3.mono (fun X tx => tx.mono (fun k _ e => hG k e))⟩
theorem SX.is (h : SX G b s w) : ∃ A : Array Value, w.heap[b]? = some (.cells A 29 (0, 0)) /\ IsSt w (.agg A) s := by
 obtain ⟨A, h1, h2, h3⟩ := h.ex
 exact ⟨A, h2, h3.is (Tch.refl _ _)⟩
theorem SX.cells (h : SX G b s w) : ∃ am cm aw cw ae ce ao co an cn, w.heap[b]? = some (.cells #[.int .i64 s.broker, .int .i64 s.nid, .int .i64 s.nseq, .int .i64 s.tx, .slice am s.ms.length cm, .slice aw s.waits.length cw, .slice ae s.ends.length ce, .slice ao s.opens.length co, .slice an s.noes.length cn] 29 (0, 0)) /\ StW (Tch G w) (.agg #[.int .i64 s.broker, .int .i64 s.nid, .int .i64 s.nseq, .int .i64 s.tx, .slice am s.ms.length cm, .slice aw s.waits.length cw, .slice ae s.ends.length ce, .slice ao s.opens.length co, .slice an s.noes.length cn]) s := by
 obtain ⟨A, h1, h2, h3⟩ := h.ex
 obtain ⟨am, cm, aw, cw, ae, ce, ao, co, an, cn, e⟩ := sx_vals (h3.is (Tch.refl _ _))
 injection e with e
 subst e
 exact ⟨am, cm, aw, cw, ae, ce, ao, co, an, cn, h2, h3⟩
theorem sx_stw {Al : World -> Prop} {a b c d vm vw ve vo vn : Value} {s : StM} (h : StW Al (.agg #[a, b, c, d, vm, vw, ve, vo, vn]) s) : ∃ prb pro prn, prb.map Prod.fst = s.waits /\ pro.map Prod.fst = s.opens /\ prn.map Prod.fst = s.noes /\ ∀ W, Al W -> StAt vm vw ve vo vn s prb pro prn W := by
 obtain ⟨vm', vw', ve', vo', vn', prb, pro, prn, e, h1, h2, h3, h4⟩ := h
 injection e with e
 injection e with e
 simp only [List.cons.injEq] at e
 obtain ⟨_, _, _, _, rfl, rfl, rfl, rfl, rfl, _⟩ := e
 exact ⟨prb, pro, prn, h1, h2, h3, h4⟩
variable {Al : World -> Prop} {A : Array Value}
theorem stw_f0 (h : StW Al (.agg A) s) (x : Int) : StW Al (.agg (A.setIfInBounds 0 (.int .i64 x))) { s with broker := x } := by
 obtain ⟨vm, vw, ve, vo, vn, prb, pro, prn, e, h1, h2, h3, h4⟩ := h
 injection e with e
 subst e
 exact ⟨vm, vw, ve, vo, vn, prb, pro, prn, rfl, h1, h2, h3, fun W hW => by have g := h4 W hW; exact ⟨g.ms, g.cb, g.ib, g.en, g.co, g.io, g.cn, g.inn⟩⟩
theorem stw_f1 (h : StW Al (.agg A) s) (x : Int) : StW Al (.agg (A.setIfInBounds 1 (.int .i64 x))) { s with nid := x } := by
 obtain ⟨vm, vw, ve, vo, vn, prb, pro, prn, e, h1, h2, h3, h4⟩ := h
 injection e with e
 subst e
 exact ⟨vm, vw, ve, vo, vn, prb, pro, prn, rfl, h1, h2, h3, fun W hW => by have g := h4 W hW; exact ⟨g.ms, g.cb, g.ib, g.en, g.co, g.io, g.cn, g.inn⟩⟩
theorem stw_f2 (h : StW Al (.agg A) s) (x : Int) : StW Al (.agg (A.setIfInBounds 2 (.int .i64 x))) { s with nseq := x } := by
 obtain ⟨vm, vw, ve, vo, vn, prb, pro, prn, e, h1, h2, h3, h4⟩ := h
 injection e with e
 subst e
 exact ⟨vm, vw, ve, vo, vn, prb, pro, prn, rfl, h1, h2, h3, fun W hW => by have g := h4 W hW; exact ⟨g.ms, g.cb, g.ib, g.en, g.co, g.io, g.cn, g.inn⟩⟩
theorem stw_f3 (h : StW Al (.agg A) s) (x : Int) : StW Al (.agg (A.setIfInBounds 3 (.int .i64 x))) { s with tx := x } := by
 obtain ⟨vm, vw, ve, vo, vn, prb, pro, prn, e, h1, h2, h3, h4⟩ := h
 injection e with e
 subst e
 exact ⟨vm, vw, ve, vo, vn, prb, pro, prn, rfl, h1, h2, h3, fun W hW => by have g := h4 W hW; exact ⟨g.ms, g.cb, g.ib, g.en, g.co, g.io, g.cn, g.inn⟩⟩
theorem stw_f4 (h : StW Al (.agg A) s) {v : Value} {l : List MsgM} (hv : ∀ W, Al W -> IsMsgs W v l) : StW Al (.agg (A.setIfInBounds 4 v)) { s with ms := l } := by
 obtain ⟨vm, vw, ve, vo, vn, prb, pro, prn, e, h1, h2, h3, h4⟩ := h
 injection e with e
 subst e
 exact ⟨v, vw, ve, vo, vn, prb, pro, prn, rfl, h1, h2, h3, fun W hW => by have g := h4 W hW; exact ⟨hv W hW, g.cb, g.ib, g.en, g.co, g.io, g.cn, g.inn⟩⟩
theorem stw_f5 (h : StW Al (.agg A) s) {v : Value} {l : List BrM} (p : List (BrM × Value)) (hp : p.map Prod.fst = l) (hv : ∀ W, Al W -> IsL (encPr (fun q : BrM => q.tid)) 2 W v p /\ ∀ x ∈ p, IsPuts W x.2 x.1.puts) : StW Al (.agg (A.setIfInBounds 5 v)) { s with waits := l } := by
 obtain ⟨vm, vw, ve, vo, vn, prb, pro, prn, e, h1, h2, h3, h4⟩ := h
 injection e with e
 subst e
 exact ⟨vm, v, ve, vo, vn, p, pro, prn, rfl, hp, h2, h3, fun W hW => by have g := h4 W hW; exact ⟨g.ms, (hv W hW).1, (hv W hW).2, g.en, g.co, g.io, g.cn, g.inn⟩⟩
theorem stw_f6 (h : StW Al (.agg A) s) {v : Value} {l : List EndM} (hv : ∀ W, Al W -> IsEnds W v l) : StW Al (.agg (A.setIfInBounds 6 v)) { s with ends := l } := by
 obtain ⟨vm, vw, ve, vo, vn, prb, pro, prn, e, h1, h2, h3, h4⟩ := h
 injection e with e
 subst e
 exact ⟨vm, vw, v, vo, vn, prb, pro, prn, rfl, h1, h2, h3, fun W hW => by have g := h4 W hW; exact ⟨g.ms, g.cb, g.ib, hv W hW, g.co, g.io, g.cn, g.inn⟩⟩
theorem stw_f7 (h : StW Al (.agg A) s) {v : Value} {l : List PendM} (p : List (PendM × Value)) (hp : p.map Prod.fst = l) (hv : ∀ W, Al W -> IsL (encPr (fun q : PendM => q.tid)) 2 W v p /\ ∀ x ∈ p, IsInts W x.2 x.1.parts) : StW Al (.agg (A.setIfInBounds 7 v)) { s with opens := l } := by
 obtain ⟨vm, vw, ve, vo, vn, prb, pro, prn, e, h1, h2, h3, h4⟩ := h
 injection e with e
 subst e
 exact ⟨vm, vw, ve, v, vn, prb, p, prn, rfl, h1, hp, h3, fun W hW => by have g := h4 W hW; exact ⟨g.ms, g.cb, g.ib, g.en, (hv W hW).1, (hv W hW).2, g.cn, g.inn⟩⟩
theorem stw_f8 (h : StW Al (.agg A) s) {v : Value} {l : List PendM} (p : List (PendM × Value)) (hp : p.map Prod.fst = l) (hv : ∀ W, Al W -> IsL (encPr (fun q : PendM => q.tid)) 2 W v p /\ ∀ x ∈ p, IsInts W x.2 x.1.parts) : StW Al (.agg (A.setIfInBounds 8 v)) { s with noes := l } := by
 obtain ⟨vm, vw, ve, vo, vn, prb, pro, prn, e, h1, h2, h3, h4⟩ := h
 injection e with e
 subst e
 exact ⟨vm, vw, ve, vo, v, prb, pro, p, rfl, h1, h2, hp, fun W hW => by have g := h4 W hW; exact ⟨g.ms, g.cb, g.ib, g.en, g.co, g.io, (hv W hW).1, (hv W hW).2⟩⟩
theorem SX.set (h : SX G b s w) (j : Nat) (u : Value) (s' : StM) (hs : ∀ A, StW (Tch G w) (.agg A) s -> StW (Tch G w) (.agg (A.setIfInBounds j u)) s') : SX G b s' (w.setCell ⟨b, j, none⟩ u) := by
 obtain ⟨A, h1, h2, h3⟩ := h.ex
 have t : Tch (fun k => k = b) w (w.setCell ⟨b, j, none⟩ u) := Tch.setCell (F := fun k => k = b) _ _ _ (fun _ => rfl)
 exact ⟨h.mem, _, by simpa using h1, blk_set h2 j u, (hs A h3).mono (fun X tx => (t.mono (fun k _ e => by rw [e]; exact h.mem)).trans tx (fun _ _ e => e))⟩
variable {a : Act} {K : Act -> World -> Prop} {Q : Exit -> Act -> World -> Prop} {o : Oper} {ops : Array Oper} {rest : List Oper} {k : Nat} {ty : TypeId} {pos : String} {af : Array Edge} {v : Value}
theorem SX.w0 (h : SX G b s w) (x : Int) (x' y : Operand) (ho : o.op = .store 3 x' y) (hd : o.dst = none) (hx : a.eval x' = .pointer (some ⟨b, 0, none⟩)) (hy : a.eval y = (.int .i64 x))
  (hK : ∀ z wz, SX G b { s with broker := x } wz -> Tch (fun q => q = b) w wz -> K (a.put o.dst z) wz) : Oper.wp Tryz.prog o a w K Q := by
 obtain ⟨A, h1, h2, h3⟩ := h.ex
 refine w_stint x' y ho hd hx hy rfl ((blk_cell h2 0).trans (Array.getElem?_eq_getElem (by omega))) (blk_free h2 0) (fun z => hK z _ ?_ (Tch.setCell (F := fun q => q = b) _ _ _ (fun _ => rfl)))
 exact h.set 0 _ _ (fun A g => stw_f0 g x)
theorem SX.w1 (h : SX G b s w) (x : Int) (x' y : Operand) (ho : o.op = .store 2 x' y) (hd : o.dst = none) (hx : a.eval x' = .pointer (some ⟨b, 1, none⟩)) (hy : a.eval y = (.int .i64 x))
  (hK : ∀ z wz, SX G b { s with nid := x } wz -> Tch (fun q => q = b) w wz -> K (a.put o.dst z) wz) : Oper.wp Tryz.prog o a w K Q := by
 obtain ⟨A, h1, h2, h3⟩ := h.ex
 refine w_stint64 x' y ho hd hx hy rfl ((blk_cell h2 1).trans (Array.getElem?_eq_getElem (by omega))) (blk_free h2 1) (fun z => hK z _ ?_ (Tch.setCell (F := fun q => q = b) _ _ _ (fun _ => rfl)))
 exact h.set 1 _ _ (fun A g => stw_f1 g x)
theorem SX.st1 (h : SX G b s w) (x : Int) {y : Operand} (ha : a.eval (.tmp k) = .pointer (some ⟨b, 1, none⟩)) (hy : a.eval y = (.int .i64 x))
  (hK : ∀ wz, Hid (SX G b { s with nid := x } wz) -> Hid (Tch (fun q => q = b) w wz) -> wpList Tryz.prog ops Q rest a wz) :
  wpList Tryz.prog ops Q (⟨none, .store 2 (.tmp k) y, ty, pos, af, none⟩ :: rest) a w :=
 wpList_plain rfl fun K hK2 => h.w1 x (.tmp k) y rfl rfl ha hy (fun z wz h1 h2 => hK2 _ _ (hK wz h1 h2))
theorem SX.w2 (h : SX G b s w) (x : Int) (x' y : Operand) (ho : o.op = .store 2 x' y) (hd : o.dst = none) (hx : a.eval x' = .pointer (some ⟨b, 2, none⟩)) (hy : a.eval y = (.int .i64 x))
  (hK : ∀ z wz, SX G b { s with nseq := x } wz -> Tch (fun q => q = b) w wz -> K (a.put o.dst z) wz) : Oper.wp Tryz.prog o a w K Q := by
 obtain ⟨A, h1, h2, h3⟩ := h.ex
 refine w_stint64 x' y ho hd hx hy rfl ((blk_cell h2 2).trans (Array.getElem?_eq_getElem (by omega))) (blk_free h2 2) (fun z => hK z _ ?_ (Tch.setCell (F := fun q => q = b) _ _ _ (fun _ => rfl)))
 exact h.set 2 _ _ (fun A g => stw_f2 g x)
theorem SX.st2 (h : SX G b s w) (x : Int) {y : Operand} (ha : a.eval (.tmp k) = .pointer (some ⟨b, 2, none⟩)) (hy : a.eval y = (.int .i64 x))
  (hK : ∀ wz, Hid (SX G b { s with nseq := x } wz) -> Hid (Tch (fun q => q = b) w wz) -> wpList Tryz.prog ops Q rest a wz) :
  wpList Tryz.prog ops Q (⟨none, .store 2 (.tmp k) y, ty, pos, af, none⟩ :: rest) a w :=
 wpList_plain rfl fun K hK2 => h.w2 x (.tmp k) y rfl rfl ha hy (fun z wz h1 h2 => hK2 _ _ (hK wz h1 h2))
theorem SX.w3 (h : SX G b s w) (x : Int) (x' y : Operand) (ho : o.op = .store 2 x' y) (hd : o.dst = none) (hx : a.eval x' = .pointer (some ⟨b, 3, none⟩)) (hy : a.eval y = (.int .i64 x))
  (hK : ∀ z wz, SX G b { s with tx := x } wz -> Tch (fun q => q = b) w wz -> K (a.put o.dst z) wz) : Oper.wp Tryz.prog o a w K Q := by
 obtain ⟨A, h1, h2, h3⟩ := h.ex
 refine w_stint64 x' y ho hd hx hy rfl ((blk_cell h2 3).trans (Array.getElem?_eq_getElem (by omega))) (blk_free h2 3) (fun z => hK z _ ?_ (Tch.setCell (F := fun q => q = b) _ _ _ (fun _ => rfl)))
 exact h.set 3 _ _ (fun A g => stw_f3 g x)
theorem SX.w4 (h : SX G b s w) {l : List MsgM} (hv : ∀ W, Tch G w W -> IsMsgs W v l) (x' y : Operand) (ho : o.op = .store 24 x' y) (hd : o.dst = none) (hx : a.eval x' = .pointer (some ⟨b, 4, none⟩)) (hy : a.eval y = v)
  (hK : ∀ z wz, SX G b { s with ms := l } wz -> Tch (fun q => q = b) w wz -> K (a.put o.dst z) wz) : Oper.wp Tryz.prog o a w K Q := by
 obtain ⟨A, h1, h2, h3⟩ := h.ex
 refine w_stSMessage x' y ho hd hx hy (CellsAt.one (hv w (Tch.refl _ _))) ((blk_cell h2 4).trans (Array.getElem?_eq_getElem (by omega))) (blk_free h2 4) (fun z => hK z _ ?_ (Tch.setCell (F := fun q => q = b) _ _ _ (fun _ => rfl)))
 exact h.set 4 _ _ (fun A g => stw_f4 g hv)
theorem SX.w5 (h : SX G b s w) {l : List BrM} (p : List (BrM × Value)) (hp : p.map Prod.fst = l) (hv : ∀ W, Tch G w W -> IsL (encPr (fun q : BrM => q.tid)) 2 W v p /\ ∀ x ∈ p, IsPuts W x.2 x.1.puts) (x' y : Operand) (ho : o.op = .store 25 x' y) (hd : o.dst = none) (hx : a.eval x' = .pointer (some ⟨b, 5, none⟩)) (hy : a.eval y = v)
  (hK : ∀ z wz, SX G b { s with waits := l } wz -> Tch (fun q => q = b) w wz -> K (a.put o.dst z) wz) : Oper.wp Tryz.prog o a w K Q := by
 obtain ⟨A, h1, h2, h3⟩ := h.ex
 refine w_stSBranch x' y ho hd hx hy (CellsAt.one (hv w (Tch.refl _ _)).1) ((blk_cell h2 5).trans (Array.getElem?_eq_getElem (by omega))) (blk_free h2 5) (fun z => hK z _ ?_ (Tch.setCell (F := fun q => q = b) _ _ _ (fun _ => rfl)))
 exact h.set 5 _ _ (fun A g => stw_f5 g p hp hv)
theorem SX.w6 (h : SX G b s w) {l : List EndM} (hv : ∀ W, Tch G w W -> IsEnds W v l) (x' y : Operand) (ho : o.op = .store 26 x' y) (hd : o.dst = none) (hx : a.eval x' = .pointer (some ⟨b, 6, none⟩)) (hy : a.eval y = v)
  (hK : ∀ z wz, SX G b { s with ends := l } wz -> Tch (fun q => q = b) w wz -> K (a.put o.dst z) wz) : Oper.wp Tryz.prog o a w K Q := by
 obtain ⟨A, h1, h2, h3⟩ := h.ex
 refine w_stSEnd x' y ho hd hx hy (CellsAt.one (hv w (Tch.refl _ _))) ((blk_cell h2 6).trans (Array.getElem?_eq_getElem (by omega))) (blk_free h2 6) (fun z => hK z _ ?_ (Tch.setCell (F := fun q => q = b) _ _ _ (fun _ => rfl)))
 exact h.set 6 _ _ (fun A g => stw_f6 g hv)
theorem SX.w7 (h : SX G b s w) {l : List PendM} (p : List (PendM × Value)) (hp : p.map Prod.fst = l) (hv : ∀ W, Tch G w W -> IsL (encPr (fun q : PendM => q.tid)) 2 W v p /\ ∀ x ∈ p, IsInts W x.2 x.1.parts) (x' y : Operand) (ho : o.op = .store 27 x' y) (hd : o.dst = none) (hx : a.eval x' = .pointer (some ⟨b, 7, none⟩)) (hy : a.eval y = v)
  (hK : ∀ z wz, SX G b { s with opens := l } wz -> Tch (fun q => q = b) w wz -> K (a.put o.dst z) wz) : Oper.wp Tryz.prog o a w K Q := by
 obtain ⟨A, h1, h2, h3⟩ := h.ex
 refine w_stSPend x' y ho hd hx hy (CellsAt.one (hv w (Tch.refl _ _)).1) ((blk_cell h2 7).trans (Array.getElem?_eq_getElem (by omega))) (blk_free h2 7) (fun z => hK z _ ?_ (Tch.setCell (F := fun q => q = b) _ _ _ (fun _ => rfl)))
 exact h.set 7 _ _ (fun A g => stw_f7 g p hp hv)
theorem SX.w8 (h : SX G b s w) {l : List PendM} (p : List (PendM × Value)) (hp : p.map Prod.fst = l) (hv : ∀ W, Tch G w W -> IsL (encPr (fun q : PendM => q.tid)) 2 W v p /\ ∀ x ∈ p, IsInts W x.2 x.1.parts) (x' y : Operand) (ho : o.op = .store 27 x' y) (hd : o.dst = none) (hx : a.eval x' = .pointer (some ⟨b, 8, none⟩)) (hy : a.eval y = v)
  (hK : ∀ z wz, SX G b { s with noes := l } wz -> Tch (fun q => q = b) w wz -> K (a.put o.dst z) wz) : Oper.wp Tryz.prog o a w K Q := by
 obtain ⟨A, h1, h2, h3⟩ := h.ex
 refine w_stSPend x' y ho hd hx hy (CellsAt.one (hv w (Tch.refl _ _)).1) ((blk_cell h2 8).trans (Array.getElem?_eq_getElem (by omega))) (blk_free h2 8) (fun z => hK z _ ?_ (Tch.setCell (F := fun q => q = b) _ _ _ (fun _ => rfl)))
 exact h.set 8 _ _ (fun A g => stw_f8 g p hp hv)
theorem SX.load (h : SX G b s w) {d : Nat} (ha : a.eval (.tmp k) = .pointer (some ⟨b, 0, none⟩)) (hK : ∀ A : Array Value, Hid (StW (Tch G w) (.agg A) s) -> wpList Tryz.prog ops Q rest (a.put (some d) (.agg A)) w) :
  wpList Tryz.prog ops Q (⟨some d, .load 29 (.tmp k), ty, pos, af, none⟩ :: rest) a w := by
 obtain ⟨A, h1, h2, h3⟩ := h.ex
 refine wpList_plain rfl fun K hK2 => ?_
 unfold Oper.wp
 rw [sx_ld rfl ha h1 h2]
 exact hK2 _ _ (hK A h3)
theorem SX.wloadX (h : SX G b s w) (x : Operand) (ho : o.op = .load 29 x) (ha : a.eval x = .pointer (some ⟨b, 0, none⟩)) (hK : ∀ v : Value, StW (Tch G w) v s -> K (a.put o.dst v) w) : Oper.wp Tryz.prog o a w K Q := by
 obtain ⟨A, h1, h2, h3⟩ := h.ex
 unfold Oper.wp
 rw [sx_ld ho ha h1 h2]
 exact hK _ h3
theorem SX0.wstore {s' : StM} {v7 : Value} {w7 : World} (h : SX0 G b w7) (s7 : StW (Tch G w7) v7 s') (x y : Operand) (ho : o.op = .store 29 x y)
  (ha : a.eval x = .pointer (some ⟨b, 0, none⟩)) (hv : a.eval y = v7) (hK : ∀ z wz, SX G b s' wz -> Tch (fun k => k = b) w7 wz -> K (a.put o.dst z) wz) : Oper.wp Tryz.prog o a w7 K Q := by
 obtain ⟨A, h1, h2⟩ := h.ex
 obtain ⟨am, cm, aw, cw, ae, ce, ao, co, an, cn, rfl⟩ := sx_vals (s7.is (Tch.refl _ _))
 obtain ⟨l, hl⟩ : ∃ l : List Value, [.int .i64 s'.broker, .int .i64 s'.nid, .int .i64 s'.nseq, .int .i64 s'.tx, .slice am s'.ms.length cm, .slice aw s'.waits.length cw, .slice ae s'.ends.length ce, .slice ao s'.opens.length co, .slice an s'.noes.length cn] = l := ⟨_, rfl⟩
 have hl9 : l.length = 9 := by rw [<- hl]; rfl
 have hone : ∀ u ∈ l, u.oneCell' = true := by
  rw [<- hl]
  intro u hu
  simp only [List.mem_cons, List.not_mem_nil, or_false] at hu
  rcases hu with rfl | rfl | rfl | rfl | rfl | rfl | rfl | rfl | rfl <;> rfl
 have hst := run_storeCells_cells (P := Tryz.prog) b 0 l 0 w7 (by intro j hj; rw [Nat.zero_add, blk_cell h2 j]; simp; omega) (by intro j hj; exact blk_free h2 _) hone
 obtain ⟨cur, g1, g2, g3⟩ := blk_sets l 0 w7 A h2 (by omega)
 have hcur : cur = l.toArray := by
  apply Array.ext_getElem?
  intro i
  rw [g3 i]
  simp only [Nat.zero_le, Nat.zero_add, Nat.sub_zero, true_and, List.getElem?_toArray]
  split
  ·rfl
  ·rw [List.getElem?_eq_none (by omega), Array.getElem?_eq_none (by omega)]
 have hsb : SX G b s' (w7.setCells b 0 l) := by
  have tz : Tch (fun k => k = b) w7 (w7.setCells b 0 l) := Tch.setCells (F := fun k => k = b) rfl l 0 w7
  refine ⟨h.mem, l.toArray, by simpa using hl9, by rw [<- hcur]; exact g1, ?_⟩
  rw [<- hl] at tz ⊢
  exact s7.mono (fun X tx => (tz.mono (fun k _ e => by rw [e]; exact h.mem)).trans tx (fun _ _ e => e))
 rw [hl] at hv
 unfold Oper.wp
 rw [sx_stv ho ha hv hl9 (by simpa using hst)]
 have hd := hK undef _ hsb (Tch.setCells (F := fun k => k = b) rfl l 0 w7)
 exact hK _ _ hsb (Tch.setCells (F := fun k => k = b) rfl l 0 w7)
theorem SX0.store {s' : StM} {v7 : Value} {w7 : World} (h : SX0 G b w7) (s7 : StW (Tch G w7) v7 s') {j : Nat}
  (ha : a.eval (.tmp k) = .pointer (some ⟨b, 0, none⟩)) (hv : a.eval (.tmp j) = v7) (hK : ∀ wz, Hid (SX G b s' wz) -> Hid (Tch (fun k => k = b) w7 wz) -> wpList Tryz.prog ops Q rest a wz) :
  wpList Tryz.prog ops Q (⟨none, .store 29 (.tmp k) (.tmp j), ty, pos, af, none⟩ :: rest) a w7 :=
 wpList_plain rfl fun K hK2 => h.wstore s7 (.tmp k) (.tmp j) rfl ha hv (fun z wz h1 h2 => hK2 _ _ (hK wz h1 h2))
theorem SX.new {G' : Nat -> Prop} {w2 : World} {Z : Array Value} {v2 : Value} (h : StW (Tch G w2) v2 s) (hG : ∀ k, k < w2.heap.size -> G' k -> G k) (hb : w2.heap.size = b) (hm : G' b) (hZ : Z.size = 9) {j : Nat}
  (ha : a.eval (.tmp k) = .pointer (some ⟨b, 0, none⟩)) (hv : a.eval (.tmp j) = v2) (hK : ∀ wz, Hid (SX G' b s wz) -> Hid (Tch No w2 wz) -> wpList Tryz.prog ops Q rest a wz) :
  wpList Tryz.prog ops Q (⟨none, .store 29 (.tmp k) (.tmp j), ty, pos, af, none⟩ :: rest) a (w2.alloc (.cells Z 29 (0, 0))) := by
 have ta := Tch.alloc w2 (.cells Z 29 (0, 0))
 refine SX0.store (G := G') ⟨hm, Z, hZ, by rw [<- hb]; exact blk_new _ _⟩ (h.mono (fun X tx => ta.no.trans tx hG)) ha hv (fun wz h1 h2 => hK wz h1 (ta.fresh h2.out (fun i e => by rw [e, <- hb]; exact Nat.le_refl _)))
end
end Go.Proofs.YtafndmnbnmlklaaGreat
