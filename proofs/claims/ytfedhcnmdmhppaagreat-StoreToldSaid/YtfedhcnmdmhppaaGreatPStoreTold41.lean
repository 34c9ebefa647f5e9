/- Part 41 of what the proof of StoreTold rests on. No condition. -/
import Derived.BigQuiet
import Derived.ChangeSame
import Derived.Deep.Slices
import Derived.StillTailTactics
import Derived.Test.YtfedhcnmdmhppaaGreatPStoreTold01
import Derived.Test.YtfedhcnmdmhppaaGreatPStoreTold26
import Derived.Test.YtfedhcnmdmhppaaGreatPStoreTold40
namespace Go.Proofs.YtfedhcnmdmhppaaGreat
set_option maxRecDepth 100000
set_option maxHeartbeats 60000000
set_option linter.unusedVariables false
set_option linter.unusedSimpArgs false
section
open Go.RowKit Go.Maps
instance (x : Int) : Decidable (I64 x) := by unfold I64; infer_instance
instance (s : Txt) : Decidable (OkT s) := by unfold OkT; infer_instance
instance (p : PutM) : Decidable (OkPut p) := by unfold OkPut; infer_instance
instance (m : MsgM) : Decidable (OkMsg m) := by unfold OkMsg; infer_instance
def okStB (s : StM) : Bool := decide (I64 s.broker /\ I64 s.nid /\ I64 s.nseq /\ I64 s.tx /\ (∀ m ∈ s.ms, OkMsg m) /\ (∀ b ∈ s.waits, I64 b.tid /\ ∀ p ∈ b.puts, OkPut p) /\ (∀ e ∈ s.ends, I64 e.tid) /\ (∀ p ∈ s.opens, I64 p.tid /\ ∀ x ∈ p.parts, I64 x) /\ (∀ p ∈ s.noes, I64 p.tid /\ ∀ x ∈ p.parts, I64 x))
theorem okSt_of {s : StM} (h : okStB s = true) : OkSt s := by
 obtain ⟨a, b, c, d, e, f, g, i, j⟩ := of_decide_eq_true h
 exact ⟨a, b, c, d, e, f, g, i, j⟩
structure SB (G : Nat -> Prop) (w0 : World) (b : Nat) (s : StM) (w : World) : Prop where
 mem : G b
 own : ∀ k, G k -> w0.heap.size <= k
 lt : ∀ k, G k -> k < w.heap.size
 t : Tch No w0 w
 ex : ∃ A : Array Value, A.size = 9 /\ w.heap[b]? = some (.cells A 27 (0, 0)) /\ StW (Tch G w) (.agg A) s
theorem SB.keep {G : Nat -> Prop} {w0 w w' : World} {b : Nat} {s : StM} (h : SB G w0 b s w) (t : Tch No w w') : SB G w0 b s w' := by
 obtain ⟨A, h1, h2, h3⟩ := h.ex
 exact ⟨h.mem, h.own, fun k hk => Nat.lt_of_lt_of_le (h.lt k hk) t.size, h.t.trans0 t, A, h1, blk_tch t h2 (fun h => h), stw_fwd h3 t⟩
theorem SB.keepG {G : Nat -> Prop} {w0 w w' : World} {b : Nat} {s : StM} (h : SB G w0 b s w) (t : Tch (fun k => G k /\ k ≠ b) w w') : SB G w0 b s w' := by
 obtain ⟨A, h1, h2, h3⟩ := h.ex
 exact ⟨h.mem, h.own, fun k hk => Nat.lt_of_lt_of_le (h.lt k hk) t.size, h.t.fresh t (fun q e => h.own q e.1), A, h1, blk_tch t h2 (fun h => h.2 rfl), stw_keep h3 (t.mono (fun k _ e => e.1))⟩
theorem SB.is {G : Nat -> Prop} {w0 w : World} {b : Nat} {s : StM} (h : SB G w0 b s w) : ∃ A : Array Value, w.heap[b]? = some (.cells A 27 (0, 0)) /\ IsSt w (.agg A) s := by
 obtain ⟨A, h1, h2, h3⟩ := h.ex
 exact ⟨A, h2, h3.is (Tch.refl _ _)⟩
theorem szSt : Ev.szOf Tryz.prog 27 = some 9 := by kernel_rfl
theorem agSt : Ev.isAg Tryz.prog 27 = some true := by kernel_rfl
theorem run_ldst {ρ : Operand -> Value} {o : Oper} {x : Operand} {b : Nat} {A : Array Value} {fr : Nat × Nat} {w : World} (ho : o.op = .load 27 x) (hp : ρ x = .pointer (some ⟨b, 0, none⟩)) (h1 : A.size = 9) (h2 : w.heap[b]? = some (.cells A 27 fr)) :
  (execOp ρ o).run Tryz.prog w = .ok (.value (.agg A)) w := by
 have hl := run_loadCells_list (P := Tryz.prog) w ⟨b, 0, none⟩ A.toList (fun j x hx => by have h3 := blk_cell h2 j; have e : (⟨b, 0, none⟩ : Addr).add j = ⟨b, j, none⟩ := (by unfold Addr.add; split <;> simp_all); rw [e, h3]; simpa using hx)
 have hlen : A.toList.length = 9 := by simp [h1]
 rw [hlen] at hl
 unfold execOp
 rw [ho]
 simp [hp, Instr.loadAt, Instr.sureAddr, loadVar, Sem.run_bind, Ev.run_isAg agSt, Ev.run_sz szSt, hl]
theorem run_stst {ρ : Operand -> Value} {o : Oper} {x y : Operand} {b : Nat} {l : List Value} {w w' : World} (ho : o.op = .store 27 x y) (hp : ρ x = .pointer (some ⟨b, 0, none⟩)) (hv : ρ y = .agg l.toArray) (h1 : l.length = 9) (hst : (storeCells ⟨b, 0, none⟩ l).run Tryz.prog w = .ok () w') :
  (execOp ρ o).run Tryz.prog w = .ok .skip w' := by
 unfold execOp
 rw [ho]
 simp [hp, hv, Value.cells, Instr.storeAt, Instr.sureAddr, storeVar, Sem.run_bind, Ev.run_sz szSt, h1, hst]
theorem SB.load {G : Nat -> Prop} {w0 w : World} {b : Nat} {s : StM} (h : SB G w0 b s w) {ops : Array Oper} {Q : Exit -> Act -> World -> Prop} {rest : List Oper} {a : Act} {d k : Nat} {ty : TypeId} {pos : String} {af : Array Edge}
  (ha : a.eval (.tmp k) = .pointer (some ⟨b, 0, none⟩)) (hK : ∀ A : Array Value, Hid (StW (Tch G w) (.agg A) s) -> wpList Tryz.prog ops Q rest (a.put (some d) (.agg A)) w) :
  wpList Tryz.prog ops Q (⟨some d, .load 27 (.tmp k), ty, pos, af, none⟩ :: rest) a w := by
 obtain ⟨A, h1, h2, h3⟩ := h.ex
 refine wpList_plain rfl fun K hK2 => ?_
 unfold Oper.wp
 rw [run_ldst rfl ha h1 h2]
 exact hK2 _ _ (hK A h3)
structure SB0 (G : Nat -> Prop) (w0 : World) (b : Nat) (w : World) : Prop where
 mem : G b
 own : ∀ k, G k -> w0.heap.size <= k
 lt : ∀ k, G k -> k < w.heap.size
 t : Tch No w0 w
 ex : ∃ A : Array Value, A.size = 9 /\ w.heap[b]? = some (.cells A 27 (0, 0))
theorem SB0.store {G : Nat -> Prop} {w0 w w7 : World} {b : Nat} {s' : StM} {v7 : Value} (h : SB0 G w0 b w) (t : Tch No w w7) (s7 : StW (Tch (fun k => G k /\ k < w.heap.size) w7) v7 s') {ops : Array Oper} {Q : Exit -> Act -> World -> Prop} {rest : List Oper} {a : Act} {k j : Nat} {ty : TypeId} {pos : String} {af : Array Edge}
  (ha : a.eval (.tmp k) = .pointer (some ⟨b, 0, none⟩)) (hv : a.eval (.tmp j) = v7) (hK : ∀ wz, Hid (SB G w0 b s' wz) -> Hid (Tch (fun k => k = b) w7 wz) -> wpList Tryz.prog ops Q rest a wz) :
  wpList Tryz.prog ops Q (⟨none, .store 27 (.tmp k) (.tmp j), ty, pos, af, none⟩ :: rest) a w7 := by
 obtain ⟨A, h1, h2⟩ := h.ex
 have h2' := blk_tch t h2 (fun h => h)
 obtain ⟨am, cm, aw, cw, ae, ce, ao, co, an, cn, rfl⟩ := stw_vals s7 (Tch.refl _ _)
 refine wpList_plain rfl fun K hK2 => ?_
 obtain ⟨l, hl⟩ : ∃ l : List Value, [.int .i64 s'.broker, .int .i64 s'.nid, .int .i64 s'.nseq, .int .i64 s'.tx, .slice am s'.ms.length cm, .slice aw s'.waits.length cw, .slice ae s'.ends.length ce, .slice ao s'.opens.length co, .slice an s'.noes.length cn] = l := ⟨_, rfl⟩
 have hl9 : l.length = 9 := by rw [<- hl]; rfl
 have hone : ∀ u ∈ l, u.oneCell' = true := by
  rw [<- hl]
  intro u hu
  simp only [List.mem_cons, List.not_mem_nil, or_false] at hu
  rcases hu with rfl | rfl | rfl | rfl | rfl | rfl | rfl | rfl | rfl <;> rfl
 have hst := run_storeCells_cells (P := Tryz.prog) b 0 l 0 w7 (by intro j hj; rw [Nat.zero_add, blk_cell h2' j]; simp; omega) (by intro j hj; exact blk_free h2' _) hone
 obtain ⟨cur, g1, g2, g3⟩ := blk_sets l 0 w7 A h2' (by omega)
 have hcur : cur = l.toArray := by
  apply Array.ext_getElem?
  intro i
  rw [g3 i]
  simp only [Nat.zero_le, Nat.zero_add, Nat.sub_zero, true_and, List.getElem?_toArray]
  split
  ·rfl
  ·rw [List.getElem?_eq_none (by omega), Array.getElem?_eq_none (by omega)]
 have hsb : SB G w0 b s' (w7.setCells b 0 l) := by
  have tz : Tch (fun k => k = b) w7 (w7.setCells b 0 l) := Tch.setCells (F := fun k => k = b) rfl l 0 w7
  refine ⟨h.mem, h.own, fun k hk => Nat.lt_of_lt_of_le (Nat.lt_of_lt_of_le (h.lt k hk) t.size) tz.size, (h.t.trans0 t).fresh tz (fun q e => by rw [e]; exact h.own _ h.mem), l.toArray, by simpa using hl9, by rw [<- hcur]; exact g1, ?_⟩
  rw [<- hl] at tz ⊢
  exact s7.mono (fun X tx => (tz.mono (fun k _ e => by rw [e]; exact ⟨h.mem, h.lt _ h.mem⟩)).trans (tx.mono (fun k hk e => ⟨e, h.lt k e⟩)) (fun _ _ e => e))
 rw [hl] at hv
 unfold Oper.wp
 rw [run_stst rfl ha hv hl9 (by simpa using hst)]
 exact hK2 _ _ (hK _ hsb (Tch.setCells (F := fun k => k = b) rfl l 0 w7))
theorem SB.store {G : Nat -> Prop} {w0 w w7 : World} {b : Nat} {s s' : StM} {v7 : Value} (h : SB G w0 b s w) (t : Tch No w w7) (s7 : StW (Tch (fun k => G k /\ k < w.heap.size) w7) v7 s') {ops : Array Oper} {Q : Exit -> Act -> World -> Prop} {rest : List Oper} {a : Act} {k j : Nat} {ty : TypeId} {pos : String} {af : Array Edge}
  (ha : a.eval (.tmp k) = .pointer (some ⟨b, 0, none⟩)) (hv : a.eval (.tmp j) = v7) (hK : ∀ wz, Hid (SB G w0 b s' wz) -> Hid (Tch (fun k => k = b) w7 wz) -> wpList Tryz.prog ops Q rest a wz) :
  wpList Tryz.prog ops Q (⟨none, .store 27 (.tmp k) (.tmp j), ty, pos, af, none⟩ :: rest) a w7 :=
 SB0.store (by obtain ⟨A, h1, h2, h3⟩ := h.ex; exact ⟨h.mem, h.own, h.lt, h.t, A, h1, h2⟩) t s7 ha hv hK
theorem SB.new {w0 w2 : World} {b : Nat} {s : StM} {v : Value} {Z : Array Value} (t : Tch No w0 w2) (h : StW (Tch No w2) v s) (hb : w2.heap.size = b) (hZ : Z.size = 9) {ops : Array Oper} {Q : Exit -> Act -> World -> Prop} {rest : List Oper} {a : Act} {k j : Nat} {ty : TypeId} {pos : String} {af : Array Edge}
  (ha : a.eval (.tmp k) = .pointer (some ⟨b, 0, none⟩)) (hv : a.eval (.tmp j) = v) (hK : ∀ wz, Hid (SB (fun q => q = b) w0 b s wz) -> wpList Tryz.prog ops Q rest a wz) :
  wpList Tryz.prog ops Q (⟨none, .store 27 (.tmp k) (.tmp j), ty, pos, af, none⟩ :: rest) a (w2.alloc (.cells Z 27 (0, 0))) := by
 subst hb
 refine SB0.store (G := fun q => q = w2.heap.size) (w0 := w0) (w := w2.alloc (.cells Z 27 (0, 0))) ⟨rfl, fun k e => ?_, fun k e => ?_, t.trans0 (Tch.alloc _ _), Z, hZ, blk_new _ _⟩ (Tch.refl _ _) ?_ ha hv (fun wz h1 _ => hK wz h1)
 ·subst e; exact t.size
 ·subst e; exact blk_lt (blk_new _ _)
 ·exact h.mono (fun X tx => (Tch.alloc w2 _).trans tx (fun i hi e => absurd e.1 (Nat.ne_of_lt hi)))
theorem SB.cell {G : Nat -> Prop} {w0 w : World} {b : Nat} {s : StM} (h : SB G w0 b s w) : ∃ am cm aw cw ae ce ao co an cn, w.heap[b]? = some (.cells #[.int .i64 s.broker, .int .i64 s.nid, .int .i64 s.nseq, .int .i64 s.tx, .slice am s.ms.length cm, .slice aw s.waits.length cw, .slice ae s.ends.length ce, .slice ao s.opens.length co, .slice an s.noes.length cn] 27 (0, 0)) /\ IsSt w (.agg #[.int .i64 s.broker, .int .i64 s.nid, .int .i64 s.nseq, .int .i64 s.tx, .slice am s.ms.length cm, .slice aw s.waits.length cw, .slice ae s.ends.length ce, .slice ao s.opens.length co, .slice an s.noes.length cn]) s := by
 obtain ⟨A, h1, h2⟩ := h.is
 obtain ⟨am, cm, aw, cw, ae, ce, ao, co, an, cn, e⟩ := h2.vals
 injection e with e
 subst e
 exact ⟨am, cm, aw, cw, ae, ce, ao, co, an, cn, h1, h2⟩
theorem IsSt.ms {W : World} {a b c d vm vw ve vo vn : Value} {s : StM} (h : IsSt W (.agg #[a, b, c, d, vm, vw, ve, vo, vn]) s) : IsMsgs W vm s.ms := by
 obtain ⟨vm', vw', ve', vo', vn', e, h1, _⟩ := h
 injection e with e
 injection e with e
 simp only [List.cons.injEq] at e
 obtain ⟨_, _, _, _, rfl, _⟩ := e
 exact h1
end
section
open Go.RowKit Go.Maps
theorem SB.noes0 {G : Nat -> Prop} {w0 w : World} {b : Nat} {s : StM} (h : SB G w0 b s w) {n : Nat} (hm : s.noes.length = n) : ∃ am cm, w.cell? ⟨b, 8, none⟩ = some (.slice am n cm) := by
 obtain ⟨am, cm, aw, cw, ae, ce, ao, co, an, cn, h1, h2⟩ := h.cell
 exact ⟨an, cn, by rw [<- hm]; exact (blk_cell h1 8).trans rfl⟩
theorem SB.widen {G : Nat -> Prop} {w0 w : World} {b : Nat} {s : StM} (h : SB G w0 b s w) (o : Obj) : SB (fun k => G k ∨ k = w.heap.size) w0 b s (w.alloc o) := by
 obtain ⟨A, h1, h2, h3⟩ := h.ex
 have ta := Tch.alloc w o
 refine ⟨.inl h.mem, fun k e => ?_, fun k e => ?_, h.t.trans0 ta, A, h1, blk_tch ta h2 (fun h => h), h3.mono (fun X tx => ta.no.trans tx (fun i hi e => e.elim id (fun e => absurd e (Nat.ne_of_lt hi))))⟩
 ·rcases e with e | e
  ·exact h.own k e
  ·subst e; exact h.t.size
 ·rcases e with e | e
  ·exact Nat.lt_of_lt_of_le (h.lt k e) ta.size
  ·subst e; exact blk_lt (blk_new _ _)
theorem IsSt.rest {W : World} {a b c d vm vw ve vo vn : Value} {s : StM} (h : IsSt W (.agg #[a, b, c, d, vm, vw, ve, vo, vn]) s) : IsBrs W vw s.waits /\ IsEnds W ve s.ends /\ IsPends W vo s.opens /\ IsPends W vn s.noes := by
 obtain ⟨vm', vw', ve', vo', vn', e, h1, h2, h3, h4, h5⟩ := h
 injection e with e
 injection e with e
 simp only [List.cons.injEq] at e
 obtain ⟨_, _, _, _, _, rfl, rfl, rfl, rfl, _⟩ := e
 exact ⟨h2, h3, h4, h5⟩
theorem SB.noes1 {G : Nat -> Prop} {w0 w : World} {b : Nat} {s : StM} {t : Int} {l : List Int} (h : SB G w0 b s w) (hm : s.noes = [⟨t, l⟩]) : ∃ nb no cn pa pc, 1 <= cn /\ cn <= maxLen /\ w.cell? ⟨b, 8, none⟩ = some (.slice (some ⟨nb, no, none⟩) 1 cn) /\ w.cell? ⟨nb, no, none⟩ = some (.int .i64 t) /\ w.cell? ⟨nb, no + 1, none⟩ = some (.slice pa l.length pc) := by
 obtain ⟨am, cm, aw, cw, ae, ce, ao, co, an, cn, h1, h2⟩ := h.cell
 obtain ⟨_, _, _, h3⟩ := h2.rest
 rw [hm] at h1 h3
 obtain ⟨vs, hl, hc, hi⟩ := h3
 have g := hi 0 (by simp) (by rw [hl]; simp)
 obtain ⟨v0, hv0⟩ : ∃ x, vs[0]'(by rw [hl]; simp) = x := ⟨_, rfl⟩
 have hvs : vs = [v0] := by
  match vs, hl, hv0 with
  | [x], _, e => exact congrArg (fun y => [y]) e
 subst hvs
 simp only [List.getElem_cons_zero] at g
 obtain ⟨pa, pc, e0, _⟩ : ∃ pa pc, v0 = .slice pa l.length pc /\ True := by
  rcases g.2 with ⟨e, e2⟩ | ⟨b2, o2, c2, e, _⟩
  ·exact ⟨none, 0, by rw [e, e2], trivial⟩
  ·exact ⟨_, _, e, trivial⟩
 subst e0
 rcases hc.2 with ⟨_, h0⟩ | ⟨nb, no, cn2, e, g1, g2, g3, g5⟩
 ·simp at h0
 ·injection e with e1 _ e2
  subst e1; subst e2
  exact ⟨nb, no, cn, pa, pc, by simpa using g1, g2, (blk_cell h1 8).trans rfl, g5 0 _ rfl, g5 1 _ rfl⟩
theorem SB.ends1 {G : Nat -> Prop} {w0 w : World} {b : Nat} {s : StM} {t : Int} {y : Bool} (h : SB G w0 b s w) (hm : s.ends = [⟨t, y⟩]) : ∃ nb no cn, 1 <= cn /\ cn <= maxLen /\ w.cell? ⟨b, 6, none⟩ = some (.slice (some ⟨nb, no, none⟩) 1 cn) /\ w.cell? ⟨nb, no, none⟩ = some (.int .i64 t) /\ w.cell? ⟨nb, no + 1, none⟩ = some (.bool y) := by
 obtain ⟨am, cm, aw, cw, ae, ce, ao, co, an, cn, h1, h2⟩ := h.cell
 obtain ⟨_, h3, _, _⟩ := h2.rest
 rw [hm] at h1 h3
 unfold IsEnds at h3
 rcases h3.2 with ⟨_, h0⟩ | ⟨nb, no, cn2, e, g1, g2, g3, g5⟩
 ·simp at h0
 ·injection e with e1 _ e2
  subst e1; subst e2
  exact ⟨nb, no, ce, by simpa using g1, g2, (blk_cell h1 6).trans rfl, g5 0 _ rfl, g5 1 _ rfl⟩
end
section
open Go.RowKit Go.Maps Go.ChangeShapes Go.WideShapes Go.Deep
def IsBls (w : World) (a : Option Addr) (len cap : Nat) : Prop :=
 len <= cap /\ cap <= maxLen /\ ∀ i, i < len -> ∃ b o x, a = some ⟨b, o, none⟩ /\ w.cell? ⟨b, o + i, none⟩ = some (.bool x)
theorem IsBls.nil (w : World) : IsBls w none 0 0 := ⟨Nat.le_refl _, Nat.zero_le _, fun i h => by omega⟩
variable {H : Type} {enc : TypeId × Value -> H} {w : World} {base : Nat}
theorem open_bls {fuel : Nat} {cs : List Value} {y : DataW H × List MemPlace} (h : DataW.trod enc Tryz.prog w base (fun _ => true) true fuel 47 cs = some y) :
  ∃ a len cap, cs = [.slice a len cap] /\ IsBls w a len cap := by
 rcases open_slice ((Tryz.underlying47)) h with h0 | ⟨a, len, cap, m, n, D, Pl, hcs, hb, hl, hm, hmm, hx, hi⟩
 ·exact ⟨none, 0, 0, h0.1, IsBls.nil w⟩
 ·refine ⟨some a, len, cap, hcs, hl, hm, fun i hil => ?_⟩
  have him : i < m := by rw [hmm]; split <;> omega
  obtain ⟨ab, ao, asp⟩ := a
  have hspot : asp = none := by
   obtain ⟨cs', hc, _⟩ := hi 0 (by omega)
   rw [show Tryz.prog.cellsOf 4 = 1 by kernel_rfl] at hc
   obtain ⟨_, hcl, hat⟩ := World.cells?_some hc
   have h1 := hat 0 (by omega)
   rw [List.getElem?_eq_getElem (by omega)] at h1
   have := World.cell?_spot h1
   simpa [Addr.add] using this
  subst hspot
  obtain ⟨cs', hc, ht'⟩ := hi i him
  rw [show Tryz.prog.cellsOf 4 = 1 by kernel_rfl] at hc
  obtain ⟨_, hcl, hat⟩ := World.cells?_some hc
  match cs', hcl with
  | [c0], _ =>
   obtain ⟨x, hb4, _⟩ := DataW.trod_bool Tryz.underlying4 ht'
   simp only [List.cons.injEq, and_true] at hb4
   subst hb4
   exact ⟨ab, ao, x, rfl, by simpa [addr_add] using hat 0 (by omega)⟩
end
end Go.Proofs.YtfedhcnmdmhppaaGreat
