/- Part 25 of what the proof of OrderCounts rests on. No condition. -/
import Derived.Test.YtelaljoebdpicaaGreatPOrderCounts23
import Derived.Test.YtelaljoebdpicaaGreatPOrderCounts24
namespace Go.Proofs.YtelaljoebdpicaaGreat
set_option maxRecDepth 100000
set_option maxHeartbeats 60000000
set_option linter.unusedVariables false
set_option linter.unusedSimpArgs false
set_option linter.unusedSectionVars false
section
open Go.RowKit Go.Maps
structure StB (w w1 : World) (b : Nat) (cur : Array Value) (W : World) : Prop where
 t : Tch No w W
 box : W.heap[b]? = some (.cells cur 27 (0, 0))
 res : W.heap[b + 1]? = some (.cells #[.int .i64 0, .int .i64 0, .int .i64 0, .int .i64 0, .slice none 0 0, .slice none 0 0, .slice none 0 0, .slice none 0 0, .slice none 0 0] 27 (0, 0))
 le : w1.heap.size <= W.heap.size
 bs : w.heap.size = b /\ w1.heap.size = b + 2
theorem StB.grow {F : Nat -> Prop} {w w1 W W' : World} {b : Nat} {cur : Array Value} (h : StB w w1 b cur W) (t : Tch F W W') (hF : ∀ k, F k -> w1.heap.size <= k) : StB w w1 b cur W' :=
 ⟨h.t.fresh t (fun k e => by have h1 := hF k e; have h2 := h.bs; omega), blk_tch t h.box (fun e => by have h1 := hF _ e; have h2 := h.bs; omega), blk_tch t h.res (fun e => by have h1 := hF _ e; have h2 := h.bs; omega), Nat.le_trans h.le t.size, h.bs⟩
theorem StB.keep {w w1 W W' : World} {b : Nat} {cur : Array Value} (h : StB w w1 b cur W) (t : Tch No W W') : StB w w1 b cur W' := h.grow t (fun _ e => e.elim)
theorem StB.set {w w1 W : World} {b : Nat} {cur cur' : Array Value} (h : StB w w1 b cur W) (j : Nat) (u : Value) (hc : cur.setIfInBounds j u = cur') : StB w w1 b cur' (W.setCell ⟨b, j, none⟩ u) := by
 subst hc
 have t := Tch.setCell (F := fun q => q = b) W ⟨b, j, none⟩ u (fun _ => rfl)
 exact ⟨h.t.fresh t (fun k e => by have h2 := h.bs; omega), blk_set h.box j u, blk_tch t h.res (fun e => by omega), Nat.le_trans h.le t.size, h.bs⟩
theorem RowI.box {α : Type} {enc : α -> List Value} {ok : Nat -> α -> Prop} {e : TypeId} {m n b j : Nat} {w1 W : World} {v u : Value} (h : RowI enc ok e m n w1 v W) (hb : b < w1.heap.size) : RowI enc ok e m n w1 v (W.setCell ⟨b, j, none⟩ u) := by
 have h' := h
 obtain ⟨l, h1, h2, h3⟩ := h
 exact h'.tch (Tch.setCell (F := fun q => q = b) W ⟨b, j, none⟩ u (fun _ => rfl)) (fun k hk e => by have := h2.2 k hk; omega)
theorem RowI.young {α : Type} {enc : α -> List Value} {ok : Nat -> α -> Prop} {e : TypeId} {m n : Nat} {w1 W : World} {v : Value} (h : RowI enc ok e m n w1 v W) : ∀ b, v.ownBlock = some b -> w1.heap.size <= b := by
 obtain ⟨l, h1, h2, h3⟩ := h
 exact h2.2
theorem own_typ {w : World} {base : Nat} {e : TypeId} {s n b : Nat} {v : Value} {x : List Value} (h : w.ownsRow base e s v n x) (hb : v.ownBlock = some b) : ∃ cur, w.heap[b]? = some (.cells cur e (0, 0)) := by
 rcases h.2 with ⟨h1, _⟩ | ⟨g, cap, cur, h1, h2, h3, _⟩
 ·rw [h1] at hb; simp [Value.ownBlock] at hb
 ·rw [h1] at hb
  simp [Value.ownBlock] at hb
  subst hb; exact ⟨cur, h3⟩
theorem own_apart9 {w : World} {e1 e2 : TypeId} (hne : e1 ≠ e2) {s1 n1 s2 n2 : Nat} {v1 v2 : Value} {x1 x2 : List Value} (h1 : w.ownsRow 0 e1 s1 v1 n1 x1) (h2 : w.ownsRow 0 e2 s2 v2 n2 x2) (b : Nat) (hb1 : v1.ownBlock = some b) : v2.ownBlock ≠ some b := fun hb2 => by
 obtain ⟨c1, g1⟩ := own_typ h1 hb1
 obtain ⟨c2, g2⟩ := own_typ h2 hb2
 rw [g1] at g2
 injection g2 with g2
 injection g2 with _ g2
 exact hne g2
theorem RowI.apart {α β : Type} {enc : α -> List Value} {enc' : β -> List Value} {ok : Nat -> α -> Prop} {ok' : Nat -> β -> Prop} {e e' : TypeId} {m n m' n' : Nat} {w1 W : World} {v v' : Value} (h : RowI enc ok e m n w1 v W) (h' : RowI enc' ok' e' m' n' w1 v' W) (hne : e ≠ e') : ∀ b, v.ownBlock = some b -> v'.ownBlock ≠ some b := by
 obtain ⟨l, h1, h2, h3⟩ := h
 obtain ⟨l', h1', h2', h3'⟩ := h'
 exact fun b hb => own_apart9 hne h2.1 h2'.1 b hb
theorem RowI.typ {α : Type} {enc : α -> List Value} {ok : Nat -> α -> Prop} {e : TypeId} {m n b : Nat} {w1 W : World} {v : Value} (h : RowI enc ok e m n w1 v W) (hb : v.ownBlock = some b) : ∃ cur, W.heap[b]? = some (.cells cur e (0, 0)) := by
 obtain ⟨l, h1, h2, h3⟩ := h
 exact own_typ h2.1 hb
def ok3 (k : Nat) (a b : Bool) (i : Nat) (m : MsgM) : Prop := MsgL m /\ (i < k -> OkMsg m) /\ (i = k -> (a = true -> OkT m.q) /\ (b = true -> OkT m.b))
theorem ok3_start (i : Nat) (m : MsgM) (h : MsgL m) : ok3 0 false false i m := ⟨h, fun e => by omega, fun _ => ⟨fun e => (by cases e), fun e => (by cases e)⟩⟩
theorem ok3_next {k i : Nat} {m : MsgM} (h : ok3 k true true i m) : ok3 (k + 1) false false i m := by
 refine ⟨h.1, fun e => ?_, fun _ => ⟨fun e => (by cases e), fun e => (by cases e)⟩⟩
 by_cases e2 : i < k
 ·exact h.2.1 e2
 ·have h3 := h.2.2 (by omega)
  exact ⟨h.1.1, h3.1 rfl, h3.2 rfl, h.1.2.2.2.1, h.1.2.2.2.2.1, h.1.2.2.2.2.2⟩
theorem okT_of {q : Txt} (h : q.length <= 62) : OkT q := by unfold OkT lim; omega
theorem ok3_q {k : Nat} {m : MsgM} {q : Txt} (h : ok3 k false false k m) (hq : q.length <= 62) : ok3 k true false k { m with q := q } :=
 ⟨⟨h.1.1, by show q.length <= _; omega, h.1.2.2⟩, fun e => by omega, fun _ => ⟨fun _ => okT_of hq, fun e => (by cases e)⟩⟩
theorem ok3_b {k : Nat} {m : MsgM} {q : Txt} (h : ok3 k true false k m) (hq : q.length <= 62) : ok3 k true true k { m with b := q } :=
 ⟨⟨h.1.1, h.1.2.1, by show q.length <= _; omega, h.1.2.2.2⟩, fun e => by omega, fun _ => ⟨fun _ => (h.2.2 rfl).1 rfl, fun _ => okT_of hq⟩⟩
theorem ok3_other {k i : Nat} {a b a' b' : Bool} {m : MsgM} (hi : i ≠ k) (h : ok3 k a b i m) : ok3 k a' b' i m := ⟨h.1, h.2.1, fun e => absurd e hi⟩
section
variable {ρ : Operand -> Value} {o : Oper}
theorem y_min (x y : Operand) {a b c : Int} (ho : o.op = .call { callee := .builtin .min, args := #[x, y], argTypes := #[3, 3] }) (hx : ρ x = .int .i64 a) (hy : ρ y = .int .i64 b) (hc : min a b = c) (W : World) : Runs Tryz.prog ρ o W (.int .i64 c) W := by
 subst hc
 constructor
 unfold execOp
 simp only [ho, hx, hy]
 go_simp
theorem y_bdRec5 (x0 : Operand) {v0 : Value} (ho : o.op = .build 37 #[(5, x0)]) (h0 : ρ x0 = v0) (k0 : v0.oneCell' = true) (W : World) : Runs Tryz.prog ρ o W (.agg #[.int .i64 0, .int .i64 0, .int .i64 0, .bool false, .slice none 0 0, v0]) W := by
 constructor
 have c0 := one_cells k0
 simp only [Value.cells] at c0
 unfold execOp
 simp only [ho, h0]
 go_simp
theorem y_fldRec5 (x0 : Operand) {v0 v1 v2 v3 v4 v5 : Value} (ho : o.op = .field 37 x0 5) (h0 : ρ x0 = .agg #[v0, v1, v2, v3, v4, v5]) (k5 : v5.oneCell' = true) (W : World) : Runs Tryz.prog ρ o W v5 W := by
 constructor
 have ha := Tryz.isAgg35
 unfold execOp
 simp only [ho, h0]
 simp [Instr.field, go_sem, part, ha, asAgg]
end
def okW (w w1 : World) (k : Nat) (W : World) (i : Nat) (p : BrM × Value) : Prop :=
 I64 p.1.tid /\ (i < k -> OwnN w1 45 2 p.1.puts.length (p.1.puts.flatMap encPut) p.2 W /\ ∀ x ∈ p.1.puts, OkPut x) /\ (k <= i -> LPuts w p.2 p.1.puts /\ ∀ x ∈ p.1.puts, PutL x)
def okO (w w1 : World) (k : Nat) (W : World) (i : Nat) (p : PendM × Value) : Prop :=
 I64 p.1.tid /\ (∀ x ∈ p.1.parts, I64 x) /\ (i < k -> OwnN w1 3 1 p.1.parts.length (p.1.parts.map fun x => .int .i64 x) p.2 W) /\ (k <= i -> LInts w p.2 p.1.parts)
theorem okW_tch {w w1 W W' : World} {k i : Nat} {p : BrM × Value} {F : Nat -> Prop} (h : okW w w1 k W i p) (t : Tch F W W') (hF : ∀ b, F b -> ∃ cur e, e ≠ 45 /\ W.heap[b]? = some (.cells cur e (0, 0))) : okW w w1 k W' i p := by
 refine ⟨h.1, fun e => ?_, h.2.2⟩
 obtain ⟨h1, h2⟩ := h.2.1 e
 refine ⟨⟨own_tch h1.1 t (fun b hb hf => ?_), h1.2⟩, h2⟩
 obtain ⟨cur, e2, hne, hb2⟩ := hF b hf
 obtain ⟨c1, g1⟩ := own_typ h1.1 hb
 rw [g1] at hb2
 injection hb2 with hb2
 injection hb2 with _ hb2
 exact hne hb2.symm
theorem okO_tch {w w1 W W' : World} {k i : Nat} {p : PendM × Value} {F : Nat -> Prop} (h : okO w w1 k W i p) (t : Tch F W W') (hF : ∀ b, F b -> ∃ cur e, e ≠ 3 /\ W.heap[b]? = some (.cells cur e (0, 0))) : okO w w1 k W' i p := by
 refine ⟨h.1, h.2.1, fun e => ?_, h.2.2.2⟩
 have h1 := h.2.2.1 e
 refine ⟨own_tch h1.1 t (fun b hb hf => ?_), h1.2⟩
 obtain ⟨cur, e2, hne, hb2⟩ := hF b hf
 obtain ⟨c1, g1⟩ := own_typ h1.1 hb
 rw [g1] at hb2
 injection hb2 with hb2
 injection hb2 with _ hb2
 exact hne hb2.symm
theorem lstate_any (s : StM) (v : Value) (w : World) (h : ArgSt w v s) :
  Calls Tryz.prog 13 #[v] w fun e w' => ∃ v' s', e = .returned v' /\ OkSt s' /\ Tch No w w' /\ StW (Tch (fun k => k < w.heap.size) w') v' s' := by
 obtain ⟨vm, vw, ve, vo, vn, prb, pro, prn, rfl, hA⟩ := h
 obtain ⟨am, cm, rfl, hx1, hx2⟩ := hA.ms.shape
 clear hx1 hx2
 obtain ⟨aw, cw, rfl, hx1, hx2⟩ := hA.cb.shape
 clear hx1 hx2
 obtain ⟨ae, ce, rfl, hx1, hx2⟩ := hA.en.shape
 clear hx1 hx2
 obtain ⟨ao, co, rfl, hx1, hx2⟩ := hA.co.shape
 clear hx1 hx2
 obtain ⟨an, cn, rfl, hx1, hx2⟩ := hA.cn.shape
 clear hx1 hx2
 have HA := Lib.hid hA
 have hlm := hA.lm
 have hlw := hA.lb
 have hle := hA.le
 have hlo := hA.lo
 have hln := hA.ln
 have HOM : Hid (Ones (s.ms.flatMap encMsg)) := ones_flat ones_msg _
 have HOE : Hid (Ones (s.ends.flatMap encEnd)) := ones_flat ones_end _
 have HOW : Hid (Ones (prb.flatMap (encPr fun x : BrM => x.tid))) := ones_pr (fun p hp => CellsL.one (hA.ib p hp))
 have HOO : Hid (Ones (pro.flatMap (encPr fun x : PendM => x.tid))) := ones_pr (fun p hp => CellsL.one (hA.io p hp))
 have HON : Hid (Ones (prn.flatMap (encPr fun x : PendM => x.tid))) := ones_pr (fun p hp => CellsL.one (hA.inn p hp))
 have HCPY := Lib.hid (fun (W : World) (t : Tch No w W) => rcopy_own s.broker s.nid s.nseq s.tx _ _ _ _ _ _ _ _ _ _ am aw ae ao an cm cw ce co cn W (HA.out.ms.keep t) (HA.out.cb.keep t) (HA.out.en.keep t) (HA.out.co.keep t) (HA.out.cn.keep t) HOM.out HOW.out HOE.out HOO.out HON.out hlm hlw hle hlo hln)
 have HLM : Hid (∀ i (hi : i < s.ms.length), MsgL s.ms[i]) := fun i hi => hA.okm _ (List.getElem_mem hi)
 have HLE : Hid (∀ i (hi : i < s.ends.length), I64 s.ends[i].tid) := fun i hi => hA.oke _ (List.getElem_mem hi)
 have HLW : Hid (∀ i (hi : i < prb.length), LPuts w prb[i].2 prb[i].1.puts /\ I64 prb[i].1.tid /\ ∀ x ∈ prb[i].1.puts, PutL x) := fun i hi => by
  have hm := List.getElem_mem hi
  have h2 := hA.okb prb[i].1 (by rw [<- hA.fb]; exact List.mem_map_of_mem hm)
  exact ⟨hA.ib _ hm, h2.1, h2.2⟩
 have HLO : Hid (∀ i (hi : i < pro.length), LInts w pro[i].2 pro[i].1.parts /\ I64 pro[i].1.tid /\ ∀ x ∈ pro[i].1.parts, I64 x) := fun i hi => by
  have hm := List.getElem_mem hi
  have h2 := hA.oko pro[i].1 (by rw [<- hA.fo]; exact List.mem_map_of_mem hm)
  exact ⟨hA.io _ hm, h2.1, h2.2⟩
 have HLN : Hid (∀ i (hi : i < prn.length), LInts w prn[i].2 prn[i].1.parts /\ I64 prn[i].1.tid /\ ∀ x ∈ prn[i].1.parts, I64 x) := fun i hi => by
  have hm := List.getElem_mem hi
  have h2 := hA.okn prn[i].1 (by rw [<- hA.fn]; exact List.mem_map_of_mem hm)
  exact ⟨hA.inn _ hm, h2.1, h2.2⟩
 have HNS := Lib.hid hA.nums
 clear hA HA HOM HOE HOW HOO HON
 obtain ⟨br, ni, ns, tx, ms, waits, ends, opens, noes⟩ := s
 simp only at HCPY HLM HLE HNS hlm hle ⊢
 obtain ⟨nm, hnm⟩ : ∃ n, ms.length = n := ⟨_, rfl⟩
 rw [hnm] at HCPY hlm ⊢
 obtain ⟨ne, hne⟩ : ∃ n, ends.length = n := ⟨_, rfl⟩
 rw [hne] at HCPY hle ⊢
 obtain ⟨nw, hnw⟩ : ∃ n, prb.length = n := ⟨_, rfl⟩
 rw [hnw] at HCPY hlw ⊢
 obtain ⟨no, hno⟩ : ∃ n, pro.length = n := ⟨_, rfl⟩
 rw [hno] at HCPY hlo ⊢
 obtain ⟨nn, hnn⟩ : ∃ n, prn.length = n := ⟨_, rfl⟩
 rw [hnn] at HCPY hln ⊢
 have HLEN := Lib.hid (And.intro hnm (And.intro hne (And.intro hnw (And.intro hno hnn))))
 clear hnm hne hnw hno hnn
 go_enter Tryz.func13, Tryz.ntmps13
 go_upto_region 1 with fail
 obtain ⟨b1, hb1⟩ : ∃ x, w.heap.size = x := ⟨_, rfl⟩
 obtain ⟨w1, hw1, SB0⟩ : ∃ W, (w.alloc (.cells #[.int .i64 br, .int .i64 ni, .int .i64 ns, .int .i64 tx, .slice am nm cm, .slice aw nw cw, .slice ae ne ce, .slice ao no co, .slice an nn cn] 27)).alloc (.cells #[.int .i64 0, .int .i64 0, .int .i64 0, .int .i64 0, .slice none 0 0, .slice none 0 0, .slice none 0 0, .slice none 0 0, .slice none 0 0] 27) = W /\ Hid (StB w W b1 #[.int .i64 br, .int .i64 ni, .int .i64 ns, .int .i64 tx, .slice am nm cm, .slice aw nw cw, .slice ae ne ce, .slice ao no co, .slice an nn cn] W) := by
  refine ⟨_, rfl, (Tch.alloc _ _).trans0 (Tch.alloc _ _), blk_tch (Tch.alloc _ _) (by rw [<- hb1]; exact blk_new w _) (fun h => h), ?_, Nat.le_refl _, hb1, by rw [<- hb1]; simp⟩
  have := blk_new (w.alloc (.cells #[.int .i64 br, .int .i64 ni, .int .i64 ns, .int .i64 tx, .slice am nm cm, .slice aw nw cw, .slice ae ne ce, .slice ao no co, .slice an nn cn] 27)) (.cells #[.int .i64 0, .int .i64 0, .int .i64 0, .int .i64 0, .slice none 0 0, .slice none 0 0, .slice none 0 0, .slice none 0 0, .slice none 0 0] 27)
  rw [size_alloc, hb1] at this
  exact this
 rw [hw1, hb1]
 have HB1 := Lib.hid hb1
 clear hw1 hb1
 have kb := fun j => blk_cell SB0.out.box j
 have q0 : w1.cell? ⟨b1, 0, none⟩ = some (.int .i64 br) := by rw [kb]; rfl
 have q1 : w1.cell? ⟨b1, 1, none⟩ = some (.int .i64 ni) := by rw [kb]; rfl
 have q2 : w1.cell? ⟨b1, 2, none⟩ = some (.int .i64 ns) := by rw [kb]; rfl
 have q3 : w1.cell? ⟨b1, 3, none⟩ = some (.int .i64 tx) := by rw [kb]; rfl
 have q4 : w1.cell? ⟨b1, 4, none⟩ = some (.slice am nm cm) := by rw [kb]; rfl
 have q5 : w1.cell? ⟨b1, 5, none⟩ = some (.slice aw nw cw) := by rw [kb]; rfl
 have q6 : w1.cell? ⟨b1, 6, none⟩ = some (.slice ae ne ce) := by rw [kb]; rfl
 have q7 : w1.cell? ⟨b1, 7, none⟩ = some (.slice ao no co) := by rw [kb]; rfl
 have q8 : w1.cell? ⟨b1, 8, none⟩ = some (.slice an nn cn) := by rw [kb]; rfl
 clear kb
 go_wp2_with fail
 refine (HCPY.out w1 SB0.out.t).mono ?_
 rintro e w2 ⟨xm, ym, xw, yw, xe, ye, xo, yo, xn, yn, rfl, hC⟩
 have CP := Lib.hid hC
 clear hC q0 q1 q2 q3 q4 q5 q6 q7 q8 HCPY
 have SB2 : Hid (StB w w1 b1 #[.int .i64 br, .int .i64 ni, .int .i64 ns, .int .i64 tx, .slice am nm cm, .slice aw nw cw, .slice ae ne ce, .slice ao no co, .slice an nn cn] w2) := SB0.out.keep CP.out.t
 have kb := fun j => blk_cell SB2.out.box j
 have fb := fun j => blk_free SB2.out.box j
 have q0 : w2.cell? ⟨b1, 0, none⟩ = some (.int .i64 br) := by rw [kb]; rfl
 have q1 : w2.cell? ⟨b1, 1, none⟩ = some (.int .i64 ni) := by rw [kb]; rfl
 have q2 : w2.cell? ⟨b1, 2, none⟩ = some (.int .i64 ns) := by rw [kb]; rfl
 have q3 : w2.cell? ⟨b1, 3, none⟩ = some (.int .i64 tx) := by rw [kb]; rfl
 have q4 : w2.cell? ⟨b1, 4, none⟩ = some (.slice am nm cm) := by rw [kb]; rfl
 have q5 : w2.cell? ⟨b1, 5, none⟩ = some (.slice aw nw cw) := by rw [kb]; rfl
 have q6 : w2.cell? ⟨b1, 6, none⟩ = some (.slice ae ne ce) := by rw [kb]; rfl
 have q7 : w2.cell? ⟨b1, 7, none⟩ = some (.slice ao no co) := by rw [kb]; rfl
 have q8 : w2.cell? ⟨b1, 8, none⟩ = some (.slice an nn cn) := by rw [kb]; rfl
 clear kb
 go_upto_region 2 with fail
 obtain ⟨w3, hw3, SB, T3⟩ : ∃ W, (((((((((w2.setCell ⟨b1, 0, none⟩ (.int .i64 br)).setCell ⟨b1, 1, none⟩ (.int .i64 ni)).setCell ⟨b1, 2, none⟩ (.int .i64 ns)).setCell ⟨b1, 3, none⟩ (.int .i64 tx)).setCell ⟨b1, 4, none⟩ (.slice xm nm ym)).setCell ⟨b1, 5, none⟩ (.slice xw nw yw)).setCell ⟨b1, 6, none⟩ (.slice xe ne ye)).setCell ⟨b1, 7, none⟩ (.slice xo no yo)).setCell ⟨b1, 8, none⟩ (.slice xn nn yn)) = W /\ Hid (StB w w1 b1 #[.int .i64 br, .int .i64 ni, .int .i64 ns, .int .i64 tx, .slice xm nm ym, .slice xw nw yw, .slice xe ne ye, .slice xo no yo, .slice xn nn yn] W) /\ Hid (Tch (fun q => q = b1) w2 W) := by
  obtain ⟨g1, g2⟩ := set9 (.int .i64 br) (.int .i64 ni) (.int .i64 ns) (.int .i64 tx) (.slice xm nm ym) (.slice xw nw yw) (.slice xe ne ye) (.slice xo no yo) (.slice xn nn yn) SB2.out.box
  exact ⟨_, rfl, ⟨SB2.out.t.fresh g2 (fun k e => by have := SB2.out.bs; omega), g1, blk_tch g2 SB2.out.res (fun e => by omega), Nat.le_trans SB2.out.le g2.size, SB2.out.bs⟩, g2⟩
 rw [hw3]
 clear hw3 fb q0 q1 q2 q3 q4 q5 q6 q7 q8
 have hb2 : b1 < w1.heap.size := by have := SB.out.bs; omega
 have RM : Hid (RowI encMsg (fun _ m => MsgL m) 50 6 nm w1 (.slice xm nm ym) w3) := RowI.tch ⟨ms, HLEN.out.1, CP.out.om, HLM.out⟩ T3.out (fun k hk e => by have := CP.out.om.2 k hk; omega)
 have RW : Hid (RowI (encPr fun q : BrM => q.tid) (fun _ p => LPuts w p.2 p.1.puts /\ I64 p.1.tid /\ ∀ x ∈ p.1.puts, PutL x) 74 2 nw w1 (.slice xw nw yw) w3) := RowI.tch ⟨prb, HLEN.out.2.2.1, CP.out.ow, HLW.out⟩ T3.out (fun k hk e => by have := CP.out.ow.2 k hk; omega)
 have RE : Hid (RowI encEnd (fun _ e => I64 e.tid) 57 2 ne w1 (.slice xe ne ye) w3) := RowI.tch ⟨ends, HLEN.out.2.1, CP.out.oe, HLE.out⟩ T3.out (fun k hk e => by have := CP.out.oe.2 k hk; omega)
 have RO : Hid (RowI (encPr fun q : PendM => q.tid) (fun _ p => LInts w p.2 p.1.parts /\ I64 p.1.tid /\ ∀ x ∈ p.1.parts, I64 x) 76 2 no w1 (.slice xo no yo) w3) := RowI.tch ⟨pro, HLEN.out.2.2.2.1, CP.out.oo, HLO.out⟩ T3.out (fun k hk e => by have := CP.out.oo.2 k hk; omega)
 have RN : Hid (RowI (encPr fun q : PendM => q.tid) (fun _ p => LInts w p.2 p.1.parts /\ I64 p.1.tid /\ ∀ x ∈ p.1.parts, I64 x) 76 2 nn w1 (.slice xn nn yn) w3) := RowI.tch ⟨prn, HLEN.out.2.2.2.2, CP.out.on, HLN.out⟩ T3.out (fun k hk e => by have := CP.out.on.2 k hk; omega)
 have AP := Lib.hid CP.out.apart
 clear CP SB2 SB0 T3 HLM HLE HLW HLO HLN HLEN
 obtain ⟨km1, km2⟩ := RowI.lens RM.out
 obtain ⟨km, hkm⟩ : ∃ z, min nm 74 = z := ⟨_, rfl⟩
 have gm : min (nm : Int) 74 = (km : Int) := by omega
 have gm0 : (0 : Int) <= (km : Int) := by omega
 have gm1 : (km : Int) <= (ym : Int) := by omega
 have gm2 : km <= nm /\ km <= 74 := by omega
 clear hkm
 have q4 : w3.cell? ⟨b1, 4, none⟩ = some (.slice xm nm ym) := (blk_cell SB.out.box 4).trans rfl
 have f4 := blk_free SB.out.box 4
 go_upto_region 3 with fail
 clear q4 f4
 obtain ⟨w4, hw4, SBn⟩ : ∃ X, w3.setCell ⟨b1, 4, none⟩ (.slice xm km ym) = X /\ Hid (StB w w1 b1 #[.int .i64 br, .int .i64 ni, .int .i64 ns, .int .i64 tx, .slice xm km ym, .slice xw nw yw, .slice xe ne ye, .slice xo no yo, .slice xn nn yn] X) := ⟨_, rfl, SB.out.set 4 _ rfl⟩
 rw [hw4]
 clear SB
 have SB := SBn
 clear SBn
 have RMn := Lib.hid (RowI.cut (RowI.box (j := 4) (u := .slice xm km ym) RM.out hb2) (fun _ => rfl) gm2.1)
 rw [hw4] at RMn
 clear RM
 have RM := RMn
 clear RMn
 have RWn := Lib.hid (RowI.box (j := 4) (u := .slice xm km ym) RW.out hb2)
 rw [hw4] at RWn
 clear RW
 have RW := RWn
 clear RWn
 have REn := Lib.hid (RowI.box (j := 4) (u := .slice xm km ym) RE.out hb2)
 rw [hw4] at REn
 clear RE
 have RE := REn
 clear REn
 have ROn := Lib.hid (RowI.box (j := 4) (u := .slice xm km ym) RO.out hb2)
 rw [hw4] at ROn
 clear RO
 have RO := ROn
 clear ROn
 have RNn := Lib.hid (RowI.box (j := 4) (u := .slice xm km ym) RN.out hb2)
 rw [hw4] at RNn
 clear RN
 have RN := RNn
 clear RNn
 clear hw4
 have q4 : w4.cell? ⟨b1, 4, none⟩ = some (.slice xm km ym) := (blk_cell SB.out.box 4).trans rfl
 have RM0 : Hid (RowI encMsg (ok3 0 false false) 50 6 km w1 (.slice xm km ym) w4) := RM.out.mono (fun i x _ h => ok3_start i x h)
 go_wp2_with fail
 clear q4
 go_loopg [3, 20] km (fun kx s3 s20 wr => ∃ k : Nat, s20 = .int .i64 k /\ k <= km /\ km - k <= kx /\ Hid (Tch (fun q => (Value.slice xm km ym).ownBlock = some q) w4 wr) /\ Hid (StB w w1 b1 #[.int .i64 br, .int .i64 ni, .int .i64 ns, .int .i64 tx, .slice xm km ym, .slice xw nw yw, .slice xe ne ye, .slice xo no yo, .slice xn nn yn] wr) /\ Hid (RowI encMsg (ok3 k false false) 50 6 km w1 (.slice xm km ym) wr))
 case atStart => exact ⟨0, rfl, Nat.zero_le _, by omega, Tch.refl _ _, SB, RM0⟩
 case round =>
  clear RM0
  obtain ⟨k, rfl, hk, hkx, TT, SR, RR⟩ := hrel
  by_cases hlt : k < km
  ·obtain ⟨g, m0, rfl, _, hg1, hg2, _, _⟩ := RR.out.elem (fun _ => rfl) hlt
   have GG : Hid (w1.heap.size <= g) := hg1
   clear hg1 hg2
   have q4 : wr.cell? ⟨b1, 4, none⟩ = some (.slice (some ⟨g, 0, none⟩) km ym) := (blk_cell SR.out.box 4).trans rfl
   have mixed : Tryz.prog.follows .mixedOrders = true := by kernel_rfl
   go_upto_region 6 with fail
   refine frame_var 158 rfl (fun fr hfr hsz => ?_)
   have h1 : fr.eval (.tmp 1) = .pointer (some ⟨b1, 0, none⟩) := by rw [hfr.out]; rfl
   have h3 : fr.eval (.tmp 3) = .int .i64 ((k : Nat) : Int) := by rw [hfr.out]; rfl
   clear q4
   have hlist : ∀ f ∈ ([(fun x _ => x = .pointer (some ⟨b1, 4, none⟩)), (fun x _ => x = .slice (some ⟨g, 0, none⟩) km ym), (fun x _ => x = .int .i64 ((k : Nat) : Int)), (fun x _ => x = .pointer (some ⟨b1, 4, none⟩)), (fun x _ => x = .slice (some ⟨g, 0, none⟩) km ym), (fun x _ => x = .int .i64 ((k : Nat) : Int)), (fun x _ => x = .pointer (some ⟨b1, 4, none⟩)), (fun x _ => x = .slice (some ⟨g, 0, none⟩) km ym), (fun x _ => x = .int .i64 ((k : Nat) : Int)), (fun x _ => x = .pointer (some ⟨g, 0 + k * 6, none⟩)), (fun x _ => x = .pointer (some ⟨g, 0 + k * 6 + 1, none⟩)), (fun x _ => TxaV x), (fun x _ => TxlV 62 x), (fun x _ => x = .pointer (some ⟨b1, 4, none⟩)), (fun x _ => x = .slice (some ⟨g, 0, none⟩) km ym), (fun x _ => x = .int .i64 ((k : Nat) : Int)), (fun x _ => x = .pointer (some ⟨g, 0 + k * 6, none⟩)), (fun x _ => x = .pointer (some ⟨g, 0 + k * 6 + 2, none⟩)), (fun x _ => TxaV x), (fun x _ => TxlV 62 x), (fun x _ => x = .pointer (some ⟨g, 0 + k * 6, none⟩)), (fun x _ => x = .pointer (some ⟨g, 0 + k * 6 + 1, none⟩)), (fun x _ => True), (fun x _ => x = .pointer (some ⟨g, 0 + k * 6, none⟩)), (fun x _ => x = .pointer (some ⟨g, 0 + k * 6 + 2, none⟩)), (fun x _ => True)] : List (Value -> World -> Prop)), Stb f :=
    all_mem1 ((pur_eq _).stb) (all_mem1 ((pur_eq _).stb) (all_mem1 ((pur_eq _).stb) (all_mem1 ((pur_eq _).stb) (all_mem1 ((pur_eq _).stb) (all_mem1 ((pur_eq _).stb) (all_mem1 ((pur_eq _).stb) (all_mem1 ((pur_eq _).stb) (all_mem1 ((pur_eq _).stb) (all_mem1 ((pur_eq _).stb) (all_mem1 ((pur_eq _).stb) (all_mem1 (pur_p.stb) (all_mem1 (pur_p.stb) (all_mem1 ((pur_eq _).stb) (all_mem1 ((pur_eq _).stb) (all_mem1 ((pur_eq _).stb) (all_mem1 ((pur_eq _).stb) (all_mem1 ((pur_eq _).stb) (all_mem1 (pur_p.stb) (all_mem1 (pur_p.stb) (all_mem1 ((pur_eq _).stb) (all_mem1 ((pur_eq _).stb) (all_mem1 (pur_any.stb) (all_mem1 ((pur_eq _).stb) (all_mem1 ((pur_eq _).stb) (all_mem1 (pur_any.stb) (all_mem0))))))))))))))))))))))))))
   refine wp_region_inv4 [22, 25] (fun i => ([[0], [0], [0], [0, 1], [0, 1], [0, 1], [0], [0], [0], [0], [0], [0], [0], [0], [0], [0], [0], [0], [0], [0], [0], [0], [], [1], [1], []][i]?).getD []) (fun kst : Nat => match kst with | 0 => (fun W => StB w w1 b1 #[.int .i64 br, .int .i64 ni, .int .i64 ns, .int .i64 tx, .slice (some ⟨g, 0, none⟩) km ym, .slice xw nw yw, .slice xe ne ye, .slice xo no yo, .slice xn nn yn] W /\ Tch (fun q => (Value.slice (some ⟨g, 0, none⟩) km ym).ownBlock = some q) wr W /\ RowI encMsg (ok3 k false false) 50 6 km w1 (.slice (some ⟨g, 0, none⟩) km ym) W) | 1 => (fun W => StB w w1 b1 #[.int .i64 br, .int .i64 ni, .int .i64 ns, .int .i64 tx, .slice (some ⟨g, 0, none⟩) km ym, .slice xw nw yw, .slice xe ne ye, .slice xo no yo, .slice xn nn yn] W /\ Tch (fun q => (Value.slice (some ⟨g, 0, none⟩) km ym).ownBlock = some q) wr W /\ RowI encMsg (ok3 k true false) 50 6 km w1 (.slice (some ⟨g, 0, none⟩) km ym) W) | _ => (fun W => StB w w1 b1 #[.int .i64 br, .int .i64 ni, .int .i64 ns, .int .i64 tx, .slice (some ⟨g, 0, none⟩) km ym, .slice xw nw yw, .slice xe ne ye, .slice xo no yo, .slice xn nn yn] W /\ Tch (fun q => (Value.slice (some ⟨g, 0, none⟩) km ym).ownBlock = some q) wr W /\ RowI encMsg (ok3 k true true) 50 6 km w1 (.slice (some ⟨g, 0, none⟩) km ym) W)) (RL [(fun x _ => x = .pointer (some ⟨b1, 4, none⟩)), (fun x _ => x = .slice (some ⟨g, 0, none⟩) km ym), (fun x _ => x = .int .i64 ((k : Nat) : Int)), (fun x _ => x = .pointer (some ⟨b1, 4, none⟩)), (fun x _ => x = .slice (some ⟨g, 0, none⟩) km ym), (fun x _ => x = .int .i64 ((k : Nat) : Int)), (fun x _ => x = .pointer (some ⟨b1, 4, none⟩)), (fun x _ => x = .slice (some ⟨g, 0, none⟩) km ym), (fun x _ => x = .int .i64 ((k : Nat) : Int)), (fun x _ => x = .pointer (some ⟨g, 0 + k * 6, none⟩)), (fun x _ => x = .pointer (some ⟨g, 0 + k * 6 + 1, none⟩)), (fun x _ => TxaV x), (fun x _ => TxlV 62 x), (fun x _ => x = .pointer (some ⟨b1, 4, none⟩)), (fun x _ => x = .slice (some ⟨g, 0, none⟩) km ym), (fun x _ => x = .int .i64 ((k : Nat) : Int)), (fun x _ => x = .pointer (some ⟨g, 0 + k * 6, none⟩)), (fun x _ => x = .pointer (some ⟨g, 0 + k * 6 + 2, none⟩)), (fun x _ => TxaV x), (fun x _ => TxlV 62 x), (fun x _ => x = .pointer (some ⟨g, 0 + k * 6, none⟩)), (fun x _ => x = .pointer (some ⟨g, 0 + k * 6 + 1, none⟩)), (fun x _ => True), (fun x _ => x = .pointer (some ⟨g, 0 + k * 6, none⟩)), (fun x _ => x = .pointer (some ⟨g, 0 + k * 6 + 2, none⟩)), (fun x _ => True)]) [] [23, 24, 25, 26, 27, 28, 29, 30, 31, 32, 33, 34, 35, 36, 37, 38, 39, 40, 41, 42, 43, 44, 45, 46] [(some 23, [1], []), (some 24, [23], [0]), (some 25, [3], []), (some 26, [1], []), (some 27, [26], [3]), (some 28, [3], []), (some 29, [1], []), (some 30, [29], [6]), (some 31, [3], []), (some 32, [30, 31], [7, 8]), (some 33, [32], [9]), (some 34, [33], [10]), (some 35, [34], [11]), (some 36, [1], []), (some 37, [36], [13]), (some 38, [3], []), (some 39, [37, 38], [14, 15]), (some 40, [39], [16]), (some 41, [40], [17]), (some 42, [41], [18, 12]), (some 43, [24, 25], [1, 2, 0, 1, 2, 6, 7, 8, 9, 10, 11, 12, 18, 19]), (some 44, [43], [20, 0, 1, 2, 6, 7, 8, 9, 10, 11, 12, 18, 19]), (none, [44, 35], [21, 12, 19, 0, 1, 2, 6, 7, 8, 9, 10, 11, 12, 18, 19]), (some 45, [27, 28], [4, 5, 0, 1, 2, 3, 4, 5, 6, 7, 8, 9, 10, 11, 12, 13, 14, 15, 16, 17, 18, 19, 20, 21, 22]), (some 46, [45], [23, 0, 1, 2, 3, 4, 5, 6, 7, 8, 9, 10, 11, 12, 13, 14, 15, 16, 17, 18, 19, 20, 21, 22]), (none, [46, 42], [24, 19, 22, 0, 1, 2, 3, 4, 5, 6, 7, 8, 9, 10, 11, 12, 13, 14, 15, 16, 17, 18, 19, 20, 21, 22])] (fun i => ([[], [0], [], [], [3], [], [], [6], [], [6, 7, 8], [6, 7, 8, 9], [6, 7, 8, 9, 10], [6, 7, 8, 9, 10, 11], [], [13], [], [13, 14, 15], [13, 14, 15, 16], [13, 14, 15, 16, 17], [6, 7, 8, 9, 10, 11, 12, 13, 14, 15, 16, 17, 18], [0, 1, 2, 6, 7, 8, 9, 10, 11, 12, 13, 14, 15, 16, 17, 18, 19], [0, 1, 2, 6, 7, 8, 9, 10, 11, 12, 13, 14, 15, 16, 17, 18, 19, 20], [0, 1, 2, 6, 7, 8, 9, 10, 11, 12, 13, 14, 15, 16, 17, 18, 19, 20, 21], [0, 1, 2, 3, 4, 5, 6, 7, 8, 9, 10, 11, 12, 13, 14, 15, 16, 17, 18, 19, 20, 21, 22], [0, 1, 2, 3, 4, 5, 6, 7, 8, 9, 10, 11, 12, 13, 14, 15, 16, 17, 18, 19, 20, 21, 22, 23], [0, 1, 2, 3, 4, 5, 6, 7, 8, 9, 10, 11, 12, 13, 14, 15, 16, 17, 18, 19, 20, 21, 22, 23, 24]][i]?).getD []) (fun i => ([[], [0], [], [], [3], [], [], [6], [], [7, 8], [9], [10], [11], [], [13], [], [14, 15], [16], [17], [18], [1, 2], [20], [12, 21], [4, 5], [23], [19, 24]][i]?).getD []) (fun _ => []) (fun _ => []) (by kernel_rfl) (by kernel_rfl) (by kernel_rfl) (by rw [hsz]; kernel_rfl) (by kernel_rfl) (by kernel_rfl) ?_ (rl_pur ?_) ?_ ?_ ?_
   ·exact ⟨SR.out.keep (Tch.drew _), (Tch.drew _).no, RR.out.keep (Tch.drew _)⟩
   ·show ∀ j, j < 26 -> _ ∨ _
    refine all_lt1 (all_lt1 (all_lt1 (all_lt1 (all_lt1 (all_lt1 (all_lt1 (all_lt1 (all_lt1 (all_lt1 (all_lt1 (all_lt1 (all_lt1 (all_lt1 (all_lt1 (all_lt1 (all_lt1 (all_lt1 (all_lt1 (all_lt1 (all_lt1 (all_lt1 (all_lt1 (all_lt1 (all_lt1 (all_lt1 (all_lt0) (Or.inr (pur_eq _))) (Or.inr (pur_eq _))) (Or.inr (pur_eq _))) (Or.inr (pur_eq _))) (Or.inr (pur_eq _))) (Or.inr (pur_eq _))) (Or.inr (pur_eq _))) (Or.inr (pur_eq _))) (Or.inr (pur_eq _))) (Or.inr (pur_eq _))) (Or.inr (pur_eq _))) (Or.inr pur_p)) (Or.inr pur_p)) (Or.inr (pur_eq _))) (Or.inr (pur_eq _))) (Or.inr (pur_eq _))) (Or.inr (pur_eq _))) (Or.inr (pur_eq _))) (Or.inr pur_p)) (Or.inr pur_p)) (Or.inr (pur_eq _))) (Or.inr (pur_eq _))) (Or.inr pur_any)) (Or.inr (pur_eq _))) (Or.inr (pur_eq _))) (Or.inr pur_any)
   ·show ∀ i, i < 26 -> _
    refine all_lt1 (all_lt1 (all_lt1 (all_lt1 (all_lt1 (all_lt1 (all_lt1 (all_lt1 (all_lt1 (all_lt1 (all_lt1 (all_lt1 (all_lt1 (all_lt1 (all_lt1 (all_lt1 (all_lt1 (all_lt1 (all_lt1 (all_lt1 (all_lt1 (all_lt1 (all_lt1 (all_lt1 (all_lt1 (all_lt1 (all_lt0) ?c0) ?c1) ?c2) ?c3) ?c4) ?c5) ?c6) ?c7) ?c8) ?c9) ?c10) ?c11) ?c12) ?c13) ?c14) ?c15) ?c16) ?c17) ?c18) ?c19) ?c20) ?c21) ?c22) ?c23) ?c24) ?c25
    case c0 =>
     intro kst hkst
     replace hkst : kst ∈ ([0] : List Nat) := hkst
     simp only [List.mem_cons, List.not_mem_nil, or_false] at hkst
     rcases hkst with rfl
     ·exact iq (d := 23) (.pointer (some ⟨b1, 4, none⟩)) rfl (fun _ _ => rfl) (fun a W hf hC hn => y_faState4 (ρ := a.eval) (.tmp 1) (b := b1) (off := 0) rfl (hf.ev (by kernel_rfl) h1) W)
    case c1 =>
     intro kst hkst
     replace hkst : kst ∈ ([0] : List Nat) := hkst
     simp only [List.mem_cons, List.not_mem_nil, or_false] at hkst
     rcases hkst with rfl
     ·exact iq (d := 24) (.slice (some ⟨g, 0, none⟩) km ym) rfl (fun _ _ => rfl) (fun a W hf hC hn => y_ldSMessage (ρ := a.eval) (.tmp 23) (ad := ⟨b1, 4, none⟩) rfl (hn 0 (by decide)) W (((blk_cell (hC.1).box 4).trans rfl)))
    case c2 =>
     intro kst hkst
     replace hkst : kst ∈ ([0] : List Nat) := hkst
     simp only [List.mem_cons, List.not_mem_nil, or_false] at hkst
     rcases hkst with rfl
     ·exact iq (d := 25) (.int .i64 ((k : Nat) : Int)) rfl (fun _ _ => rfl) (fun a W hf hC hn => y_move (ρ := a.eval) (.tmp 3) rfl (hf.ev (by kernel_rfl) h3) W)
    case c3 =>
     intro kst hkst
     replace hkst : kst ∈ ([0, 1] : List Nat) := hkst
     simp only [List.mem_cons, List.not_mem_nil, or_false] at hkst
     rcases hkst with rfl | rfl
     ·exact iq (d := 26) (.pointer (some ⟨b1, 4, none⟩)) rfl (fun _ _ => rfl) (fun a W hf hC hn => y_faState4 (ρ := a.eval) (.tmp 1) (b := b1) (off := 0) rfl (hf.ev (by kernel_rfl) h1) W)
     ·exact iq (d := 26) (.pointer (some ⟨b1, 4, none⟩)) rfl (fun _ _ => rfl) (fun a W hf hC hn => y_faState4 (ρ := a.eval) (.tmp 1) (b := b1) (off := 0) rfl (hf.ev (by kernel_rfl) h1) W)
    case c4 =>
     intro kst hkst
     replace hkst : kst ∈ ([0, 1] : List Nat) := hkst
     simp only [List.mem_cons, List.not_mem_nil, or_false] at hkst
     rcases hkst with rfl | rfl
     ·exact iq (d := 27) (.slice (some ⟨g, 0, none⟩) km ym) rfl (fun _ _ => rfl) (fun a W hf hC hn => y_ldSMessage (ρ := a.eval) (.tmp 26) (ad := ⟨b1, 4, none⟩) rfl (hn 3 (by decide)) W (((blk_cell (hC.1).box 4).trans rfl)))
     ·exact iq (d := 27) (.slice (some ⟨g, 0, none⟩) km ym) rfl (fun _ _ => rfl) (fun a W hf hC hn => y_ldSMessage (ρ := a.eval) (.tmp 26) (ad := ⟨b1, 4, none⟩) rfl (hn 3 (by decide)) W (((blk_cell (hC.1).box 4).trans rfl)))
    case c5 =>
     intro kst hkst
     replace hkst : kst ∈ ([0, 1] : List Nat) := hkst
     simp only [List.mem_cons, List.not_mem_nil, or_false] at hkst
     rcases hkst with rfl | rfl
     ·exact iq (d := 28) (.int .i64 ((k : Nat) : Int)) rfl (fun _ _ => rfl) (fun a W hf hC hn => y_move (ρ := a.eval) (.tmp 3) rfl (hf.ev (by kernel_rfl) h3) W)
     ·exact iq (d := 28) (.int .i64 ((k : Nat) : Int)) rfl (fun _ _ => rfl) (fun a W hf hC hn => y_move (ρ := a.eval) (.tmp 3) rfl (hf.ev (by kernel_rfl) h3) W)
    case c6 =>
     intro kst hkst
     replace hkst : kst ∈ ([0] : List Nat) := hkst
     simp only [List.mem_cons, List.not_mem_nil, or_false] at hkst
     rcases hkst with rfl
     ·exact iq (d := 29) (.pointer (some ⟨b1, 4, none⟩)) rfl (fun _ _ => rfl) (fun a W hf hC hn => y_faState4 (ρ := a.eval) (.tmp 1) (b := b1) (off := 0) rfl (hf.ev (by kernel_rfl) h1) W)
    case c7 =>
     intro kst hkst
     replace hkst : kst ∈ ([0] : List Nat) := hkst
     simp only [List.mem_cons, List.not_mem_nil, or_false] at hkst
     rcases hkst with rfl
     ·exact iq (d := 30) (.slice (some ⟨g, 0, none⟩) km ym) rfl (fun _ _ => rfl) (fun a W hf hC hn => y_ldSMessage (ρ := a.eval) (.tmp 29) (ad := ⟨b1, 4, none⟩) rfl (hn 6 (by decide)) W (((blk_cell (hC.1).box 4).trans rfl)))
    case c8 =>
     intro kst hkst
     replace hkst : kst ∈ ([0] : List Nat) := hkst
     simp only [List.mem_cons, List.not_mem_nil, or_false] at hkst
     rcases hkst with rfl
     ·exact iq (d := 31) (.int .i64 ((k : Nat) : Int)) rfl (fun _ _ => rfl) (fun a W hf hC hn => y_move (ρ := a.eval) (.tmp 3) rfl (hf.ev (by kernel_rfl) h3) W)
    case c9 =>
     intro kst hkst
     replace hkst : kst ∈ ([0] : List Nat) := hkst
     simp only [List.mem_cons, List.not_mem_nil, or_false] at hkst
     rcases hkst with rfl
     ·exact iq (d := 32) (.pointer (some ⟨g, 0 + k * 6, none⟩)) rfl (fun _ _ => rfl) (fun a W hf hC hn => y_ixMessage (ρ := a.eval) (.tmp 30) (.tmp 31) (b := g) (off := 0) (n := km) (c := ym) (k := k) rfl (hn 7 (by decide)) (hn 8 (by decide)) (by omega) W)
    case c10 =>
     intro kst hkst
     replace hkst : kst ∈ ([0] : List Nat) := hkst
     simp only [List.mem_cons, List.not_mem_nil, or_false] at hkst
     rcases hkst with rfl
     ·exact iq (d := 33) (.pointer (some ⟨g, 0 + k * 6 + 1, none⟩)) rfl (fun _ _ => rfl) (fun a W hf hC hn => y_faMessage1 (ρ := a.eval) (.tmp 32) (b := g) (off := 0 + k * 6) rfl (hn 9 (by decide)) W)
    case c11 =>
     intro kst hkst
     replace hkst : kst ∈ ([0] : List Nat) := hkst
     simp only [List.mem_cons, List.not_mem_nil, or_false] at hkst
     rcases hkst with rfl
     ·refine istep_w ⟨some 34, _, _, _, _, none⟩ rfl (fun a w' hf hC hn => (iwanted_no rfl)) (fun a W hf hC hn K hK => ?_)
      obtain ⟨g', m, eg, hok, _, _, hcell, _⟩ := hC.2.2.elem (fun _ => rfl) hlt
      injection eg with eg
      injection eg with eg _
      subst eg
      have hcl : W.cell? ⟨g, 0 + k * 6 + 1, none⟩ = some (strV m.q) := by rw [Nat.zero_add]; exact (hcell 1 (by decide)).trans rfl
      refine wp_runs (y_ldstring (ρ := a.eval) (.tmp 33) (ad := ⟨g, 0 + k * 6 + 1, none⟩) rfl (hn 10 (by decide)) W hcl) ?_
      exact hK _ _ hC ⟨m.q, rfl, hok.1.2.1⟩ (fun j _ _ _ _ x h => h)
    case c12 =>
     intro kst hkst
     replace hkst : kst ∈ ([0] : List Nat) := hkst
     simp only [List.mem_cons, List.not_mem_nil, or_false] at hkst
     rcases hkst with rfl
     ·refine istep_w ⟨some 35, _, _, _, _, none⟩ rfl (fun a w' hf hC hn => (iwanted_no rfl)) (fun a W hf hC hn K hK => ?_)
      obtain ⟨q, e1, hq⟩ : TxaV (a.eval (.tmp 34)) := hn 11 (by decide)
      refine w_call Tryz.func41 (by kernel_rfl) (by kernel_rfl) [.tmp 34, .const (.int .i64 10)] _ rfl [strV q, .int .i64 ((10 : Nat) : Int)] (map2 e1 rfl) (cut_any q hq 10 (by omega) W) (fun e w' h => ?_)
      obtain ⟨he, hT⟩ := h
      exact ⟨_, he, hK _ _ ⟨hC.1.keep hT, hC.2.1.trans0 hT, hC.2.2.keep hT⟩ ⟨_, rfl, by rw [List.length_take]; omega⟩ (fun j _ _ _ _ x h => rl_stb hlist j x _ _ hT h)⟩
    case c13 =>
     intro kst hkst
     replace hkst : kst ∈ ([0] : List Nat) := hkst
     simp only [List.mem_cons, List.not_mem_nil, or_false] at hkst
     rcases hkst with rfl
     ·exact iq (d := 36) (.pointer (some ⟨b1, 4, none⟩)) rfl (fun _ _ => rfl) (fun a W hf hC hn => y_faState4 (ρ := a.eval) (.tmp 1) (b := b1) (off := 0) rfl (hf.ev (by kernel_rfl) h1) W)
    case c14 =>
     intro kst hkst
     replace hkst : kst ∈ ([0] : List Nat) := hkst
     simp only [List.mem_cons, List.not_mem_nil, or_false] at hkst
     rcases hkst with rfl
     ·exact iq (d := 37) (.slice (some ⟨g, 0, none⟩) km ym) rfl (fun _ _ => rfl) (fun a W hf hC hn => y_ldSMessage (ρ := a.eval) (.tmp 36) (ad := ⟨b1, 4, none⟩) rfl (hn 13 (by decide)) W (((blk_cell (hC.1).box 4).trans rfl)))
    case c15 =>
     intro kst hkst
     replace hkst : kst ∈ ([0] : List Nat) := hkst
     simp only [List.mem_cons, List.not_mem_nil, or_false] at hkst
     rcases hkst with rfl
     ·exact iq (d := 38) (.int .i64 ((k : Nat) : Int)) rfl (fun _ _ => rfl) (fun a W hf hC hn => y_move (ρ := a.eval) (.tmp 3) rfl (hf.ev (by kernel_rfl) h3) W)
    case c16 =>
     intro kst hkst
     replace hkst : kst ∈ ([0] : List Nat) := hkst
     simp only [List.mem_cons, List.not_mem_nil, or_false] at hkst
     rcases hkst with rfl
     ·exact iq (d := 39) (.pointer (some ⟨g, 0 + k * 6, none⟩)) rfl (fun _ _ => rfl) (fun a W hf hC hn => y_ixMessage (ρ := a.eval) (.tmp 37) (.tmp 38) (b := g) (off := 0) (n := km) (c := ym) (k := k) rfl (hn 14 (by decide)) (hn 15 (by decide)) (by omega) W)
    case c17 =>
     intro kst hkst
     replace hkst : kst ∈ ([0] : List Nat) := hkst
     simp only [List.mem_cons, List.not_mem_nil, or_false] at hkst
     rcases hkst with rfl
     ·exact iq (d := 40) (.pointer (some ⟨g, 0 + k * 6 + 2, none⟩)) rfl (fun _ _ => rfl) (fun a W hf hC hn => y_faMessage2 (ρ := a.eval) (.tmp 39) (b := g) (off := 0 + k * 6) rfl (hn 16 (by decide)) W)
    case c18 =>
     intro kst hkst
     replace hkst : kst ∈ ([0] : List Nat) := hkst
     simp only [List.mem_cons, List.not_mem_nil, or_false] at hkst
     rcases hkst with rfl
     ·refine istep_w ⟨some 41, _, _, _, _, none⟩ rfl (fun a w' hf hC hn => (iwanted_no rfl)) (fun a W hf hC hn K hK => ?_)
      obtain ⟨g', m, eg, hok, _, _, hcell, _⟩ := hC.2.2.elem (fun _ => rfl) hlt
      injection eg with eg
      injection eg with eg _
      subst eg
      have hcl : W.cell? ⟨g, 0 + k * 6 + 2, none⟩ = some (strV m.b) := by rw [Nat.zero_add]; exact (hcell 2 (by decide)).trans rfl
      refine wp_runs (y_ldstring (ρ := a.eval) (.tmp 40) (ad := ⟨g, 0 + k * 6 + 2, none⟩) rfl (hn 17 (by decide)) W hcl) ?_
      exact hK _ _ hC ⟨m.b, rfl, hok.1.2.2.1⟩ (fun j _ _ _ _ x h => h)
    case c19 =>
     intro kst hkst
     replace hkst : kst ∈ ([0] : List Nat) := hkst
     simp only [List.mem_cons, List.not_mem_nil, or_false] at hkst
     rcases hkst with rfl
     ·refine istep_w ⟨some 42, _, _, _, _, none⟩ rfl (fun a w' hf hC hn => (iwanted_no rfl)) (fun a W hf hC hn K hK => ?_)
      obtain ⟨q, e1, hq⟩ : TxaV (a.eval (.tmp 41)) := hn 18 (by decide)
      refine w_call Tryz.func41 (by kernel_rfl) (by kernel_rfl) [.tmp 41, .const (.int .i64 62)] _ rfl [strV q, .int .i64 ((62 : Nat) : Int)] (map2 e1 rfl) (cut_any q hq 62 (by omega) W) (fun e w' h => ?_)
      obtain ⟨he, hT⟩ := h
      exact ⟨_, he, hK _ _ ⟨hC.1.keep hT, hC.2.1.trans0 hT, hC.2.2.keep hT⟩ ⟨_, rfl, by rw [List.length_take]; omega⟩ (fun j _ _ _ _ x h => rl_stb hlist j x _ _ hT h)⟩
    case c20 =>
     intro kst hkst
     replace hkst : kst ∈ ([0] : List Nat) := hkst
     simp only [List.mem_cons, List.not_mem_nil, or_false] at hkst
     rcases hkst with rfl
     ·exact iq (d := 43) (.pointer (some ⟨g, 0 + k * 6, none⟩)) rfl (fun _ _ => rfl) (fun a W hf hC hn => y_ixMessage (ρ := a.eval) (.tmp 24) (.tmp 25) (b := g) (off := 0) (n := km) (c := ym) (k := k) rfl (hn 1 (by decide)) (hn 2 (by decide)) (by omega) W)
    case c21 =>
     intro kst hkst
     replace hkst : kst ∈ ([0] : List Nat) := hkst
     simp only [List.mem_cons, List.not_mem_nil, or_false] at hkst
     rcases hkst with rfl
     ·exact iq (d := 44) (.pointer (some ⟨g, 0 + k * 6 + 1, none⟩)) rfl (fun _ _ => rfl) (fun a W hf hC hn => y_faMessage1 (ρ := a.eval) (.tmp 43) (b := g) (off := 0 + k * 6) rfl (hn 20 (by decide)) W)
    case c22 => intro kst hkst; exact (List.not_mem_nil (show kst ∈ ([] : List Nat) from hkst)).elim
    case c23 =>
     intro kst hkst
     replace hkst : kst ∈ ([1] : List Nat) := hkst
     simp only [List.mem_cons, List.not_mem_nil, or_false] at hkst
     rcases hkst with rfl
     ·exact iq (d := 45) (.pointer (some ⟨g, 0 + k * 6, none⟩)) rfl (fun _ _ => rfl) (fun a W hf hC hn => y_ixMessage (ρ := a.eval) (.tmp 27) (.tmp 28) (b := g) (off := 0) (n := km) (c := ym) (k := k) rfl (hn 4 (by decide)) (hn 5 (by decide)) (by omega) W)
    case c24 =>
     intro kst hkst
     replace hkst : kst ∈ ([1] : List Nat) := hkst
     simp only [List.mem_cons, List.not_mem_nil, or_false] at hkst
     rcases hkst with rfl
     ·exact iq (d := 46) (.pointer (some ⟨g, 0 + k * 6 + 2, none⟩)) rfl (fun _ _ => rfl) (fun a W hf hC hn => y_faMessage2 (ρ := a.eval) (.tmp 45) (b := g) (off := 0 + k * 6) rfl (hn 23 (by decide)) W)
    case c25 => intro kst hkst; exact (List.not_mem_nil (show kst ∈ ([] : List Nat) from hkst)).elim
   ·show ∀ k, k < 2 -> _
    refine all_lt1 (all_lt1 (all_lt0) ?e22) ?e25
    case e22 =>
     show IStep2 _ _ _ _ _ _ (fun W => StB w w1 b1 #[.int .i64 br, .int .i64 ni, .int .i64 ns, .int .i64 tx, .slice (some ⟨g, 0, none⟩) km ym, .slice xw nw yw, .slice xe ne ye, .slice xo no yo, .slice xn nn yn] W /\ Tch (fun q => (Value.slice (some ⟨g, 0, none⟩) km ym).ownBlock = some q) wr W /\ RowI encMsg (ok3 k false false) 50 6 km w1 (.slice (some ⟨g, 0, none⟩) km ym) W) (fun W => StB w w1 b1 #[.int .i64 br, .int .i64 ni, .int .i64 ns, .int .i64 tx, .slice (some ⟨g, 0, none⟩) km ym, .slice xw nw yw, .slice xe ne ye, .slice xo no yo, .slice xn nn yn] W /\ Tch (fun q => (Value.slice (some ⟨g, 0, none⟩) km ym).ownBlock = some q) wr W /\ RowI encMsg (ok3 k true false) 50 6 km w1 (.slice (some ⟨g, 0, none⟩) km ym) W) _ _ _ _ _ 22
     refine istep_w2 (i := 22) ⟨none, _, _, _, _, none⟩ rfl (fun a w' hf hC hn => (iwanted_no rfl)) (fun a W hf hk hC hn K hK => ?_)
     obtain ⟨q, e1, hq⟩ : TxlV 62 (a.eval (.tmp 35)) := hn 12 (by decide)
     obtain ⟨g', m, eg, hok, hg1, _, hcell, hfz⟩ := hC.2.2.elem (fun _ => rfl) hlt
     injection eg with eg
     injection eg with eg _
     subst eg
     have ez : 0 + k * 6 = k * 6 := Nat.zero_add _
     refine w_ststring (.tmp 44) (.tmp 35) (ad := ⟨g, k * 6 + 1, none⟩) rfl rfl (by have := hn 21 (by decide); rw [ez] at this; exact this) e1 rfl (hcell 1 (by decide)) (hfz _) (fun z => ?_)
     have tS := Tch.setCell (F := fun q => (Value.slice (some ⟨g, 0, none⟩) km ym).ownBlock = some q) W ⟨g, k * 6 + 1, none⟩ (strV q) (fun _ => rfl)
     exact hK _ _ ⟨hC.1.grow tS (fun j e => by simp [Value.ownBlock] at e; omega), hC.2.1.trans tS (fun _ _ h => h), hC.2.2.set (fun _ => rfl) hlt (by decide) (fun m => { m with q := q }) (fun _ => rfl) (fun x hx => ok3_q hx hq) (fun j x hj hx => ok3_other hj hx)⟩ trivial (fun j hj _ _ _ x h => absurd hj List.not_mem_nil)
    case e25 =>
     show IStep2 _ _ _ _ _ _ (fun W => StB w w1 b1 #[.int .i64 br, .int .i64 ni, .int .i64 ns, .int .i64 tx, .slice (some ⟨g, 0, none⟩) km ym, .slice xw nw yw, .slice xe ne ye, .slice xo no yo, .slice xn nn yn] W /\ Tch (fun q => (Value.slice (some ⟨g, 0, none⟩) km ym).ownBlock = some q) wr W /\ RowI encMsg (ok3 k true false) 50 6 km w1 (.slice (some ⟨g, 0, none⟩) km ym) W) (fun W => StB w w1 b1 #[.int .i64 br, .int .i64 ni, .int .i64 ns, .int .i64 tx, .slice (some ⟨g, 0, none⟩) km ym, .slice xw nw yw, .slice xe ne ye, .slice xo no yo, .slice xn nn yn] W /\ Tch (fun q => (Value.slice (some ⟨g, 0, none⟩) km ym).ownBlock = some q) wr W /\ RowI encMsg (ok3 k true true) 50 6 km w1 (.slice (some ⟨g, 0, none⟩) km ym) W) _ _ _ _ _ 25
     refine istep_w2 (i := 25) ⟨none, _, _, _, _, none⟩ rfl (fun a w' hf hC hn => (iwanted_no rfl)) (fun a W hf hk hC hn K hK => ?_)
     obtain ⟨q, e1, hq⟩ : TxlV 62 (a.eval (.tmp 42)) := hn 19 (by decide)
     obtain ⟨g', m, eg, hok, hg1, _, hcell, hfz⟩ := hC.2.2.elem (fun _ => rfl) hlt
     injection eg with eg
     injection eg with eg _
     subst eg
     have ez : 0 + k * 6 = k * 6 := Nat.zero_add _
     refine w_ststring (.tmp 46) (.tmp 42) (ad := ⟨g, k * 6 + 2, none⟩) rfl rfl (by have := hn 24 (by decide); rw [ez] at this; exact this) e1 rfl (hcell 2 (by decide)) (hfz _) (fun z => ?_)
     have tS := Tch.setCell (F := fun q => (Value.slice (some ⟨g, 0, none⟩) km ym).ownBlock = some q) W ⟨g, k * 6 + 2, none⟩ (strV q) (fun _ => rfl)
     exact hK _ _ ⟨hC.1.grow tS (fun j e => by simp [Value.ownBlock] at e; omega), hC.2.1.trans tS (fun _ _ h => h), hC.2.2.set (fun _ => rfl) hlt (by decide) (fun m => { m with b := q }) (fun _ => rfl) (fun x hx => ok3_b hx hq) (fun j x hj hx => ok3_other hj hx)⟩ trivial (fun j hj _ _ _ x h => absurd hj List.not_mem_nil)
   ·intro af wf hf hC hR
    replace hC : (fun W => StB w w1 b1 #[.int .i64 br, .int .i64 ni, .int .i64 ns, .int .i64 tx, .slice (some ⟨g, 0, none⟩) km ym, .slice xw nw yw, .slice xe ne ye, .slice xo no yo, .slice xn nn yn] W /\ Tch (fun q => (Value.slice (some ⟨g, 0, none⟩) km ym).ownBlock = some q) wr W /\ RowI encMsg (ok3 k true true) 50 6 km w1 (.slice (some ⟨g, 0, none⟩) km ym) W) wf := hC
    obtain ⟨vs, hl, rfl⟩ := hf
    have hl : vs.length = 24 := hl
    obtain ⟨u0, vs0, hv0, hl⟩ := vs_cons hl
    obtain ⟨u1, vs1, hv1, hl⟩ := vs_cons hl
    obtain ⟨u2, vs2, hv2, hl⟩ := vs_cons hl
    obtain ⟨u3, vs3, hv3, hl⟩ := vs_cons hl
    obtain ⟨u4, vs4, hv4, hl⟩ := vs_cons hl
    obtain ⟨u5, vs5, hv5, hl⟩ := vs_cons hl
    obtain ⟨u6, vs6, hv6, hl⟩ := vs_cons hl
    obtain ⟨u7, vs7, hv7, hl⟩ := vs_cons hl
    obtain ⟨u8, vs8, hv8, hl⟩ := vs_cons hl
    obtain ⟨u9, vs9, hv9, hl⟩ := vs_cons hl
    obtain ⟨u10, vs10, hv10, hl⟩ := vs_cons hl
    obtain ⟨u11, vs11, hv11, hl⟩ := vs_cons hl
    obtain ⟨u12, vs12, hv12, hl⟩ := vs_cons hl
    obtain ⟨u13, vs13, hv13, hl⟩ := vs_cons hl
    obtain ⟨u14, vs14, hv14, hl⟩ := vs_cons hl
    obtain ⟨u15, vs15, hv15, hl⟩ := vs_cons hl
    obtain ⟨u16, vs16, hv16, hl⟩ := vs_cons hl
    obtain ⟨u17, vs17, hv17, hl⟩ := vs_cons hl
    obtain ⟨u18, vs18, hv18, hl⟩ := vs_cons hl
    obtain ⟨u19, vs19, hv19, hl⟩ := vs_cons hl
    obtain ⟨u20, vs20, hv20, hl⟩ := vs_cons hl
    obtain ⟨u21, vs21, hv21, hl⟩ := vs_cons hl
    obtain ⟨u22, vs22, hv22, hl⟩ := vs_cons hl
    obtain ⟨u23, vs23, hv23, hl⟩ := vs_cons hl
    have hvn := vs_nil hl
    have hvs : vs = [u0, u1, u2, u3, u4, u5, u6, u7, u8, u9, u10, u11, u12, u13, u14, u15, u16, u17, u18, u19, u20, u21, u22, u23] := by rw [hv0, hv1, hv2, hv3, hv4, hv5, hv6, hv7, hv8, hv9, hv10, hv11, hv12, hv13, hv14, hv15, hv16, hv17, hv18, hv19, hv20, hv21, hv22, hv23, hvn]
    clear hvn hl hv0 hv1 hv2 hv3 hv4 hv5 hv6 hv7 hv8 hv9 hv10 hv11 hv12 hv13 hv14 hv15 hv16 hv17 hv18 hv19 hv20 hv21 hv22 hv23
    subst hvs
    have hfr2 := hfr.out
    subst hfr2
    simp only [putAll, Act.put, List.setIfInBounds_toArray, List.set_cons_succ, List.set_cons_zero]
    have SF := Lib.hid hC.1
    have TF := Lib.hid (TT.out.trans hC.2.1 (fun _ _ h => h))
    have RF : Hid (RowI encMsg (ok3 (k + 1) false false) 50 6 km w1 (.slice (some ⟨g, 0, none⟩) km ym) wf) := hC.2.2.mono (fun i x _ h => ok3_next h)
    clear hR hlist hsz hC
    go_wp2_with fail
    go_roundg (km - (k + 1))
    case measure => omega
    case rel => exact ⟨k + 1, by go_num, by omega, by omega, TF, SF, RF⟩
  ·have ek : k = km := by omega
   rw [ek] at RR ⊢
   clear ek hk hkx hlt
   obtain ⟨wA, hwn⟩ : ∃ x, x = wr := ⟨wr, rfl⟩
   subst hwn
   have SB := SR
   clear SR
   have RWn := Lib.hid (RW.out.tch TT.out (fun b hb e => RowI.apart RM.out RW.out (by decide) b e hb))
   have REn := Lib.hid (RE.out.tch TT.out (fun b hb e => RowI.apart RM.out RE.out (by decide) b e hb))
   have ROn := Lib.hid (RO.out.tch TT.out (fun b hb e => RowI.apart RM.out RO.out (by decide) b e hb))
   have RNn := Lib.hid (RN.out.tch TT.out (fun b hb e => RowI.apart RM.out RN.out (by decide) b e hb))
   clear RM RW RE RO RN
   have RM := RR
   have RW := RWn
   have RE := REn
   have RO := ROn
   have RN := RNn
   clear RR TT RWn REn ROn RNn
   obtain ⟨ke1, ke2⟩ := RowI.lens RE.out
   obtain ⟨ke, hke⟩ : ∃ z, min ne 30 = z := ⟨_, rfl⟩
   have ge : min (ne : Int) 30 = (ke : Int) := by omega
   have ge0 : (0 : Int) <= (ke : Int) := by omega
   have ge1 : (ke : Int) <= (ye : Int) := by omega
   have ge2 : ke <= ne /\ ke <= 30 := by omega
   clear hke
   have q6 : wA.cell? ⟨b1, 6, none⟩ = some (.slice xe ne ye) := (blk_cell SB.out.box 6).trans rfl
   have f6 := blk_free SB.out.box 6
   go_upto_region 9 with fail
   clear q6 f6
   obtain ⟨w5, hw5, SBn⟩ : ∃ X, wA.setCell ⟨b1, 6, none⟩ (.slice xe ke ye) = X /\ Hid (StB w w1 b1 #[.int .i64 br, .int .i64 ni, .int .i64 ns, .int .i64 tx, .slice xm km ym, .slice xw nw yw, .slice xe ke ye, .slice xo no yo, .slice xn nn yn] X) := ⟨_, rfl, SB.out.set 6 _ rfl⟩
   rw [hw5]
   clear SB
   have SB := SBn
   clear SBn
   have RMn := Lib.hid (RowI.box (j := 6) (u := .slice xe ke ye) RM.out hb2)
   rw [hw5] at RMn
   clear RM
   have RM := RMn
   clear RMn
   have RWn := Lib.hid (RowI.box (j := 6) (u := .slice xe ke ye) RW.out hb2)
   rw [hw5] at RWn
   clear RW
   have RW := RWn
   clear RWn
   have REn := Lib.hid (RowI.cut (RowI.box (j := 6) (u := .slice xe ke ye) RE.out hb2) (fun _ => rfl) ge2.1)
   rw [hw5] at REn
   clear RE
   have RE := REn
   clear REn
   have ROn := Lib.hid (RowI.box (j := 6) (u := .slice xe ke ye) RO.out hb2)
   rw [hw5] at ROn
   clear RO
   have RO := ROn
   clear ROn
   have RNn := Lib.hid (RowI.box (j := 6) (u := .slice xe ke ye) RN.out hb2)
   rw [hw5] at RNn
   clear RN
   have RN := RNn
   clear RNn
   clear hw5
   obtain ⟨kw1, kw2⟩ := RowI.lens RW.out
   obtain ⟨kw, hkw⟩ : ∃ z, min nw 20 = z := ⟨_, rfl⟩
   have gw : min (nw : Int) 20 = (kw : Int) := by omega
   have gw0 : (0 : Int) <= (kw : Int) := by omega
   have gw1 : (kw : Int) <= (yw : Int) := by omega
   have gw2 : kw <= nw /\ kw <= 20 := by omega
   clear hkw
   have q5 : w5.cell? ⟨b1, 5, none⟩ = some (.slice xw nw yw) := (blk_cell SB.out.box 5).trans rfl
   have f5 := blk_free SB.out.box 5
   go_upto_region 10 with fail
   clear q5 f5
   obtain ⟨w6, hw6, SBn⟩ : ∃ X, w5.setCell ⟨b1, 5, none⟩ (.slice xw kw yw) = X /\ Hid (StB w w1 b1 #[.int .i64 br, .int .i64 ni, .int .i64 ns, .int .i64 tx, .slice xm km ym, .slice xw kw yw, .slice xe ke ye, .slice xo no yo, .slice xn nn yn] X) := ⟨_, rfl, SB.out.set 5 _ rfl⟩
   rw [hw6]
   clear SB
   have SB := SBn
   clear SBn
   have RMn := Lib.hid (RowI.box (j := 5) (u := .slice xw kw yw) RM.out hb2)
   rw [hw6] at RMn
   clear RM
   have RM := RMn
   clear RMn
   have RWn := Lib.hid (RowI.cut (RowI.box (j := 5) (u := .slice xw kw yw) RW.out hb2) (fun _ => rfl) gw2.1)
   rw [hw6] at RWn
   clear RW
   have RW := RWn
   clear RWn
   have REn := Lib.hid (RowI.box (j := 5) (u := .slice xw kw yw) RE.out hb2)
   rw [hw6] at REn
   clear RE
   have RE := REn
   clear REn
   have ROn := Lib.hid (RowI.box (j := 5) (u := .slice xw kw yw) RO.out hb2)
   rw [hw6] at ROn
   clear RO
   have RO := ROn
   clear ROn
   have RNn := Lib.hid (RowI.box (j := 5) (u := .slice xw kw yw) RN.out hb2)
   rw [hw6] at RNn
   clear RN
   have RN := RNn
   clear RNn
   clear hw6
   have q5 : w6.cell? ⟨b1, 5, none⟩ = some (.slice xw kw yw) := (blk_cell SB.out.box 5).trans rfl
   have RW0 : Hid (RowI (encPr fun q : BrM => q.tid) (okW w w1 0 w6) 74 2 kw w1 (.slice xw kw yw) w6) := RW.out.mono (fun i x _ h => ⟨h.2.1, fun e => by omega, fun _ => ⟨h.1, h.2.2⟩⟩)
   go_wp2_with fail
   clear q5
   go_loopg [4, 67] kw (fun kx s4 s67 wr => ∃ k : Nat, s67 = .int .i64 k /\ k <= kw /\ kw - k <= kx /\ Hid (Tch (fun q => (Value.slice xw kw yw).ownBlock = some q) w6 wr) /\ Hid (StB w w1 b1 #[.int .i64 br, .int .i64 ni, .int .i64 ns, .int .i64 tx, .slice xm km ym, .slice xw kw yw, .slice xe ke ye, .slice xo no yo, .slice xn nn yn] wr) /\ Hid (RowI (encPr fun q : BrM => q.tid) (okW w w1 k wr) 74 2 kw w1 (.slice xw kw yw) wr))
   case atStart => exact ⟨0, rfl, Nat.zero_le _, by omega, Tch.refl _ _, SB, RW0⟩
   case round =>
    clear RW0
    obtain ⟨k, rfl, hk, hkx, TT, SR, RR⟩ := hrel
    by_cases hlt : k < kw
    ·obtain ⟨g, ⟨⟨t0, ps⟩, vp⟩, rfl, hok, hg1, hg2, hcell, _⟩ := RR.out.elem (fun _ => rfl) hlt
     have GG : Hid (w1.heap.size <= g) := hg1
     obtain ⟨ho1, _, ho2⟩ := hok
     obtain ⟨hps, hpl⟩ := ho2 (Nat.le_refl _)
     have E1 : Hid (wr.cell? ⟨g, 0 + k * 2 + 1, none⟩ = some vp) := by rw [Hid, Nat.zero_add]; exact (hcell 1 (by decide)).trans rfl
     have OV : Hid (vp.oneCell' = true) := CellsL.one hps
     obtain ⟨cps, hcps⟩ : ∃ l, (ps.take 12).map cutPut = l := ⟨_, rfl⟩
     have HOK : Hid (∀ x ∈ cps, OkPut x) := by
      rw [<- hcps]
      intro p hp
      obtain ⟨q, hq, rfl⟩ := List.mem_map.1 hp
      constructor
      ·unfold OkT cutPut lim; simp only [List.length_take]; omega
      ·unfold OkT cutPut lim; simp only [List.length_take]; omega
     have HREC : Hid (∀ W, Tch No w W -> Calls Tryz.prog 20 #[.agg #[.int .i64 0, .int .i64 0, .int .i64 0, .bool false, .slice none 0 0, vp]] W fun e w' => ∃ vp' vu, e = .returned (.agg #[.int .i64 0, .int .i64 0, .int .i64 0, .bool false, vp', vu]) /\ Tch No W w' /\ OwnN W 45 2 cps.length (cps.flatMap encPut) vu w') := fun W t => by
      refine (lrec_any ⟨0, 0, 0, false, [], ps⟩ _ W ⟨⟨_, _, rfl, CellsL.nil _ _, hps.keep t⟩, ⟨(by show I64 0; unfold I64; omega), (by show I64 0; unfold I64; omega), (by show I64 0; unfold I64; omega)⟩, fun x hx => (by cases hx), hpl⟩).mono ?_
      rintro e w' ⟨vp', vu, rfl, h1, _, h2⟩
      simp only [cutRec, hcps] at h2
      exact ⟨vp', vu, rfl, h1, h2⟩
     have HT0 := Lib.hid ho1
     clear hps hpl hcell hg1 hg2 ho1 ho2 hcps
     have q5 : wr.cell? ⟨b1, 5, none⟩ = some (.slice (some ⟨g, 0, none⟩) kw yw) := (blk_cell SR.out.box 5).trans rfl
     have mixed : Tryz.prog.follows .mixedOrders = true := by kernel_rfl
     go_upto_region 13 with fail
     refine frame_var 158 rfl (fun fr hfr hsz => ?_)
     have h1 : fr.eval (.tmp 1) = .pointer (some ⟨b1, 0, none⟩) := by rw [hfr.out]; rfl
     have h4 : fr.eval (.tmp 4) = .int .i64 ((k : Nat) : Int) := by rw [hfr.out]; rfl
     clear q5
     have hlist : ∀ f ∈ ([(fun x _ => x = .pointer (some ⟨b1, 5, none⟩)), (fun x _ => x = .slice (some ⟨g, 0, none⟩) kw yw), (fun x _ => x = .int .i64 ((k : Nat) : Int)), (fun x _ => x = .pointer (some ⟨b1, 5, none⟩)), (fun x _ => x = .slice (some ⟨g, 0, none⟩) kw yw), (fun x _ => x = .int .i64 ((k : Nat) : Int)), (fun x _ => x = .pointer (some ⟨g, 0 + k * 2, none⟩)), (fun x _ => x = .pointer (some ⟨g, 0 + k * 2 + 1, none⟩)), (fun x _ => x = vp), (fun x _ => x = .agg #[.int .i64 0, .int .i64 0, .int .i64 0, .bool false, .slice none 0 0, vp]), (fun x W => ∃ vp' vu, x = .agg #[.int .i64 0, .int .i64 0, .int .i64 0, .bool false, vp', vu] /\ OwnN wr 45 2 cps.length (cps.flatMap encPut) vu W), (OwnN wr 45 2 cps.length (cps.flatMap encPut)), (fun x _ => x = .pointer (some ⟨g, 0 + k * 2, none⟩)), (fun x _ => x = .pointer (some ⟨g, 0 + k * 2 + 1, none⟩)), (fun x _ => True)] : List (Value -> World -> Prop)), Stb f :=
      all_mem1 ((pur_eq _).stb) (all_mem1 ((pur_eq _).stb) (all_mem1 ((pur_eq _).stb) (all_mem1 ((pur_eq _).stb) (all_mem1 ((pur_eq _).stb) (all_mem1 ((pur_eq _).stb) (all_mem1 ((pur_eq _).stb) (all_mem1 ((pur_eq _).stb) (all_mem1 ((pur_eq _).stb) (all_mem1 ((pur_eq _).stb) (all_mem1 ((fun x w w' t h => by obtain ⟨a, b, h1, h2⟩ := h; exact ⟨a, b, h1, stb_own _ _ _ t h2⟩)) (all_mem1 (stb_own) (all_mem1 ((pur_eq _).stb) (all_mem1 ((pur_eq _).stb) (all_mem1 (pur_any.stb) (all_mem0)))))))))))))))
     refine wp_region_inv4 [14] (fun i => ([[0], [0], [0], [0], [0], [0], [0], [0], [0], [0], [0], [0], [0], [0], []][i]?).getD []) (fun kst : Nat => match kst with | 0 => (fun W => StB w w1 b1 #[.int .i64 br, .int .i64 ni, .int .i64 ns, .int .i64 tx, .slice xm km ym, .slice (some ⟨g, 0, none⟩) kw yw, .slice xe ke ye, .slice xo no yo, .slice xn nn yn] W /\ Tch No wr W) | _ => (fun W => StB w w1 b1 #[.int .i64 br, .int .i64 ni, .int .i64 ns, .int .i64 tx, .slice xm km ym, .slice (some ⟨g, 0, none⟩) kw yw, .slice xe ke ye, .slice xo no yo, .slice xn nn yn] W /\ Tch (fun q => (Value.slice (some ⟨g, 0, none⟩) kw yw).ownBlock = some q) wr W /\ RowI (encPr fun q : BrM => q.tid) (okW w w1 (k + 1) W) 74 2 kw w1 (.slice (some ⟨g, 0, none⟩) kw yw) W)) (RL [(fun x _ => x = .pointer (some ⟨b1, 5, none⟩)), (fun x _ => x = .slice (some ⟨g, 0, none⟩) kw yw), (fun x _ => x = .int .i64 ((k : Nat) : Int)), (fun x _ => x = .pointer (some ⟨b1, 5, none⟩)), (fun x _ => x = .slice (some ⟨g, 0, none⟩) kw yw), (fun x _ => x = .int .i64 ((k : Nat) : Int)), (fun x _ => x = .pointer (some ⟨g, 0 + k * 2, none⟩)), (fun x _ => x = .pointer (some ⟨g, 0 + k * 2 + 1, none⟩)), (fun x _ => x = vp), (fun x _ => x = .agg #[.int .i64 0, .int .i64 0, .int .i64 0, .bool false, .slice none 0 0, vp]), (fun x W => ∃ vp' vu, x = .agg #[.int .i64 0, .int .i64 0, .int .i64 0, .bool false, vp', vu] /\ OwnN wr 45 2 cps.length (cps.flatMap encPut) vu W), (OwnN wr 45 2 cps.length (cps.flatMap encPut)), (fun x _ => x = .pointer (some ⟨g, 0 + k * 2, none⟩)), (fun x _ => x = .pointer (some ⟨g, 0 + k * 2 + 1, none⟩)), (fun x _ => True)]) [10, 11] [70, 71, 72, 73, 74, 75, 76, 77, 78, 79, 80, 81, 82, 83] [(some 70, [1], []), (some 71, [70], [0]), (some 72, [4], []), (some 73, [1], []), (some 74, [73], [3]), (some 75, [4], []), (some 76, [74, 75], [4, 5]), (some 77, [76], [6]), (some 78, [77], [7]), (some 79, [78], [8]), (some 80, [79], [9]), (some 81, [80], [10]), (some 82, [71, 72], [1, 2, 0, 1, 2, 3, 4, 5, 6, 7, 8, 9, 10, 11]), (some 83, [82], [12, 0, 1, 2, 3, 4, 5, 6, 7, 8, 9, 10, 11]), (none, [83, 81], [13, 11, 10, 0, 1, 2, 3, 4, 5, 6, 7, 8, 9, 10, 11])] (fun i => ([[], [0], [], [], [3], [], [3, 4, 5], [3, 4, 5, 6], [3, 4, 5, 6, 7], [3, 4, 5, 6, 7, 8], [3, 4, 5, 6, 7, 8, 9], [3, 4, 5, 6, 7, 8, 9, 10], [0, 1, 2, 3, 4, 5, 6, 7, 8, 9, 10, 11], [0, 1, 2, 3, 4, 5, 6, 7, 8, 9, 10, 11, 12], [0, 1, 2, 3, 4, 5, 6, 7, 8, 9, 10, 11, 12, 13]][i]?).getD []) (fun i => ([[], [0], [], [], [3], [], [4, 5], [6], [7], [8], [9], [10], [1, 2], [12], [11, 13]][i]?).getD []) (fun i => ([[], [], [], [], [], [], [], [], [], [], [], [], [], [], [10, 11]][i]?).getD []) (fun i => ([[], [], [], [10, 11], [10, 11], [10, 11], [10, 11], [10, 11], [10, 11], [10, 11], [11], [], [], [], []][i]?).getD []) (by kernel_rfl) (by kernel_rfl) (by kernel_rfl) (by rw [hsz]; kernel_rfl) (by kernel_rfl) (by kernel_rfl) ?_ (rl_pur ?_) ?_ ?_ ?_
     ·exact ⟨SR.out.keep (Tch.drew _), Tch.drew _⟩
     ·show ∀ j, j < 15 -> _ ∨ _
      refine all_lt1 (all_lt1 (all_lt1 (all_lt1 (all_lt1 (all_lt1 (all_lt1 (all_lt1 (all_lt1 (all_lt1 (all_lt1 (all_lt1 (all_lt1 (all_lt1 (all_lt1 (all_lt0) (Or.inr (pur_eq _))) (Or.inr (pur_eq _))) (Or.inr (pur_eq _))) (Or.inr (pur_eq _))) (Or.inr (pur_eq _))) (Or.inr (pur_eq _))) (Or.inr (pur_eq _))) (Or.inr (pur_eq _))) (Or.inr (pur_eq _))) (Or.inr (pur_eq _))) (Or.inl (by decide))) (Or.inl (by decide))) (Or.inr (pur_eq _))) (Or.inr (pur_eq _))) (Or.inr pur_any)
     ·show ∀ i, i < 15 -> _
      refine all_lt1 (all_lt1 (all_lt1 (all_lt1 (all_lt1 (all_lt1 (all_lt1 (all_lt1 (all_lt1 (all_lt1 (all_lt1 (all_lt1 (all_lt1 (all_lt1 (all_lt1 (all_lt0) ?c0) ?c1) ?c2) ?c3) ?c4) ?c5) ?c6) ?c7) ?c8) ?c9) ?c10) ?c11) ?c12) ?c13) ?c14
      case c0 =>
       intro kst hkst
       replace hkst : kst ∈ ([0] : List Nat) := hkst
       simp only [List.mem_cons, List.not_mem_nil, or_false] at hkst
       rcases hkst with rfl
       ·exact iq (d := 70) (.pointer (some ⟨b1, 5, none⟩)) rfl (fun _ _ => rfl) (fun a W hf hC hn => y_faState5 (ρ := a.eval) (.tmp 1) (b := b1) (off := 0) rfl (hf.ev (by kernel_rfl) h1) W)
      case c1 =>
       intro kst hkst
       replace hkst : kst ∈ ([0] : List Nat) := hkst
       simp only [List.mem_cons, List.not_mem_nil, or_false] at hkst
       rcases hkst with rfl
       ·exact iq (d := 71) (.slice (some ⟨g, 0, none⟩) kw yw) rfl (fun _ _ => rfl) (fun a W hf hC hn => y_ldSBranch (ρ := a.eval) (.tmp 70) (ad := ⟨b1, 5, none⟩) rfl (hn 0 (by decide)) W (((blk_cell (hC.1).box 5).trans rfl)))
      case c2 =>
       intro kst hkst
       replace hkst : kst ∈ ([0] : List Nat) := hkst
       simp only [List.mem_cons, List.not_mem_nil, or_false] at hkst
       rcases hkst with rfl
       ·exact iq (d := 72) (.int .i64 ((k : Nat) : Int)) rfl (fun _ _ => rfl) (fun a W hf hC hn => y_move (ρ := a.eval) (.tmp 4) rfl (hf.ev (by kernel_rfl) h4) W)
      case c3 =>
       intro kst hkst
       replace hkst : kst ∈ ([0] : List Nat) := hkst
       simp only [List.mem_cons, List.not_mem_nil, or_false] at hkst
       rcases hkst with rfl
       ·exact iq (d := 73) (.pointer (some ⟨b1, 5, none⟩)) rfl (fun _ _ => rfl) (fun a W hf hC hn => y_faState5 (ρ := a.eval) (.tmp 1) (b := b1) (off := 0) rfl (hf.ev (by kernel_rfl) h1) W)
      case c4 =>
       intro kst hkst
       replace hkst : kst ∈ ([0] : List Nat) := hkst
       simp only [List.mem_cons, List.not_mem_nil, or_false] at hkst
       rcases hkst with rfl
       ·exact iq (d := 74) (.slice (some ⟨g, 0, none⟩) kw yw) rfl (fun _ _ => rfl) (fun a W hf hC hn => y_ldSBranch (ρ := a.eval) (.tmp 73) (ad := ⟨b1, 5, none⟩) rfl (hn 3 (by decide)) W (((blk_cell (hC.1).box 5).trans rfl)))
      case c5 =>
       intro kst hkst
       replace hkst : kst ∈ ([0] : List Nat) := hkst
       simp only [List.mem_cons, List.not_mem_nil, or_false] at hkst
       rcases hkst with rfl
       ·exact iq (d := 75) (.int .i64 ((k : Nat) : Int)) rfl (fun _ _ => rfl) (fun a W hf hC hn => y_move (ρ := a.eval) (.tmp 4) rfl (hf.ev (by kernel_rfl) h4) W)
      case c6 =>
       intro kst hkst
       replace hkst : kst ∈ ([0] : List Nat) := hkst
       simp only [List.mem_cons, List.not_mem_nil, or_false] at hkst
       rcases hkst with rfl
       ·exact iq (d := 76) (.pointer (some ⟨g, 0 + k * 2, none⟩)) rfl (fun _ _ => rfl) (fun a W hf hC hn => y_ixBranch (ρ := a.eval) (.tmp 74) (.tmp 75) (b := g) (off := 0) (n := kw) (c := yw) (k := k) rfl (hn 4 (by decide)) (hn 5 (by decide)) (by omega) W)
      case c7 =>
       intro kst hkst
       replace hkst : kst ∈ ([0] : List Nat) := hkst
       simp only [List.mem_cons, List.not_mem_nil, or_false] at hkst
       rcases hkst with rfl
       ·exact iq (d := 77) (.pointer (some ⟨g, 0 + k * 2 + 1, none⟩)) rfl (fun _ _ => rfl) (fun a W hf hC hn => y_faBranch1 (ρ := a.eval) (.tmp 76) (b := g) (off := 0 + k * 2) rfl (hn 6 (by decide)) W)
      case c8 =>
       intro kst hkst
       replace hkst : kst ∈ ([0] : List Nat) := hkst
       simp only [List.mem_cons, List.not_mem_nil, or_false] at hkst
       rcases hkst with rfl
       ·exact iq (d := 78) (vp) rfl (fun _ _ => rfl) (fun a W hf hC hn => y_ldSPut (ρ := a.eval) (.tmp 77) (ad := ⟨g, 0 + k * 2 + 1, none⟩) rfl (hn 7 (by decide)) W (hC.2.cell E1.out (fun h => h)))
      case c9 =>
       intro kst hkst
       replace hkst : kst ∈ ([0] : List Nat) := hkst
       simp only [List.mem_cons, List.not_mem_nil, or_false] at hkst
       rcases hkst with rfl
       ·refine istep_w ⟨some 79, _, _, _, _, none⟩ rfl (fun a w' hf hC hn => (iwanted_no rfl)) (fun a W hf hC hn K hK => ?_)
        refine wp_runs (y_bdRec5 (ρ := a.eval) (.tmp 78) rfl (hn 8 (by decide)) OV.out W) ?_
        exact hK _ _ hC rfl (fun j _ _ _ _ x h => h)
      case c10 =>
       intro kst hkst
       replace hkst : kst ∈ ([0] : List Nat) := hkst
       simp only [List.mem_cons, List.not_mem_nil, or_false] at hkst
       rcases hkst with rfl
       ·refine istep_w ⟨some 80, _, _, _, _, none⟩ rfl (fun a w' hf hC hn => (iwanted_no rfl)) (fun a W hf hC hn K hK => ?_)
        refine w_call Tryz.func20 (by kernel_rfl) (by kernel_rfl) [.tmp 79] _ rfl [.agg #[.int .i64 0, .int .i64 0, .int .i64 0, .bool false, .slice none 0 0, vp]] (map1 (hn 9 (by decide))) (HREC.out W (SR.out.t.trans0 hC.2)) (fun e w' h => ?_)
        obtain ⟨vp', vu, he, hT, hO⟩ := h
        exact ⟨_, he, hK _ _ ⟨hC.1.keep hT, hC.2.trans0 hT⟩ ⟨vp', vu, rfl, hO.1, fun b hb => Nat.le_trans hC.2.size (hO.2 b hb)⟩ (fun j _ _ _ _ x h => rl_stb hlist j x _ _ hT h)⟩
      case c11 =>
       intro kst hkst
       replace hkst : kst ∈ ([0] : List Nat) := hkst
       simp only [List.mem_cons, List.not_mem_nil, or_false] at hkst
       rcases hkst with rfl
       ·refine istep_w ⟨some 81, _, _, _, _, none⟩ rfl (fun a w' hf hC hn => (iwanted_no rfl)) (fun a W hf hC hn K hK => ?_)
        obtain ⟨vp', vu, e1, hO⟩ : ∃ vp' vu, a.eval (.tmp 80) = .agg #[.int .i64 0, .int .i64 0, .int .i64 0, .bool false, vp', vu] /\ OwnN wr 45 2 cps.length (cps.flatMap encPut) vu W := hn 10 (by decide)
        obtain ⟨a9, c9, e9, _, _⟩ := own_shape hO.1
        refine wp_runs (y_fldRec5 (ρ := a.eval) (.tmp 80) rfl e1 (by rw [e9]; rfl) W) ?_
        exact hK _ _ hC hO (fun j _ _ _ _ x h => h)
      case c12 =>
       intro kst hkst
       replace hkst : kst ∈ ([0] : List Nat) := hkst
       simp only [List.mem_cons, List.not_mem_nil, or_false] at hkst
       rcases hkst with rfl
       ·exact iq (d := 82) (.pointer (some ⟨g, 0 + k * 2, none⟩)) rfl (fun _ _ => rfl) (fun a W hf hC hn => y_ixBranch (ρ := a.eval) (.tmp 71) (.tmp 72) (b := g) (off := 0) (n := kw) (c := yw) (k := k) rfl (hn 1 (by decide)) (hn 2 (by decide)) (by omega) W)
      case c13 =>
       intro kst hkst
       replace hkst : kst ∈ ([0] : List Nat) := hkst
       simp only [List.mem_cons, List.not_mem_nil, or_false] at hkst
       rcases hkst with rfl
       ·exact iq (d := 83) (.pointer (some ⟨g, 0 + k * 2 + 1, none⟩)) rfl (fun _ _ => rfl) (fun a W hf hC hn => y_faBranch1 (ρ := a.eval) (.tmp 82) (b := g) (off := 0 + k * 2) rfl (hn 12 (by decide)) W)
      case c14 => intro kst hkst; exact (List.not_mem_nil (show kst ∈ ([] : List Nat) from hkst)).elim
     ·show ∀ k, k < 1 -> _
      refine all_lt1 (all_lt0) ?e14
      case e14 =>
       show IStep2 _ _ _ _ _ _ (fun W => StB w w1 b1 #[.int .i64 br, .int .i64 ni, .int .i64 ns, .int .i64 tx, .slice xm km ym, .slice (some ⟨g, 0, none⟩) kw yw, .slice xe ke ye, .slice xo no yo, .slice xn nn yn] W /\ Tch No wr W) (fun W => StB w w1 b1 #[.int .i64 br, .int .i64 ni, .int .i64 ns, .int .i64 tx, .slice xm km ym, .slice (some ⟨g, 0, none⟩) kw yw, .slice xe ke ye, .slice xo no yo, .slice xn nn yn] W /\ Tch (fun q => (Value.slice (some ⟨g, 0, none⟩) kw yw).ownBlock = some q) wr W /\ RowI (encPr fun q : BrM => q.tid) (okW w w1 (k + 1) W) 74 2 kw w1 (.slice (some ⟨g, 0, none⟩) kw yw) W) _ _ _ _ _ 14
       refine istep_w2 (i := 14) ⟨none, _, _, _, _, none⟩ rfl (fun a w' hf hC hn => (iwanted_no rfl)) (fun a W hf hk hC hn K hK => ?_)
       have hO : OwnN wr 45 2 cps.length (cps.flatMap encPut) (a.eval (.tmp 81)) W := hn 11 (by decide)
       obtain ⟨vu, hvu⟩ : ∃ x, a.eval (.tmp 81) = x := ⟨_, rfl⟩
       rw [hvu] at hO
       obtain ⟨a9, c9, e9, _, _⟩ := own_shape hO.1
       have RRW := RR.out.keep hC.2
       obtain ⟨g', m, eg, hok, hg1, _, hcell, hfz⟩ := RRW.elem (fun _ => rfl) hlt
       injection eg with eg
       injection eg with eg _
       subst eg
       have ez : 0 + k * 2 = k * 2 := Nat.zero_add _
       refine w_stSPut (.tmp 83) (.tmp 81) (ad := ⟨g, k * 2 + 1, none⟩) rfl rfl (by have := hn 13 (by decide); rw [ez] at this; exact this) hvu (by rw [e9]; rfl) (hcell 1 (by decide)) (hfz _) (fun z => ?_)
       have tS := Tch.setCell (F := fun q => (Value.slice (some ⟨g, 0, none⟩) kw yw).ownBlock = some q) W ⟨g, k * 2 + 1, none⟩ vu (fun _ => rfl)
       have htyp : ∃ cur, W.heap[g]? = some (.cells cur 74 (0, 0)) := by
        obtain ⟨l, _, q2, _⟩ := RRW
        exact own_typ q2.1 rfl
       have hF : ∀ b, (Value.slice (some ⟨g, 0, none⟩) kw yw).ownBlock = some b -> ∃ cur e, e ≠ 45 /\ W.heap[b]? = some (.cells cur e (0, 0)) := fun b hb => by
        obtain ⟨cur, h⟩ := htyp
        simp [Value.ownBlock] at hb
        subst hb
        exact ⟨cur, _, by decide, h⟩
       refine hK _ _ ⟨hC.1.grow tS (fun j e => by simp [Value.ownBlock] at e; omega), hC.2.no.trans tS (fun _ _ h => h), RRW.set (ok' := okW w w1 (k + 1) (W.setCell ⟨g, k * 2 + 1, none⟩ vu)) (fun _ => rfl) hlt (by decide) (fun p => (⟨p.1.tid, cps⟩, vu)) (fun p => rfl) (fun x hx => ?_) (fun j x hj hx => ?_)⟩ trivial (by intro j hj h1 h2 h3; exfalso; revert j; decide)
       ·refine ⟨hx.1, fun _ => ⟨⟨own_tch hO.1 tS (fun b hb e => ?_), fun b hb => Nat.le_trans SR.out.le (hO.2 b hb)⟩, HOK.out⟩, fun e => by omega⟩
        obtain ⟨cur, e2, hne, hb2⟩ := hF b e
        obtain ⟨c1, g1⟩ := own_typ hO.1 hb
        rw [g1] at hb2
        injection hb2 with hb2
        injection hb2 with _ hb2
        exact hne hb2.symm
       ·have h5 := okW_tch (okW_tch hx hC.2 (fun b e => e.elim)) tS hF
        exact ⟨h5.1, fun e => h5.2.1 (by omega), fun e => h5.2.2 (by omega)⟩
     ·intro af wf hf hC hR
      replace hC : (fun W => StB w w1 b1 #[.int .i64 br, .int .i64 ni, .int .i64 ns, .int .i64 tx, .slice xm km ym, .slice (some ⟨g, 0, none⟩) kw yw, .slice xe ke ye, .slice xo no yo, .slice xn nn yn] W /\ Tch (fun q => (Value.slice (some ⟨g, 0, none⟩) kw yw).ownBlock = some q) wr W /\ RowI (encPr fun q : BrM => q.tid) (okW w w1 (k + 1) W) 74 2 kw w1 (.slice (some ⟨g, 0, none⟩) kw yw) W) wf := hC
      obtain ⟨vs, hl, rfl⟩ := hf
      have hl : vs.length = 14 := hl
      obtain ⟨u0, vs0, hv0, hl⟩ := vs_cons hl
      obtain ⟨u1, vs1, hv1, hl⟩ := vs_cons hl
      obtain ⟨u2, vs2, hv2, hl⟩ := vs_cons hl
      obtain ⟨u3, vs3, hv3, hl⟩ := vs_cons hl
      obtain ⟨u4, vs4, hv4, hl⟩ := vs_cons hl
      obtain ⟨u5, vs5, hv5, hl⟩ := vs_cons hl
      obtain ⟨u6, vs6, hv6, hl⟩ := vs_cons hl
      obtain ⟨u7, vs7, hv7, hl⟩ := vs_cons hl
      obtain ⟨u8, vs8, hv8, hl⟩ := vs_cons hl
      obtain ⟨u9, vs9, hv9, hl⟩ := vs_cons hl
      obtain ⟨u10, vs10, hv10, hl⟩ := vs_cons hl
      obtain ⟨u11, vs11, hv11, hl⟩ := vs_cons hl
      obtain ⟨u12, vs12, hv12, hl⟩ := vs_cons hl
      obtain ⟨u13, vs13, hv13, hl⟩ := vs_cons hl
      have hvn := vs_nil hl
      have hvs : vs = [u0, u1, u2, u3, u4, u5, u6, u7, u8, u9, u10, u11, u12, u13] := by rw [hv0, hv1, hv2, hv3, hv4, hv5, hv6, hv7, hv8, hv9, hv10, hv11, hv12, hv13, hvn]
      clear hvn hl hv0 hv1 hv2 hv3 hv4 hv5 hv6 hv7 hv8 hv9 hv10 hv11 hv12 hv13
      subst hvs
      have hfr2 := hfr.out
      subst hfr2
      simp only [putAll, Act.put, List.setIfInBounds_toArray, List.set_cons_succ, List.set_cons_zero]
      have SF := Lib.hid hC.1
      have TF := Lib.hid (TT.out.trans hC.2.1 (fun _ _ h => h))
      have RF := Lib.hid hC.2.2
      clear hR hlist hsz hC
      go_wp2_with fail
      go_roundg (kw - (k + 1))
      case measure => omega
      case rel => exact ⟨k + 1, by go_num, by omega, by omega, TF, SF, RF⟩
    ·have ek : k = kw := by omega
     rw [ek] at RR ⊢
     clear ek hk hkx hlt
     obtain ⟨wB, hwn⟩ : ∃ x, x = wr := ⟨wr, rfl⟩
     subst hwn
     have SB := SR
     clear SR
     have RMn := Lib.hid (RM.out.tch TT.out (fun b hb e => RowI.apart RW.out RM.out (by decide) b e hb))
     have REn := Lib.hid (RE.out.tch TT.out (fun b hb e => RowI.apart RW.out RE.out (by decide) b e hb))
     have ROn := Lib.hid (RO.out.tch TT.out (fun b hb e => RowI.apart RW.out RO.out (by decide) b e hb))
     have RNn := Lib.hid (RN.out.tch TT.out (fun b hb e => RowI.apart RW.out RN.out (by decide) b e hb))
     clear RM RW RE RO RN
     have RW := RR
     have RM := RMn
     have RE := REn
     have RO := ROn
     have RN := RNn
     clear RR TT RMn REn ROn RNn
     obtain ⟨ko1, ko2⟩ := RowI.lens RO.out
     obtain ⟨ko, hko⟩ : ∃ z, min no 20 = z := ⟨_, rfl⟩
     have go : min (no : Int) 20 = (ko : Int) := by omega
     have go0 : (0 : Int) <= (ko : Int) := by omega
     have go1 : (ko : Int) <= (yo : Int) := by omega
     have go2 : ko <= no /\ ko <= 20 := by omega
     clear hko
     obtain ⟨kn1, kn2⟩ := RowI.lens RN.out
     obtain ⟨kn, hkn⟩ : ∃ z, min nn 20 = z := ⟨_, rfl⟩
     have gn : min (nn : Int) 20 = (kn : Int) := by omega
     have gn0 : (0 : Int) <= (kn : Int) := by omega
     have gn1 : (kn : Int) <= (yn : Int) := by omega
     have gn2 : kn <= nn /\ kn <= 20 := by omega
     clear hkn
     have mixed : Tryz.prog.follows .mixedOrders = true := by kernel_rfl
     go_upto_region 15 with fail
     refine frame_var 158 rfl (fun fr hfr hsz => ?_)
     have h1 : fr.eval (.tmp 1) = .pointer (some ⟨b1, 0, none⟩) := by rw [hfr.out]; rfl
     have hlist : ∀ f ∈ ([(fun x _ => x = .pointer (some ⟨b1, 7, none⟩)), (fun x _ => x = .slice xo no yo), (fun x _ => x = .pointer (some ⟨b1, 7, none⟩)), (fun x _ => x = .slice xo no yo), (fun x _ => x = .int .i64 ((no : Nat) : Int)), (fun x _ => x = .int .i64 ((ko : Nat) : Int)), (fun x _ => x = .slice xo ko yo), (fun x _ => x = .pointer (some ⟨b1, 8, none⟩)), (fun x _ => x = .slice xn nn yn), (fun x _ => x = .pointer (some ⟨b1, 8, none⟩)), (fun x _ => x = .slice xn nn yn), (fun x _ => x = .int .i64 ((nn : Nat) : Int)), (fun x _ => x = .int .i64 ((kn : Nat) : Int)), (fun x _ => x = .slice xn kn yn), (fun x _ => x = .pointer (some ⟨b1, 7, none⟩)), (fun x _ => True), (fun x _ => x = .pointer (some ⟨b1, 8, none⟩)), (fun x _ => True)] : List (Value -> World -> Prop)), Stb f :=
      all_mem1 ((pur_eq _).stb) (all_mem1 ((pur_eq _).stb) (all_mem1 ((pur_eq _).stb) (all_mem1 ((pur_eq _).stb) (all_mem1 ((pur_eq _).stb) (all_mem1 ((pur_eq _).stb) (all_mem1 ((pur_eq _).stb) (all_mem1 ((pur_eq _).stb) (all_mem1 ((pur_eq _).stb) (all_mem1 ((pur_eq _).stb) (all_mem1 ((pur_eq _).stb) (all_mem1 ((pur_eq _).stb) (all_mem1 ((pur_eq _).stb) (all_mem1 ((pur_eq _).stb) (all_mem1 ((pur_eq _).stb) (all_mem1 (pur_any.stb) (all_mem1 ((pur_eq _).stb) (all_mem1 (pur_any.stb) (all_mem0))))))))))))))))))
     refine wp_region_inv4 [15, 17] (fun i => ([[0], [0], [0], [0], [0], [0], [0], [0], [0], [0], [0], [0, 1], [0, 1], [0, 1], [0], [], [1], []][i]?).getD []) (fun kst : Nat => match kst with | 0 => (fun W => StB w w1 b1 #[.int .i64 br, .int .i64 ni, .int .i64 ns, .int .i64 tx, .slice xm km ym, .slice xw kw yw, .slice xe ke ye, .slice xo no yo, .slice xn nn yn] W /\ Tch (fun q => q = b1) wB W) | 1 => (fun W => StB w w1 b1 #[.int .i64 br, .int .i64 ni, .int .i64 ns, .int .i64 tx, .slice xm km ym, .slice xw kw yw, .slice xe ke ye, .slice xo ko yo, .slice xn nn yn] W /\ Tch (fun q => q = b1) wB W) | _ => (fun W => StB w w1 b1 #[.int .i64 br, .int .i64 ni, .int .i64 ns, .int .i64 tx, .slice xm km ym, .slice xw kw yw, .slice xe ke ye, .slice xo ko yo, .slice xn kn yn] W /\ Tch (fun q => q = b1) wB W)) (RL [(fun x _ => x = .pointer (some ⟨b1, 7, none⟩)), (fun x _ => x = .slice xo no yo), (fun x _ => x = .pointer (some ⟨b1, 7, none⟩)), (fun x _ => x = .slice xo no yo), (fun x _ => x = .int .i64 ((no : Nat) : Int)), (fun x _ => x = .int .i64 ((ko : Nat) : Int)), (fun x _ => x = .slice xo ko yo), (fun x _ => x = .pointer (some ⟨b1, 8, none⟩)), (fun x _ => x = .slice xn nn yn), (fun x _ => x = .pointer (some ⟨b1, 8, none⟩)), (fun x _ => x = .slice xn nn yn), (fun x _ => x = .int .i64 ((nn : Nat) : Int)), (fun x _ => x = .int .i64 ((kn : Nat) : Int)), (fun x _ => x = .slice xn kn yn), (fun x _ => x = .pointer (some ⟨b1, 7, none⟩)), (fun x _ => True), (fun x _ => x = .pointer (some ⟨b1, 8, none⟩)), (fun x _ => True)]) [] [85, 86, 87, 88, 89, 90, 91, 92, 93, 94, 95, 96, 97, 98, 99, 100] [(some 85, [1], []), (some 86, [85], [0]), (some 87, [1], []), (some 88, [87], [2]), (some 89, [88], [3]), (some 90, [89], [4]), (some 91, [86, 90], [1, 5]), (some 92, [1], []), (some 93, [92], [7]), (some 94, [1], []), (some 95, [94], [9]), (some 96, [95], [10]), (some 97, [96], [11]), (some 98, [93, 97], [8, 12]), (some 99, [1], [0, 1, 2, 3, 4, 5, 6, 7, 8, 9, 10]), (none, [99, 91], [14, 6, 0, 1, 2, 3, 4, 5, 6, 7, 8, 9, 10]), (some 100, [1], [0, 1, 2, 3, 4, 5, 6, 7, 8, 9, 10, 11, 12, 13, 14, 15]), (none, [100, 98], [16, 13, 15, 0, 1, 2, 3, 4, 5, 6, 7, 8, 9, 10, 11, 12, 13, 14, 15])] (fun i => ([[], [0], [], [2], [2, 3], [2, 3, 4], [0, 1, 2, 3, 4, 5], [], [7], [], [9], [9, 10], [9, 10, 11], [7, 8, 9, 10, 11, 12], [0, 1, 2, 3, 4, 5, 6, 7, 8, 9, 10], [0, 1, 2, 3, 4, 5, 6, 7, 8, 9, 10, 14], [0, 1, 2, 3, 4, 5, 6, 7, 8, 9, 10, 11, 12, 13, 14, 15], [0, 1, 2, 3, 4, 5, 6, 7, 8, 9, 10, 11, 12, 13, 14, 15, 16]][i]?).getD []) (fun i => ([[], [0], [], [2], [3], [4], [1, 5], [], [7], [], [9], [10], [11], [8, 12], [], [6, 14], [], [13, 16]][i]?).getD []) (fun _ => []) (fun _ => []) (by kernel_rfl) (by kernel_rfl) (by kernel_rfl) (by rw [hsz]; kernel_rfl) (by kernel_rfl) (by kernel_rfl) ?_ (rl_pur ?_) ?_ ?_ ?_
     ·exact ⟨SB.out.keep (Tch.drew _), (Tch.drew _).no⟩
     ·show ∀ j, j < 18 -> _ ∨ _
      refine all_lt1 (all_lt1 (all_lt1 (all_lt1 (all_lt1 (all_lt1 (all_lt1 (all_lt1 (all_lt1 (all_lt1 (all_lt1 (all_lt1 (all_lt1 (all_lt1 (all_lt1 (all_lt1 (all_lt1 (all_lt1 (all_lt0) (Or.inr (pur_eq _))) (Or.inr (pur_eq _))) (Or.inr (pur_eq _))) (Or.inr (pur_eq _))) (Or.inr (pur_eq _))) (Or.inr (pur_eq _))) (Or.inr (pur_eq _))) (Or.inr (pur_eq _))) (Or.inr (pur_eq _))) (Or.inr (pur_eq _))) (Or.inr (pur_eq _))) (Or.inr (pur_eq _))) (Or.inr (pur_eq _))) (Or.inr (pur_eq _))) (Or.inr (pur_eq _))) (Or.inr pur_any)) (Or.inr (pur_eq _))) (Or.inr pur_any)
     ·show ∀ i, i < 18 -> _
      refine all_lt1 (all_lt1 (all_lt1 (all_lt1 (all_lt1 (all_lt1 (all_lt1 (all_lt1 (all_lt1 (all_lt1 (all_lt1 (all_lt1 (all_lt1 (all_lt1 (all_lt1 (all_lt1 (all_lt1 (all_lt1 (all_lt0) ?c0) ?c1) ?c2) ?c3) ?c4) ?c5) ?c6) ?c7) ?c8) ?c9) ?c10) ?c11) ?c12) ?c13) ?c14) ?c15) ?c16) ?c17
      case c0 =>
       intro kst hkst
       replace hkst : kst ∈ ([0] : List Nat) := hkst
       simp only [List.mem_cons, List.not_mem_nil, or_false] at hkst
       rcases hkst with rfl
       ·exact iq (d := 85) (.pointer (some ⟨b1, 7, none⟩)) rfl (fun _ _ => rfl) (fun a W hf hC hn => y_faState7 (ρ := a.eval) (.tmp 1) (b := b1) (off := 0) rfl (hf.ev (by kernel_rfl) h1) W)
      case c1 =>
       intro kst hkst
       replace hkst : kst ∈ ([0] : List Nat) := hkst
       simp only [List.mem_cons, List.not_mem_nil, or_false] at hkst
       rcases hkst with rfl
       ·exact iq (d := 86) (.slice xo no yo) rfl (fun _ _ => rfl) (fun a W hf hC hn => y_ldSPend (ρ := a.eval) (.tmp 85) (ad := ⟨b1, 7, none⟩) rfl (hn 0 (by decide)) W (((blk_cell (hC.1).box 7).trans rfl)))
      case c2 =>
       intro kst hkst
       replace hkst : kst ∈ ([0] : List Nat) := hkst
       simp only [List.mem_cons, List.not_mem_nil, or_false] at hkst
       rcases hkst with rfl
       ·exact iq (d := 87) (.pointer (some ⟨b1, 7, none⟩)) rfl (fun _ _ => rfl) (fun a W hf hC hn => y_faState7 (ρ := a.eval) (.tmp 1) (b := b1) (off := 0) rfl (hf.ev (by kernel_rfl) h1) W)
      case c3 =>
       intro kst hkst
       replace hkst : kst ∈ ([0] : List Nat) := hkst
       simp only [List.mem_cons, List.not_mem_nil, or_false] at hkst
       rcases hkst with rfl
       ·exact iq (d := 88) (.slice xo no yo) rfl (fun _ _ => rfl) (fun a W hf hC hn => y_ldSPend (ρ := a.eval) (.tmp 87) (ad := ⟨b1, 7, none⟩) rfl (hn 2 (by decide)) W (((blk_cell (hC.1).box 7).trans rfl)))
      case c4 =>
       intro kst hkst
       replace hkst : kst ∈ ([0] : List Nat) := hkst
       simp only [List.mem_cons, List.not_mem_nil, or_false] at hkst
       rcases hkst with rfl
       ·exact iq (d := 89) (.int .i64 ((no : Nat) : Int)) rfl (fun _ _ => rfl) (fun a W hf hC hn => y_lenPend (ρ := a.eval) (.tmp 88) (a := xo) (n := no) (c := yo) rfl (hn 3 (by decide)) W)
      case c5 =>
       intro kst hkst
       replace hkst : kst ∈ ([0] : List Nat) := hkst
       simp only [List.mem_cons, List.not_mem_nil, or_false] at hkst
       rcases hkst with rfl
       ·refine istep_w ⟨some 90, _, _, _, _, none⟩ rfl (fun a w' hf hC hn => (iwanted_no rfl)) (fun a W hf hC hn K hK => ?_)
        refine wp_runs (y_min (ρ := a.eval) (.tmp 89) (.const (.int .i64 20)) (a := ((no : Nat) : Int)) (b := 20) rfl (hn 4 (by decide)) rfl go W) ?_
        exact hK _ _ hC rfl (fun j _ _ _ _ x h => h)
      case c6 =>
       intro kst hkst
       replace hkst : kst ∈ ([0] : List Nat) := hkst
       simp only [List.mem_cons, List.not_mem_nil, or_false] at hkst
       rcases hkst with rfl
       ·exact iq (d := 91) (.slice xo ko yo) rfl (fun _ _ => rfl) (fun a W hf hC hn => y_sfPend (ρ := a.eval) (.tmp 86) (.tmp 90) (a := xo) (m := no) (c := yo) (n := ko) rfl (hn 1 (by decide)) (hn 5 (by decide)) (by omega) W)
      case c7 =>
       intro kst hkst
       replace hkst : kst ∈ ([0] : List Nat) := hkst
       simp only [List.mem_cons, List.not_mem_nil, or_false] at hkst
       rcases hkst with rfl
       ·exact iq (d := 92) (.pointer (some ⟨b1, 8, none⟩)) rfl (fun _ _ => rfl) (fun a W hf hC hn => y_faState8 (ρ := a.eval) (.tmp 1) (b := b1) (off := 0) rfl (hf.ev (by kernel_rfl) h1) W)
      case c8 =>
       intro kst hkst
       replace hkst : kst ∈ ([0] : List Nat) := hkst
       simp only [List.mem_cons, List.not_mem_nil, or_false] at hkst
       rcases hkst with rfl
       ·exact iq (d := 93) (.slice xn nn yn) rfl (fun _ _ => rfl) (fun a W hf hC hn => y_ldSPend (ρ := a.eval) (.tmp 92) (ad := ⟨b1, 8, none⟩) rfl (hn 7 (by decide)) W (((blk_cell (hC.1).box 8).trans rfl)))
      case c9 =>
       intro kst hkst
       replace hkst : kst ∈ ([0] : List Nat) := hkst
       simp only [List.mem_cons, List.not_mem_nil, or_false] at hkst
       rcases hkst with rfl
       ·exact iq (d := 94) (.pointer (some ⟨b1, 8, none⟩)) rfl (fun _ _ => rfl) (fun a W hf hC hn => y_faState8 (ρ := a.eval) (.tmp 1) (b := b1) (off := 0) rfl (hf.ev (by kernel_rfl) h1) W)
      case c10 =>
       intro kst hkst
       replace hkst : kst ∈ ([0] : List Nat) := hkst
       simp only [List.mem_cons, List.not_mem_nil, or_false] at hkst
       rcases hkst with rfl
       ·exact iq (d := 95) (.slice xn nn yn) rfl (fun _ _ => rfl) (fun a W hf hC hn => y_ldSPend (ρ := a.eval) (.tmp 94) (ad := ⟨b1, 8, none⟩) rfl (hn 9 (by decide)) W (((blk_cell (hC.1).box 8).trans rfl)))
      case c11 =>
       intro kst hkst
       replace hkst : kst ∈ ([0, 1] : List Nat) := hkst
       simp only [List.mem_cons, List.not_mem_nil, or_false] at hkst
       rcases hkst with rfl | rfl
       ·exact iq (d := 96) (.int .i64 ((nn : Nat) : Int)) rfl (fun _ _ => rfl) (fun a W hf hC hn => y_lenPend (ρ := a.eval) (.tmp 95) (a := xn) (n := nn) (c := yn) rfl (hn 10 (by decide)) W)
       ·exact iq (d := 96) (.int .i64 ((nn : Nat) : Int)) rfl (fun _ _ => rfl) (fun a W hf hC hn => y_lenPend (ρ := a.eval) (.tmp 95) (a := xn) (n := nn) (c := yn) rfl (hn 10 (by decide)) W)
      case c12 =>
       intro kst hkst
       replace hkst : kst ∈ ([0, 1] : List Nat) := hkst
       simp only [List.mem_cons, List.not_mem_nil, or_false] at hkst
       rcases hkst with rfl | rfl
       ·refine istep_w ⟨some 97, _, _, _, _, none⟩ rfl (fun a w' hf hC hn => (iwanted_no rfl)) (fun a W hf hC hn K hK => ?_)
        refine wp_runs (y_min (ρ := a.eval) (.tmp 96) (.const (.int .i64 20)) (a := ((nn : Nat) : Int)) (b := 20) rfl (hn 11 (by decide)) rfl gn W) ?_
        exact hK _ _ hC rfl (fun j _ _ _ _ x h => h)
       ·refine istep_w ⟨some 97, _, _, _, _, none⟩ rfl (fun a w' hf hC hn => (iwanted_no rfl)) (fun a W hf hC hn K hK => ?_)
        refine wp_runs (y_min (ρ := a.eval) (.tmp 96) (.const (.int .i64 20)) (a := ((nn : Nat) : Int)) (b := 20) rfl (hn 11 (by decide)) rfl gn W) ?_
        exact hK _ _ hC rfl (fun j _ _ _ _ x h => h)
      case c13 =>
       intro kst hkst
       replace hkst : kst ∈ ([0, 1] : List Nat) := hkst
       simp only [List.mem_cons, List.not_mem_nil, or_false] at hkst
       rcases hkst with rfl | rfl
       ·exact iq (d := 98) (.slice xn kn yn) rfl (fun _ _ => rfl) (fun a W hf hC hn => y_sfPend (ρ := a.eval) (.tmp 93) (.tmp 97) (a := xn) (m := nn) (c := yn) (n := kn) rfl (hn 8 (by decide)) (hn 12 (by decide)) (by omega) W)
       ·exact iq (d := 98) (.slice xn kn yn) rfl (fun _ _ => rfl) (fun a W hf hC hn => y_sfPend (ρ := a.eval) (.tmp 93) (.tmp 97) (a := xn) (m := nn) (c := yn) (n := kn) rfl (hn 8 (by decide)) (hn 12 (by decide)) (by omega) W)
      case c14 =>
       intro kst hkst
       replace hkst : kst ∈ ([0] : List Nat) := hkst
       simp only [List.mem_cons, List.not_mem_nil, or_false] at hkst
       rcases hkst with rfl
       ·exact iq (d := 99) (.pointer (some ⟨b1, 7, none⟩)) rfl (fun _ _ => rfl) (fun a W hf hC hn => y_faState7 (ρ := a.eval) (.tmp 1) (b := b1) (off := 0) rfl (hf.ev (by kernel_rfl) h1) W)
      case c15 => intro kst hkst; exact (List.not_mem_nil (show kst ∈ ([] : List Nat) from hkst)).elim
      case c16 =>
       intro kst hkst
       replace hkst : kst ∈ ([1] : List Nat) := hkst
       simp only [List.mem_cons, List.not_mem_nil, or_false] at hkst
       rcases hkst with rfl
       ·exact iq (d := 100) (.pointer (some ⟨b1, 8, none⟩)) rfl (fun _ _ => rfl) (fun a W hf hC hn => y_faState8 (ρ := a.eval) (.tmp 1) (b := b1) (off := 0) rfl (hf.ev (by kernel_rfl) h1) W)
      case c17 => intro kst hkst; exact (List.not_mem_nil (show kst ∈ ([] : List Nat) from hkst)).elim
     ·show ∀ k, k < 2 -> _
      refine all_lt1 (all_lt1 (all_lt0) ?e15) ?e17
      case e15 =>
       show IStep2 _ _ _ _ _ _ (fun W => StB w w1 b1 #[.int .i64 br, .int .i64 ni, .int .i64 ns, .int .i64 tx, .slice xm km ym, .slice xw kw yw, .slice xe ke ye, .slice xo no yo, .slice xn nn yn] W /\ Tch (fun q => q = b1) wB W) (fun W => StB w w1 b1 #[.int .i64 br, .int .i64 ni, .int .i64 ns, .int .i64 tx, .slice xm km ym, .slice xw kw yw, .slice xe ke ye, .slice xo ko yo, .slice xn nn yn] W /\ Tch (fun q => q = b1) wB W) _ _ _ _ _ 15
       refine istep_w2 (i := 15) ⟨none, _, _, _, _, none⟩ rfl (fun a w' hf hC hn => (iwanted_no rfl)) (fun a W hf hk hC hn K hK => ?_)
       refine w_stSPend (.tmp 99) (.tmp 91) (ad := ⟨b1, 7, none⟩) rfl rfl (hn 14 (by decide)) (hn 6 (by decide)) rfl ((blk_cell hC.1.box 7).trans rfl) (blk_free hC.1.box 7) (fun z => ?_)
       exact hK _ _ ⟨hC.1.set 7 _ rfl, hC.2.trans (Tch.setCell (F := fun q => q = b1) W ⟨b1, 7, none⟩ (.slice xo ko yo) (fun _ => rfl)) (fun _ _ h => h)⟩ trivial (fun j hj _ _ _ x h => by cases hj)
      case e17 =>
       show IStep2 _ _ _ _ _ _ (fun W => StB w w1 b1 #[.int .i64 br, .int .i64 ni, .int .i64 ns, .int .i64 tx, .slice xm km ym, .slice xw kw yw, .slice xe ke ye, .slice xo ko yo, .slice xn nn yn] W /\ Tch (fun q => q = b1) wB W) (fun W => StB w w1 b1 #[.int .i64 br, .int .i64 ni, .int .i64 ns, .int .i64 tx, .slice xm km ym, .slice xw kw yw, .slice xe ke ye, .slice xo ko yo, .slice xn kn yn] W /\ Tch (fun q => q = b1) wB W) _ _ _ _ _ 17
       refine istep_w2 (i := 17) ⟨none, _, _, _, _, none⟩ rfl (fun a w' hf hC hn => (iwanted_no rfl)) (fun a W hf hk hC hn K hK => ?_)
       refine w_stSPend (.tmp 100) (.tmp 98) (ad := ⟨b1, 8, none⟩) rfl rfl (hn 16 (by decide)) (hn 13 (by decide)) rfl ((blk_cell hC.1.box 8).trans rfl) (blk_free hC.1.box 8) (fun z => ?_)
       exact hK _ _ ⟨hC.1.set 8 _ rfl, hC.2.trans (Tch.setCell (F := fun q => q = b1) W ⟨b1, 8, none⟩ (.slice xn kn yn) (fun _ => rfl)) (fun _ _ h => h)⟩ trivial (fun j hj _ _ _ x h => by cases hj)
     ·intro af wf hf hC hR
      replace hC : (fun W => StB w w1 b1 #[.int .i64 br, .int .i64 ni, .int .i64 ns, .int .i64 tx, .slice xm km ym, .slice xw kw yw, .slice xe ke ye, .slice xo ko yo, .slice xn kn yn] W /\ Tch (fun q => q = b1) wB W) wf := hC
      obtain ⟨vs, hl, rfl⟩ := hf
      have hl : vs.length = 16 := hl
      obtain ⟨u0, vs0, hv0, hl⟩ := vs_cons hl
      obtain ⟨u1, vs1, hv1, hl⟩ := vs_cons hl
      obtain ⟨u2, vs2, hv2, hl⟩ := vs_cons hl
      obtain ⟨u3, vs3, hv3, hl⟩ := vs_cons hl
      obtain ⟨u4, vs4, hv4, hl⟩ := vs_cons hl
      obtain ⟨u5, vs5, hv5, hl⟩ := vs_cons hl
      obtain ⟨u6, vs6, hv6, hl⟩ := vs_cons hl
      obtain ⟨u7, vs7, hv7, hl⟩ := vs_cons hl
      obtain ⟨u8, vs8, hv8, hl⟩ := vs_cons hl
      obtain ⟨u9, vs9, hv9, hl⟩ := vs_cons hl
      obtain ⟨u10, vs10, hv10, hl⟩ := vs_cons hl
      obtain ⟨u11, vs11, hv11, hl⟩ := vs_cons hl
      obtain ⟨u12, vs12, hv12, hl⟩ := vs_cons hl
      obtain ⟨u13, vs13, hv13, hl⟩ := vs_cons hl
      obtain ⟨u14, vs14, hv14, hl⟩ := vs_cons hl
      obtain ⟨u15, vs15, hv15, hl⟩ := vs_cons hl
      have hvn := vs_nil hl
      have hvs : vs = [u0, u1, u2, u3, u4, u5, u6, u7, u8, u9, u10, u11, u12, u13, u14, u15] := by rw [hv0, hv1, hv2, hv3, hv4, hv5, hv6, hv7, hv8, hv9, hv10, hv11, hv12, hv13, hv14, hv15, hvn]
      clear hvn hl hv0 hv1 hv2 hv3 hv4 hv5 hv6 hv7 hv8 hv9 hv10 hv11 hv12 hv13 hv14 hv15
      subst hvs
      have hfr2 := hfr.out
      subst hfr2
      simp only [putAll, Act.put, List.setIfInBounds_toArray, List.set_cons_succ, List.set_cons_zero]
      have SBn := Lib.hid hC.1
      have TBn := Lib.hid hC.2
      have SBo := SB
      clear hR hlist hsz SB
      have SB := SBn
      clear SBn hC
      have RMn := Lib.hid (RowI.tch RM.out TBn.out (fun k hk e => by have := RowI.young RM.out k hk; omega))
      clear RM
      have RM := RMn
      clear RMn
      have RWn := Lib.hid (RowI.mono (RowI.tch RW.out TBn.out (fun k hk e => by have := RowI.young RW.out k hk; omega)) (fun i x _ h => okW_tch h TBn.out (fun b hb => by have hb9 : b = b1 := hb; rw [hb9]; exact ⟨_, 27, by decide, SBo.out.box⟩)))
      clear RW
      have RW := RWn
      clear RWn
      have REn := Lib.hid (RowI.tch RE.out TBn.out (fun k hk e => by have := RowI.young RE.out k hk; omega))
      clear RE
      have RE := REn
      clear REn
      have ROn := Lib.hid (RowI.cut (RowI.tch RO.out TBn.out (fun k hk e => by have := RowI.young RO.out k hk; omega)) (fun _ => rfl) go2.1)
      clear RO
      have RO := ROn
      clear ROn
      have RNn := Lib.hid (RowI.cut (RowI.tch RN.out TBn.out (fun k hk e => by have := RowI.young RN.out k hk; omega)) (fun _ => rfl) gn2.1)
      clear RN
      have RN := RNn
      clear RNn
      clear TBn SBo
      have APc : Hid (∀ b, (Value.slice xo ko yo).ownBlock = some b -> (Value.slice xn kn yn).ownBlock ≠ some b) := fun b h1 h2 => AP.out b (by cases xo with | none => simp [Value.ownBlock] at h1 | some a => simpa [Value.ownBlock] using h1) (by cases xn with | none => simp [Value.ownBlock] at h2 | some a => simpa [Value.ownBlock] using h2)
      clear AP
      have AP := APc
      clear APc
      have q7 : wf.cell? ⟨b1, 7, none⟩ = some (.slice xo ko yo) := (blk_cell SB.out.box 7).trans rfl
      have RO0 : Hid (RowI (encPr fun q : PendM => q.tid) (okO w w1 0 wf) 76 2 ko w1 (.slice xo ko yo) wf) := RO.out.mono (fun i x _ h => ⟨h.2.1, h.2.2, fun e => by omega, fun _ => h.1⟩)
      go_wp2_with fail
      clear q7
      go_loopg [5, 104] ko (fun kx sv si wr => ∃ k : Nat, si = .int .i64 k /\ k <= ko /\ ko - k <= kx /\ Hid (Tch (fun q => (Value.slice xo ko yo).ownBlock = some q) wf wr) /\ Hid (StB w w1 b1 #[.int .i64 br, .int .i64 ni, .int .i64 ns, .int .i64 tx, .slice xm km ym, .slice xw kw yw, .slice xe ke ye, .slice xo ko yo, .slice xn kn yn] wr) /\ Hid (RowI (encPr fun q : PendM => q.tid) (okO w w1 k wr) 76 2 ko w1 (.slice xo ko yo) wr))
      case atStart => exact ⟨0, rfl, Nat.zero_le _, by omega, Tch.refl _ _, SB, RO0⟩
      case round =>
       clear RO0
       obtain ⟨k, rfl, hk, hkx, TT, SR, RR⟩ := hrel
       by_cases hlt : k < ko
       ·obtain ⟨g, ⟨⟨t0, ps⟩, vp⟩, rfl, hok, hg1, hg2, hcell, _⟩ := RR.out.elem (fun _ => rfl) hlt
        have GG : Hid (w1.heap.size <= g) := hg1
        obtain ⟨ho1, ho3, _, ho2⟩ := hok
        have hps := ho2 (Nat.le_refl _)
        simp only at hps ho1 ho3
        obtain ⟨ap, cp, rfl, hcp1, hcp2⟩ := hps.shape
        have E1 : Hid (wr.cell? ⟨g, 0 + k * 2 + 1, none⟩ = some (.slice ap ps.length cp)) := by rw [Hid, Nat.zero_add]; exact (hcell 1 (by decide)).trans rfl
        obtain ⟨np, hnp⟩ : ∃ z, ps.length = z := ⟨_, rfl⟩
        have HNP := Lib.hid hnp
        rw [hnp] at E1 hcp1
        obtain ⟨kp, hkp⟩ : ∃ z, min np 9 = z := ⟨_, rfl⟩
        have gp : min (np : Int) 9 = (kp : Int) := by omega
        have gp0 : (0 : Int) <= (kp : Int) := by omega
        have gp1 : (kp : Int) <= (cp : Int) := by omega
        have gp2 : kp <= np /\ kp <= 9 := by omega
        have HPT : Hid (∀ W, Tch No w W -> CellsL W (.slice ap kp cp) kp 1 ((ps.take kp).map fun x => .int .i64 x)) := fun W t => by
         have h9 := CellsL.keep hps t
         rw [hnp] at h9
         have h8 := h9.take gp2.1
         rw [Nat.mul_one, <- List.map_take] at h8
         exact h8
        have HLK : Hid ((ps.take kp).length = kp) := by rw [Hid, List.length_take]; omega
        have HI6 : Hid (∀ x ∈ ps.take kp, I64 x) := fun x hx => ho3 x (List.mem_of_mem_take hx)
        have HT0 := Lib.hid ho1
        clear hps hcell hg1 hg2 ho1 ho2 ho3 hkp hnp
        have q7 : wr.cell? ⟨b1, 7, none⟩ = some (.slice (some ⟨g, 0, none⟩) ko yo) := (blk_cell SR.out.box 7).trans rfl
        have mixed : Tryz.prog.follows .mixedOrders = true := by kernel_rfl
        go_upto_region 19 with fail
        refine frame_var 158 rfl (fun fr hfr hsz => ?_)
        have h1 : fr.eval (.tmp 1) = .pointer (some ⟨b1, 0, none⟩) := by rw [hfr.out]; rfl
        have hv : fr.eval (.tmp 5) = .int .i64 ((k : Nat) : Int) := by rw [hfr.out]; rfl
        clear q7
        have hlist : ∀ f ∈ ([(fun x _ => x = .pointer (some ⟨b1, 7, none⟩)), (fun x _ => x = .slice (some ⟨g, 0, none⟩) ko yo), (fun x _ => x = .int .i64 ((k : Nat) : Int)), (fun x _ => x = .pointer (some ⟨b1, 7, none⟩)), (fun x _ => x = .slice (some ⟨g, 0, none⟩) ko yo), (fun x _ => x = .int .i64 ((k : Nat) : Int)), (fun x _ => x = .pointer (some ⟨g, 0 + k * 2, none⟩)), (fun x _ => x = .pointer (some ⟨g, 0 + k * 2 + 1, none⟩)), (fun x _ => x = .slice ap np cp), (fun x _ => x = .pointer (some ⟨b1, 7, none⟩)), (fun x _ => x = .slice (some ⟨g, 0, none⟩) ko yo), (fun x _ => x = .int .i64 ((k : Nat) : Int)), (fun x _ => x = .pointer (some ⟨g, 0 + k * 2, none⟩)), (fun x _ => x = .pointer (some ⟨g, 0 + k * 2 + 1, none⟩)), (fun x _ => x = .slice ap np cp), (fun x _ => x = .int .i64 ((np : Nat) : Int)), (fun x _ => x = .int .i64 ((kp : Nat) : Int)), (fun x _ => x = .slice ap kp cp), (OwnN wr 3 1 kp ((ps.take kp).map fun x => .int .i64 x)), (fun x _ => x = .pointer (some ⟨g, 0 + k * 2, none⟩)), (fun x _ => x = .pointer (some ⟨g, 0 + k * 2 + 1, none⟩)), (fun x _ => True)] : List (Value -> World -> Prop)), Stb f :=
         all_mem1 ((pur_eq _).stb) (all_mem1 ((pur_eq _).stb) (all_mem1 ((pur_eq _).stb) (all_mem1 ((pur_eq _).stb) (all_mem1 ((pur_eq _).stb) (all_mem1 ((pur_eq _).stb) (all_mem1 ((pur_eq _).stb) (all_mem1 ((pur_eq _).stb) (all_mem1 ((pur_eq _).stb) (all_mem1 ((pur_eq _).stb) (all_mem1 ((pur_eq _).stb) (all_mem1 ((pur_eq _).stb) (all_mem1 ((pur_eq _).stb) (all_mem1 ((pur_eq _).stb) (all_mem1 ((pur_eq _).stb) (all_mem1 ((pur_eq _).stb) (all_mem1 ((pur_eq _).stb) (all_mem1 ((pur_eq _).stb) (all_mem1 (stb_own) (all_mem1 ((pur_eq _).stb) (all_mem1 ((pur_eq _).stb) (all_mem1 (pur_any.stb) (all_mem0))))))))))))))))))))))
        refine wp_region_inv4 [21] (fun i => ([[0], [0], [0], [0], [0], [0], [0], [0], [0], [0], [0], [0], [0], [0], [0], [0], [0], [0], [0], [0], [0], []][i]?).getD []) (fun kst : Nat => match kst with | 0 => (fun W => StB w w1 b1 #[.int .i64 br, .int .i64 ni, .int .i64 ns, .int .i64 tx, .slice xm km ym, .slice xw kw yw, .slice xe ke ye, .slice (some ⟨g, 0, none⟩) ko yo, .slice xn kn yn] W /\ Tch No wr W) | _ => (fun W => StB w w1 b1 #[.int .i64 br, .int .i64 ni, .int .i64 ns, .int .i64 tx, .slice xm km ym, .slice xw kw yw, .slice xe ke ye, .slice (some ⟨g, 0, none⟩) ko yo, .slice xn kn yn] W /\ Tch (fun q => (Value.slice (some ⟨g, 0, none⟩) ko yo).ownBlock = some q) wr W /\ RowI (encPr fun q : PendM => q.tid) (okO w w1 (k + 1) W) 76 2 ko w1 (.slice (some ⟨g, 0, none⟩) ko yo) W)) (RL [(fun x _ => x = .pointer (some ⟨b1, 7, none⟩)), (fun x _ => x = .slice (some ⟨g, 0, none⟩) ko yo), (fun x _ => x = .int .i64 ((k : Nat) : Int)), (fun x _ => x = .pointer (some ⟨b1, 7, none⟩)), (fun x _ => x = .slice (some ⟨g, 0, none⟩) ko yo), (fun x _ => x = .int .i64 ((k : Nat) : Int)), (fun x _ => x = .pointer (some ⟨g, 0 + k * 2, none⟩)), (fun x _ => x = .pointer (some ⟨g, 0 + k * 2 + 1, none⟩)), (fun x _ => x = .slice ap np cp), (fun x _ => x = .pointer (some ⟨b1, 7, none⟩)), (fun x _ => x = .slice (some ⟨g, 0, none⟩) ko yo), (fun x _ => x = .int .i64 ((k : Nat) : Int)), (fun x _ => x = .pointer (some ⟨g, 0 + k * 2, none⟩)), (fun x _ => x = .pointer (some ⟨g, 0 + k * 2 + 1, none⟩)), (fun x _ => x = .slice ap np cp), (fun x _ => x = .int .i64 ((np : Nat) : Int)), (fun x _ => x = .int .i64 ((kp : Nat) : Int)), (fun x _ => x = .slice ap kp cp), (OwnN wr 3 1 kp ((ps.take kp).map fun x => .int .i64 x)), (fun x _ => x = .pointer (some ⟨g, 0 + k * 2, none⟩)), (fun x _ => x = .pointer (some ⟨g, 0 + k * 2 + 1, none⟩)), (fun x _ => True)]) [18] [107, 108, 109, 110, 111, 112, 113, 114, 115, 116, 117, 118, 119, 120, 121, 122, 123, 124, 125, 126, 127] [(some 107, [1], []), (some 108, [107], [0]), (some 109, [5], []), (some 110, [1], []), (some 111, [110], [3]), (some 112, [5], []), (some 113, [111, 112], [4, 5]), (some 114, [113], [6]), (some 115, [114], [7]), (some 116, [1], []), (some 117, [116], [9]), (some 118, [5], []), (some 119, [117, 118], [10, 11]), (some 120, [119], [12]), (some 121, [120], [13]), (some 122, [121], [14]), (some 123, [122], [15]), (some 124, [115, 123], [8, 16]), (some 125, [124], [17]), (some 126, [108, 109], [1, 2, 0, 1, 2, 3, 4, 5, 6, 7, 8, 9, 10, 11, 12, 13, 14, 15, 16, 17, 18]), (some 127, [126], [19, 0, 1, 2, 3, 4, 5, 6, 7, 8, 9, 10, 11, 12, 13, 14, 15, 16, 17, 18]), (none, [127, 125], [20, 18, 18, 0, 1, 2, 3, 4, 5, 6, 7, 8, 9, 10, 11, 12, 13, 14, 15, 16, 17, 18])] (fun i => ([[], [0], [], [], [3], [], [3, 4, 5], [3, 4, 5, 6], [3, 4, 5, 6, 7], [], [9], [], [9, 10, 11], [9, 10, 11, 12], [9, 10, 11, 12, 13], [9, 10, 11, 12, 13, 14], [9, 10, 11, 12, 13, 14, 15], [3, 4, 5, 6, 7, 8, 9, 10, 11, 12, 13, 14, 15, 16], [3, 4, 5, 6, 7, 8, 9, 10, 11, 12, 13, 14, 15, 16, 17], [0, 1, 2, 3, 4, 5, 6, 7, 8, 9, 10, 11, 12, 13, 14, 15, 16, 17, 18], [0, 1, 2, 3, 4, 5, 6, 7, 8, 9, 10, 11, 12, 13, 14, 15, 16, 17, 18, 19], [0, 1, 2, 3, 4, 5, 6, 7, 8, 9, 10, 11, 12, 13, 14, 15, 16, 17, 18, 19, 20]][i]?).getD []) (fun i => ([[], [0], [], [], [3], [], [4, 5], [6], [7], [], [9], [], [10, 11], [12], [13], [14], [15], [8, 16], [17], [1, 2], [19], [18, 20]][i]?).getD []) (fun i => ([[], [], [], [], [], [], [], [], [], [], [], [], [], [], [], [], [], [], [], [], [], [18]][i]?).getD []) (fun i => ([[], [], [], [18], [18], [18], [18], [18], [18], [18], [18], [18], [18], [18], [18], [18], [18], [18], [], [], [], []][i]?).getD []) (by kernel_rfl) (by kernel_rfl) (by kernel_rfl) (by rw [hsz]; kernel_rfl) (by kernel_rfl) (by kernel_rfl) ?_ (rl_pur ?_) ?_ ?_ ?_
        ·exact ⟨SR.out.keep (Tch.drew _), Tch.drew _⟩
        ·show ∀ j, j < 22 -> _ ∨ _
         refine all_lt1 (all_lt1 (all_lt1 (all_lt1 (all_lt1 (all_lt1 (all_lt1 (all_lt1 (all_lt1 (all_lt1 (all_lt1 (all_lt1 (all_lt1 (all_lt1 (all_lt1 (all_lt1 (all_lt1 (all_lt1 (all_lt1 (all_lt1 (all_lt1 (all_lt1 (all_lt0) (Or.inr (pur_eq _))) (Or.inr (pur_eq _))) (Or.inr (pur_eq _))) (Or.inr (pur_eq _))) (Or.inr (pur_eq _))) (Or.inr (pur_eq _))) (Or.inr (pur_eq _))) (Or.inr (pur_eq _))) (Or.inr (pur_eq _))) (Or.inr (pur_eq _))) (Or.inr (pur_eq _))) (Or.inr (pur_eq _))) (Or.inr (pur_eq _))) (Or.inr (pur_eq _))) (Or.inr (pur_eq _))) (Or.inr (pur_eq _))) (Or.inr (pur_eq _))) (Or.inr (pur_eq _))) (Or.inl (by decide))) (Or.inr (pur_eq _))) (Or.inr (pur_eq _))) (Or.inr pur_any)
        ·show ∀ i, i < 22 -> _
         refine all_lt1 (all_lt1 (all_lt1 (all_lt1 (all_lt1 (all_lt1 (all_lt1 (all_lt1 (all_lt1 (all_lt1 (all_lt1 (all_lt1 (all_lt1 (all_lt1 (all_lt1 (all_lt1 (all_lt1 (all_lt1 (all_lt1 (all_lt1 (all_lt1 (all_lt1 (all_lt0) ?c0) ?c1) ?c2) ?c3) ?c4) ?c5) ?c6) ?c7) ?c8) ?c9) ?c10) ?c11) ?c12) ?c13) ?c14) ?c15) ?c16) ?c17) ?c18) ?c19) ?c20) ?c21
         case c0 =>
          intro kst hkst
          replace hkst : kst ∈ ([0] : List Nat) := hkst
          simp only [List.mem_cons, List.not_mem_nil, or_false] at hkst
          rcases hkst with rfl
          ·exact iq (d := 107) (.pointer (some ⟨b1, 7, none⟩)) rfl (fun _ _ => rfl) (fun a W hf hC hn => y_faState7 (ρ := a.eval) (.tmp 1) (b := b1) (off := 0) rfl (hf.ev (by kernel_rfl) h1) W)
         case c1 =>
          intro kst hkst
          replace hkst : kst ∈ ([0] : List Nat) := hkst
          simp only [List.mem_cons, List.not_mem_nil, or_false] at hkst
          rcases hkst with rfl
          ·exact iq (d := 108) (.slice (some ⟨g, 0, none⟩) ko yo) rfl (fun _ _ => rfl) (fun a W hf hC hn => y_ldSPend (ρ := a.eval) (.tmp 107) (ad := ⟨b1, 7, none⟩) rfl (hn 0 (by decide)) W (((blk_cell (hC.1).box 7).trans rfl)))
         case c2 =>
          intro kst hkst
          replace hkst : kst ∈ ([0] : List Nat) := hkst
          simp only [List.mem_cons, List.not_mem_nil, or_false] at hkst
          rcases hkst with rfl
          ·exact iq (d := 109) (.int .i64 ((k : Nat) : Int)) rfl (fun _ _ => rfl) (fun a W hf hC hn => y_move (ρ := a.eval) (.tmp 5) rfl (hf.ev (by kernel_rfl) hv) W)
         case c3 =>
          intro kst hkst
          replace hkst : kst ∈ ([0] : List Nat) := hkst
          simp only [List.mem_cons, List.not_mem_nil, or_false] at hkst
          rcases hkst with rfl
          ·exact iq (d := 110) (.pointer (some ⟨b1, 7, none⟩)) rfl (fun _ _ => rfl) (fun a W hf hC hn => y_faState7 (ρ := a.eval) (.tmp 1) (b := b1) (off := 0) rfl (hf.ev (by kernel_rfl) h1) W)
         case c4 =>
          intro kst hkst
          replace hkst : kst ∈ ([0] : List Nat) := hkst
          simp only [List.mem_cons, List.not_mem_nil, or_false] at hkst
          rcases hkst with rfl
          ·exact iq (d := 111) (.slice (some ⟨g, 0, none⟩) ko yo) rfl (fun _ _ => rfl) (fun a W hf hC hn => y_ldSPend (ρ := a.eval) (.tmp 110) (ad := ⟨b1, 7, none⟩) rfl (hn 3 (by decide)) W (((blk_cell (hC.1).box 7).trans rfl)))
         case c5 =>
          intro kst hkst
          replace hkst : kst ∈ ([0] : List Nat) := hkst
          simp only [List.mem_cons, List.not_mem_nil, or_false] at hkst
          rcases hkst with rfl
          ·exact iq (d := 112) (.int .i64 ((k : Nat) : Int)) rfl (fun _ _ => rfl) (fun a W hf hC hn => y_move (ρ := a.eval) (.tmp 5) rfl (hf.ev (by kernel_rfl) hv) W)
         case c6 =>
          intro kst hkst
          replace hkst : kst ∈ ([0] : List Nat) := hkst
          simp only [List.mem_cons, List.not_mem_nil, or_false] at hkst
          rcases hkst with rfl
          ·exact iq (d := 113) (.pointer (some ⟨g, 0 + k * 2, none⟩)) rfl (fun _ _ => rfl) (fun a W hf hC hn => y_ixPend (ρ := a.eval) (.tmp 111) (.tmp 112) (b := g) (off := 0) (n := ko) (c := yo) (k := k) rfl (hn 4 (by decide)) (hn 5 (by decide)) (by omega) W)
         case c7 =>
          intro kst hkst
          replace hkst : kst ∈ ([0] : List Nat) := hkst
          simp only [List.mem_cons, List.not_mem_nil, or_false] at hkst
          rcases hkst with rfl
          ·exact iq (d := 114) (.pointer (some ⟨g, 0 + k * 2 + 1, none⟩)) rfl (fun _ _ => rfl) (fun a W hf hC hn => y_faPend1 (ρ := a.eval) (.tmp 113) (b := g) (off := 0 + k * 2) rfl (hn 6 (by decide)) W)
         case c8 =>
          intro kst hkst
          replace hkst : kst ∈ ([0] : List Nat) := hkst
          simp only [List.mem_cons, List.not_mem_nil, or_false] at hkst
          rcases hkst with rfl
          ·exact iq (d := 115) (.slice ap np cp) rfl (fun _ _ => rfl) (fun a W hf hC hn => y_ldSInt (ρ := a.eval) (.tmp 114) (ad := ⟨g, 0 + k * 2 + 1, none⟩) rfl (hn 7 (by decide)) W (hC.2.cell E1.out (fun h => h)))
         case c9 =>
          intro kst hkst
          replace hkst : kst ∈ ([0] : List Nat) := hkst
          simp only [List.mem_cons, List.not_mem_nil, or_false] at hkst
          rcases hkst with rfl
          ·exact iq (d := 116) (.pointer (some ⟨b1, 7, none⟩)) rfl (fun _ _ => rfl) (fun a W hf hC hn => y_faState7 (ρ := a.eval) (.tmp 1) (b := b1) (off := 0) rfl (hf.ev (by kernel_rfl) h1) W)
         case c10 =>
          intro kst hkst
          replace hkst : kst ∈ ([0] : List Nat) := hkst
          simp only [List.mem_cons, List.not_mem_nil, or_false] at hkst
          rcases hkst with rfl
          ·exact iq (d := 117) (.slice (some ⟨g, 0, none⟩) ko yo) rfl (fun _ _ => rfl) (fun a W hf hC hn => y_ldSPend (ρ := a.eval) (.tmp 116) (ad := ⟨b1, 7, none⟩) rfl (hn 9 (by decide)) W (((blk_cell (hC.1).box 7).trans rfl)))
         case c11 =>
          intro kst hkst
          replace hkst : kst ∈ ([0] : List Nat) := hkst
          simp only [List.mem_cons, List.not_mem_nil, or_false] at hkst
          rcases hkst with rfl
          ·exact iq (d := 118) (.int .i64 ((k : Nat) : Int)) rfl (fun _ _ => rfl) (fun a W hf hC hn => y_move (ρ := a.eval) (.tmp 5) rfl (hf.ev (by kernel_rfl) hv) W)
         case c12 =>
          intro kst hkst
          replace hkst : kst ∈ ([0] : List Nat) := hkst
          simp only [List.mem_cons, List.not_mem_nil, or_false] at hkst
          rcases hkst with rfl
          ·exact iq (d := 119) (.pointer (some ⟨g, 0 + k * 2, none⟩)) rfl (fun _ _ => rfl) (fun a W hf hC hn => y_ixPend (ρ := a.eval) (.tmp 117) (.tmp 118) (b := g) (off := 0) (n := ko) (c := yo) (k := k) rfl (hn 10 (by decide)) (hn 11 (by decide)) (by omega) W)
         case c13 =>
          intro kst hkst
          replace hkst : kst ∈ ([0] : List Nat) := hkst
          simp only [List.mem_cons, List.not_mem_nil, or_false] at hkst
          rcases hkst with rfl
          ·exact iq (d := 120) (.pointer (some ⟨g, 0 + k * 2 + 1, none⟩)) rfl (fun _ _ => rfl) (fun a W hf hC hn => y_faPend1 (ρ := a.eval) (.tmp 119) (b := g) (off := 0 + k * 2) rfl (hn 12 (by decide)) W)
         case c14 =>
          intro kst hkst
          replace hkst : kst ∈ ([0] : List Nat) := hkst
          simp only [List.mem_cons, List.not_mem_nil, or_false] at hkst
          rcases hkst with rfl
          ·exact iq (d := 121) (.slice ap np cp) rfl (fun _ _ => rfl) (fun a W hf hC hn => y_ldSInt (ρ := a.eval) (.tmp 120) (ad := ⟨g, 0 + k * 2 + 1, none⟩) rfl (hn 13 (by decide)) W (hC.2.cell E1.out (fun h => h)))
         case c15 =>
          intro kst hkst
          replace hkst : kst ∈ ([0] : List Nat) := hkst
          simp only [List.mem_cons, List.not_mem_nil, or_false] at hkst
          rcases hkst with rfl
          ·exact iq (d := 122) (.int .i64 ((np : Nat) : Int)) rfl (fun _ _ => rfl) (fun a W hf hC hn => y_lenInt (ρ := a.eval) (.tmp 121) (a := ap) (n := np) (c := cp) rfl (hn 14 (by decide)) W)
         case c16 =>
          intro kst hkst
          replace hkst : kst ∈ ([0] : List Nat) := hkst
          simp only [List.mem_cons, List.not_mem_nil, or_false] at hkst
          rcases hkst with rfl
          ·refine istep_w ⟨some 123, _, _, _, _, none⟩ rfl (fun a w' hf hC hn => (iwanted_no rfl)) (fun a W hf hC hn K hK => ?_)
           refine wp_runs (y_min (ρ := a.eval) (.tmp 122) (.const (.int .i64 9)) (a := ((np : Nat) : Int)) (b := 9) rfl (hn 15 (by decide)) rfl gp W) ?_
           exact hK _ _ hC rfl (fun j _ _ _ _ x h => h)
         case c17 =>
          intro kst hkst
          replace hkst : kst ∈ ([0] : List Nat) := hkst
          simp only [List.mem_cons, List.not_mem_nil, or_false] at hkst
          rcases hkst with rfl
          ·exact iq (d := 124) (.slice ap kp cp) rfl (fun _ _ => rfl) (fun a W hf hC hn => y_sfInt (ρ := a.eval) (.tmp 115) (.tmp 123) (a := ap) (m := np) (c := cp) (n := kp) rfl (hn 8 (by decide)) (hn 16 (by decide)) (by omega) W)
         case c18 =>
          intro kst hkst
          replace hkst : kst ∈ ([0] : List Nat) := hkst
          simp only [List.mem_cons, List.not_mem_nil, or_false] at hkst
          rcases hkst with rfl
          ·refine istep_w ⟨some 125, _, _, _, _, none⟩ rfl (fun a w' hf hC hn => (iwanted_no rfl)) (fun a W hf hC hn K hK => ?_)
           refine wp_appL eltInt (.const (.slice none 0 0)) (.tmp 124) rfl (.slice none 0 0) 0 [] rfl (own_nil _ _ _) _ kp _ (hn 17 (by decide)) (HPT.out W (SR.out.t.trans0 hC.2)) (ones_ints _) (by omega) (by omega) (fun a' n' c' w' hA hn' => ?_)
           obtain ⟨hF1, hF2⟩ := hA.fresh
           refine hK _ _ ⟨hC.1.keep hF1, hC.2.trans0 hF1⟩ ⟨by have := hA.own; rwa [Nat.zero_add, List.nil_append] at this, fun b hb => Nat.le_trans hC.2.size (hF2 b hb)⟩ (fun j _ _ _ _ x h => rl_stb hlist j x _ _ hF1 h)
         case c19 =>
          intro kst hkst
          replace hkst : kst ∈ ([0] : List Nat) := hkst
          simp only [List.mem_cons, List.not_mem_nil, or_false] at hkst
          rcases hkst with rfl
          ·exact iq (d := 126) (.pointer (some ⟨g, 0 + k * 2, none⟩)) rfl (fun _ _ => rfl) (fun a W hf hC hn => y_ixPend (ρ := a.eval) (.tmp 108) (.tmp 109) (b := g) (off := 0) (n := ko) (c := yo) (k := k) rfl (hn 1 (by decide)) (hn 2 (by decide)) (by omega) W)
         case c20 =>
          intro kst hkst
          replace hkst : kst ∈ ([0] : List Nat) := hkst
          simp only [List.mem_cons, List.not_mem_nil, or_false] at hkst
          rcases hkst with rfl
          ·exact iq (d := 127) (.pointer (some ⟨g, 0 + k * 2 + 1, none⟩)) rfl (fun _ _ => rfl) (fun a W hf hC hn => y_faPend1 (ρ := a.eval) (.tmp 126) (b := g) (off := 0 + k * 2) rfl (hn 19 (by decide)) W)
         case c21 => intro kst hkst; exact (List.not_mem_nil (show kst ∈ ([] : List Nat) from hkst)).elim
        ·show ∀ k, k < 1 -> _
         refine all_lt1 (all_lt0) ?e21
         case e21 =>
          show IStep2 _ _ _ _ _ _ (fun W => StB w w1 b1 #[.int .i64 br, .int .i64 ni, .int .i64 ns, .int .i64 tx, .slice xm km ym, .slice xw kw yw, .slice xe ke ye, .slice (some ⟨g, 0, none⟩) ko yo, .slice xn kn yn] W /\ Tch No wr W) (fun W => StB w w1 b1 #[.int .i64 br, .int .i64 ni, .int .i64 ns, .int .i64 tx, .slice xm km ym, .slice xw kw yw, .slice xe ke ye, .slice (some ⟨g, 0, none⟩) ko yo, .slice xn kn yn] W /\ Tch (fun q => (Value.slice (some ⟨g, 0, none⟩) ko yo).ownBlock = some q) wr W /\ RowI (encPr fun q : PendM => q.tid) (okO w w1 (k + 1) W) 76 2 ko w1 (.slice (some ⟨g, 0, none⟩) ko yo) W) _ _ _ _ _ 21
          refine istep_w2 (i := 21) ⟨none, _, _, _, _, none⟩ rfl (fun a w' hf hC hn => (iwanted_no rfl)) (fun a W hf hk hC hn K hK => ?_)
          have hO : OwnN wr 3 1 kp ((ps.take kp).map fun x => .int .i64 x) (a.eval (.tmp 125)) W := hn 18 (by decide)
          obtain ⟨vu, hvu⟩ : ∃ x, a.eval (.tmp 125) = x := ⟨_, rfl⟩
          rw [hvu] at hO
          obtain ⟨a9, c9, e9, _, _⟩ := own_shape hO.1
          have RRW := RR.out.keep hC.2
          obtain ⟨g', m, eg, hok, hg1, _, hcell, hfz⟩ := RRW.elem (fun _ => rfl) hlt
          injection eg with eg
          injection eg with eg _
          subst eg
          have ez : 0 + k * 2 = k * 2 := Nat.zero_add _
          refine w_stSInt (.tmp 127) (.tmp 125) (ad := ⟨g, k * 2 + 1, none⟩) rfl rfl (by have := hn 20 (by decide); rw [ez] at this; exact this) hvu (by rw [e9]; rfl) (hcell 1 (by decide)) (hfz _) (fun z => ?_)
          have tS := Tch.setCell (F := fun q => (Value.slice (some ⟨g, 0, none⟩) ko yo).ownBlock = some q) W ⟨g, k * 2 + 1, none⟩ vu (fun _ => rfl)
          have htyp : ∃ cur, W.heap[g]? = some (.cells cur 76 (0, 0)) := by
           obtain ⟨l, _, q2, _⟩ := RRW
           exact own_typ q2.1 rfl
          have hF : ∀ b, (Value.slice (some ⟨g, 0, none⟩) ko yo).ownBlock = some b -> ∃ cur e, e ≠ 3 /\ W.heap[b]? = some (.cells cur e (0, 0)) := fun b hb => by
           obtain ⟨cur, h⟩ := htyp
           simp [Value.ownBlock] at hb
           subst hb
           exact ⟨cur, _, by decide, h⟩
          refine hK _ _ ⟨hC.1.grow tS (fun j e => by simp [Value.ownBlock] at e; omega), hC.2.no.trans tS (fun _ _ h => h), RRW.set (ok' := okO w w1 (k + 1) (W.setCell ⟨g, k * 2 + 1, none⟩ vu)) (fun _ => rfl) hlt (by decide) (fun p => (⟨p.1.tid, ps.take kp⟩, vu)) (fun p => rfl) (fun x hx => ?_) (fun j x hj hx => ?_)⟩ trivial (by intro j hj h1 h2 h3; exfalso; revert j; decide)
          ·refine ⟨hx.1, HI6.out, fun _ => ⟨?_, fun b hb => Nat.le_trans SR.out.le (hO.2 b hb)⟩, fun e => by omega⟩
           show World.ownsRow _ 0 _ 1 vu (ps.take kp).length _
           rw [HLK.out]
           refine own_tch hO.1 tS (fun b hb e => ?_)
           obtain ⟨cur, e2, hne, hb2⟩ := hF b e
           obtain ⟨c1, g1⟩ := own_typ hO.1 hb
           rw [g1] at hb2
           injection hb2 with hb2
           injection hb2 with _ hb2
           exact hne hb2.symm
          ·have h5 := okO_tch (okO_tch hx hC.2 (fun b e => e.elim)) tS hF
           exact ⟨h5.1, h5.2.1, fun e => h5.2.2.1 (by omega), fun e => h5.2.2.2 (by omega)⟩
        ·intro af wf hf hC hR
         replace hC : (fun W => StB w w1 b1 #[.int .i64 br, .int .i64 ni, .int .i64 ns, .int .i64 tx, .slice xm km ym, .slice xw kw yw, .slice xe ke ye, .slice (some ⟨g, 0, none⟩) ko yo, .slice xn kn yn] W /\ Tch (fun q => (Value.slice (some ⟨g, 0, none⟩) ko yo).ownBlock = some q) wr W /\ RowI (encPr fun q : PendM => q.tid) (okO w w1 (k + 1) W) 76 2 ko w1 (.slice (some ⟨g, 0, none⟩) ko yo) W) wf := hC
         obtain ⟨vs, hl, rfl⟩ := hf
         have hl : vs.length = 21 := hl
         obtain ⟨u0, vs0, hv0, hl⟩ := vs_cons hl
         obtain ⟨u1, vs1, hv1, hl⟩ := vs_cons hl
         obtain ⟨u2, vs2, hv2, hl⟩ := vs_cons hl
         obtain ⟨u3, vs3, hv3, hl⟩ := vs_cons hl
         obtain ⟨u4, vs4, hv4, hl⟩ := vs_cons hl
         obtain ⟨u5, vs5, hv5, hl⟩ := vs_cons hl
         obtain ⟨u6, vs6, hv6, hl⟩ := vs_cons hl
         obtain ⟨u7, vs7, hv7, hl⟩ := vs_cons hl
         obtain ⟨u8, vs8, hv8, hl⟩ := vs_cons hl
         obtain ⟨u9, vs9, hv9, hl⟩ := vs_cons hl
         obtain ⟨u10, vs10, hv10, hl⟩ := vs_cons hl
         obtain ⟨u11, vs11, hv11, hl⟩ := vs_cons hl
         obtain ⟨u12, vs12, hv12, hl⟩ := vs_cons hl
         obtain ⟨u13, vs13, hv13, hl⟩ := vs_cons hl
         obtain ⟨u14, vs14, hv14, hl⟩ := vs_cons hl
         obtain ⟨u15, vs15, hv15, hl⟩ := vs_cons hl
         obtain ⟨u16, vs16, hv16, hl⟩ := vs_cons hl
         obtain ⟨u17, vs17, hv17, hl⟩ := vs_cons hl
         obtain ⟨u18, vs18, hv18, hl⟩ := vs_cons hl
         obtain ⟨u19, vs19, hv19, hl⟩ := vs_cons hl
         obtain ⟨u20, vs20, hv20, hl⟩ := vs_cons hl
         have hvn := vs_nil hl
         have hvs : vs = [u0, u1, u2, u3, u4, u5, u6, u7, u8, u9, u10, u11, u12, u13, u14, u15, u16, u17, u18, u19, u20] := by rw [hv0, hv1, hv2, hv3, hv4, hv5, hv6, hv7, hv8, hv9, hv10, hv11, hv12, hv13, hv14, hv15, hv16, hv17, hv18, hv19, hv20, hvn]
         clear hvn hl hv0 hv1 hv2 hv3 hv4 hv5 hv6 hv7 hv8 hv9 hv10 hv11 hv12 hv13 hv14 hv15 hv16 hv17 hv18 hv19 hv20
         subst hvs
         have hfr2 := hfr.out
         subst hfr2
         simp only [putAll, Act.put, List.setIfInBounds_toArray, List.set_cons_succ, List.set_cons_zero]
         have SF := Lib.hid hC.1
         have TF := Lib.hid (TT.out.trans hC.2.1 (fun _ _ h => h))
         have RF := Lib.hid hC.2.2
         clear hR hlist hsz hC
         go_wp2_with fail
         go_roundg (ko - (k + 1))
         case measure => omega
         case rel => exact ⟨k + 1, by go_num, by omega, by omega, TF, SF, RF⟩
       ·have ek : k = ko := by omega
        rw [ek] at RR ⊢
        clear ek hk hkx hlt
        obtain ⟨wD, hwn⟩ : ∃ x, x = wr := ⟨wr, rfl⟩
        subst hwn
        have SB := SR
        clear SR
        have RMn := Lib.hid (RM.out.tch TT.out (fun b hb e => RowI.apart RO.out RM.out (by decide) b e hb))
        have RWn := Lib.hid (RowI.mono (RW.out.tch TT.out (fun b hb e => RowI.apart RO.out RW.out (by decide) b e hb)) (fun i x _ h => okW_tch h TT.out (fun b hb => by obtain ⟨cur, hc⟩ := RowI.typ RO.out hb; exact ⟨cur, _, by decide, hc⟩)))
        have REn := Lib.hid (RE.out.tch TT.out (fun b hb e => RowI.apart RO.out RE.out (by decide) b e hb))
        have RNn := Lib.hid (RN.out.tch TT.out (fun b hb e => AP.out b e hb))
        clear RM RW RE RO RN
        have RO := RR
        have RM := RMn
        have RW := RWn
        have RE := REn
        have RN := RNn
        clear RR TT RMn RWn REn RNn
        have q8 : wD.cell? ⟨b1, 8, none⟩ = some (.slice xn kn yn) := (blk_cell SB.out.box 8).trans rfl
        have RN0 : Hid (RowI (encPr fun q : PendM => q.tid) (okO w w1 0 wD) 76 2 kn w1 (.slice xn kn yn) wD) := RN.out.mono (fun i x _ h => ⟨h.2.1, h.2.2, fun e => by omega, fun _ => h.1⟩)
        go_wp2_with fail
        clear q8
        go_loopg [6, 132] kn (fun kx sv si wr => ∃ k : Nat, si = .int .i64 k /\ k <= kn /\ kn - k <= kx /\ Hid (Tch (fun q => (Value.slice xn kn yn).ownBlock = some q) wD wr) /\ Hid (StB w w1 b1 #[.int .i64 br, .int .i64 ni, .int .i64 ns, .int .i64 tx, .slice xm km ym, .slice xw kw yw, .slice xe ke ye, .slice xo ko yo, .slice xn kn yn] wr) /\ Hid (RowI (encPr fun q : PendM => q.tid) (okO w w1 k wr) 76 2 kn w1 (.slice xn kn yn) wr))
        case atStart => exact ⟨0, rfl, Nat.zero_le _, by omega, Tch.refl _ _, SB, RN0⟩
        case round =>
         clear RN0
         obtain ⟨k, rfl, hk, hkx, TT, SR, RR⟩ := hrel
         by_cases hlt : k < kn
         ·obtain ⟨g, ⟨⟨t0, ps⟩, vp⟩, rfl, hok, hg1, hg2, hcell, _⟩ := RR.out.elem (fun _ => rfl) hlt
          have GG : Hid (w1.heap.size <= g) := hg1
          obtain ⟨ho1, ho3, _, ho2⟩ := hok
          have hps := ho2 (Nat.le_refl _)
          simp only at hps ho1 ho3
          obtain ⟨ap, cp, rfl, hcp1, hcp2⟩ := hps.shape
          have E1 : Hid (wr.cell? ⟨g, 0 + k * 2 + 1, none⟩ = some (.slice ap ps.length cp)) := by rw [Hid, Nat.zero_add]; exact (hcell 1 (by decide)).trans rfl
          obtain ⟨np, hnp⟩ : ∃ z, ps.length = z := ⟨_, rfl⟩
          have HNP := Lib.hid hnp
          rw [hnp] at E1 hcp1
          obtain ⟨kp, hkp⟩ : ∃ z, min np 9 = z := ⟨_, rfl⟩
          have gp : min (np : Int) 9 = (kp : Int) := by omega
          have gp0 : (0 : Int) <= (kp : Int) := by omega
          have gp1 : (kp : Int) <= (cp : Int) := by omega
          have gp2 : kp <= np /\ kp <= 9 := by omega
          have HPT : Hid (∀ W, Tch No w W -> CellsL W (.slice ap kp cp) kp 1 ((ps.take kp).map fun x => .int .i64 x)) := fun W t => by
           have h9 := CellsL.keep hps t
           rw [hnp] at h9
           have h8 := h9.take gp2.1
           rw [Nat.mul_one, <- List.map_take] at h8
           exact h8
          have HLK : Hid ((ps.take kp).length = kp) := by rw [Hid, List.length_take]; omega
          have HI6 : Hid (∀ x ∈ ps.take kp, I64 x) := fun x hx => ho3 x (List.mem_of_mem_take hx)
          have HT0 := Lib.hid ho1
          clear hps hcell hg1 hg2 ho1 ho2 ho3 hkp hnp
          have q8 : wr.cell? ⟨b1, 8, none⟩ = some (.slice (some ⟨g, 0, none⟩) kn yn) := (blk_cell SR.out.box 8).trans rfl
          have mixed : Tryz.prog.follows .mixedOrders = true := by kernel_rfl
          go_upto_region 24 with fail
          refine frame_var 158 rfl (fun fr hfr hsz => ?_)
          have h1 : fr.eval (.tmp 1) = .pointer (some ⟨b1, 0, none⟩) := by rw [hfr.out]; rfl
          have hv : fr.eval (.tmp 6) = .int .i64 ((k : Nat) : Int) := by rw [hfr.out]; rfl
          clear q8
          have hlist : ∀ f ∈ ([(fun x _ => x = .pointer (some ⟨b1, 8, none⟩)), (fun x _ => x = .slice (some ⟨g, 0, none⟩) kn yn), (fun x _ => x = .int .i64 ((k : Nat) : Int)), (fun x _ => x = .pointer (some ⟨b1, 8, none⟩)), (fun x _ => x = .slice (some ⟨g, 0, none⟩) kn yn), (fun x _ => x = .int .i64 ((k : Nat) : Int)), (fun x _ => x = .pointer (some ⟨g, 0 + k * 2, none⟩)), (fun x _ => x = .pointer (some ⟨g, 0 + k * 2 + 1, none⟩)), (fun x _ => x = .slice ap np cp), (fun x _ => x = .pointer (some ⟨b1, 8, none⟩)), (fun x _ => x = .slice (some ⟨g, 0, none⟩) kn yn), (fun x _ => x = .int .i64 ((k : Nat) : Int)), (fun x _ => x = .pointer (some ⟨g, 0 + k * 2, none⟩)), (fun x _ => x = .pointer (some ⟨g, 0 + k * 2 + 1, none⟩)), (fun x _ => x = .slice ap np cp), (fun x _ => x = .int .i64 ((np : Nat) : Int)), (fun x _ => x = .int .i64 ((kp : Nat) : Int)), (fun x _ => x = .slice ap kp cp), (OwnN wr 3 1 kp ((ps.take kp).map fun x => .int .i64 x)), (fun x _ => x = .pointer (some ⟨g, 0 + k * 2, none⟩)), (fun x _ => x = .pointer (some ⟨g, 0 + k * 2 + 1, none⟩)), (fun x _ => True)] : List (Value -> World -> Prop)), Stb f :=
           all_mem1 ((pur_eq _).stb) (all_mem1 ((pur_eq _).stb) (all_mem1 ((pur_eq _).stb) (all_mem1 ((pur_eq _).stb) (all_mem1 ((pur_eq _).stb) (all_mem1 ((pur_eq _).stb) (all_mem1 ((pur_eq _).stb) (all_mem1 ((pur_eq _).stb) (all_mem1 ((pur_eq _).stb) (all_mem1 ((pur_eq _).stb) (all_mem1 ((pur_eq _).stb) (all_mem1 ((pur_eq _).stb) (all_mem1 ((pur_eq _).stb) (all_mem1 ((pur_eq _).stb) (all_mem1 ((pur_eq _).stb) (all_mem1 ((pur_eq _).stb) (all_mem1 ((pur_eq _).stb) (all_mem1 ((pur_eq _).stb) (all_mem1 (stb_own) (all_mem1 ((pur_eq _).stb) (all_mem1 ((pur_eq _).stb) (all_mem1 (pur_any.stb) (all_mem0))))))))))))))))))))))
          refine wp_region_inv4 [21] (fun i => ([[0], [0], [0], [0], [0], [0], [0], [0], [0], [0], [0], [0], [0], [0], [0], [0], [0], [0], [0], [0], [0], []][i]?).getD []) (fun kst : Nat => match kst with | 0 => (fun W => StB w w1 b1 #[.int .i64 br, .int .i64 ni, .int .i64 ns, .int .i64 tx, .slice xm km ym, .slice xw kw yw, .slice xe ke ye, .slice xo ko yo, .slice (some ⟨g, 0, none⟩) kn yn] W /\ Tch No wr W) | _ => (fun W => StB w w1 b1 #[.int .i64 br, .int .i64 ni, .int .i64 ns, .int .i64 tx, .slice xm km ym, .slice xw kw yw, .slice xe ke ye, .slice xo ko yo, .slice (some ⟨g, 0, none⟩) kn yn] W /\ Tch (fun q => (Value.slice (some ⟨g, 0, none⟩) kn yn).ownBlock = some q) wr W /\ RowI (encPr fun q : PendM => q.tid) (okO w w1 (k + 1) W) 76 2 kn w1 (.slice (some ⟨g, 0, none⟩) kn yn) W)) (RL [(fun x _ => x = .pointer (some ⟨b1, 8, none⟩)), (fun x _ => x = .slice (some ⟨g, 0, none⟩) kn yn), (fun x _ => x = .int .i64 ((k : Nat) : Int)), (fun x _ => x = .pointer (some ⟨b1, 8, none⟩)), (fun x _ => x = .slice (some ⟨g, 0, none⟩) kn yn), (fun x _ => x = .int .i64 ((k : Nat) : Int)), (fun x _ => x = .pointer (some ⟨g, 0 + k * 2, none⟩)), (fun x _ => x = .pointer (some ⟨g, 0 + k * 2 + 1, none⟩)), (fun x _ => x = .slice ap np cp), (fun x _ => x = .pointer (some ⟨b1, 8, none⟩)), (fun x _ => x = .slice (some ⟨g, 0, none⟩) kn yn), (fun x _ => x = .int .i64 ((k : Nat) : Int)), (fun x _ => x = .pointer (some ⟨g, 0 + k * 2, none⟩)), (fun x _ => x = .pointer (some ⟨g, 0 + k * 2 + 1, none⟩)), (fun x _ => x = .slice ap np cp), (fun x _ => x = .int .i64 ((np : Nat) : Int)), (fun x _ => x = .int .i64 ((kp : Nat) : Int)), (fun x _ => x = .slice ap kp cp), (OwnN wr 3 1 kp ((ps.take kp).map fun x => .int .i64 x)), (fun x _ => x = .pointer (some ⟨g, 0 + k * 2, none⟩)), (fun x _ => x = .pointer (some ⟨g, 0 + k * 2 + 1, none⟩)), (fun x _ => True)]) [18] [135, 136, 137, 138, 139, 140, 141, 142, 143, 144, 145, 146, 147, 148, 149, 150, 151, 152, 153, 154, 155] [(some 135, [1], []), (some 136, [135], [0]), (some 137, [6], []), (some 138, [1], []), (some 139, [138], [3]), (some 140, [6], []), (some 141, [139, 140], [4, 5]), (some 142, [141], [6]), (some 143, [142], [7]), (some 144, [1], []), (some 145, [144], [9]), (some 146, [6], []), (some 147, [145, 146], [10, 11]), (some 148, [147], [12]), (some 149, [148], [13]), (some 150, [149], [14]), (some 151, [150], [15]), (some 152, [143, 151], [8, 16]), (some 153, [152], [17]), (some 154, [136, 137], [1, 2, 0, 1, 2, 3, 4, 5, 6, 7, 8, 9, 10, 11, 12, 13, 14, 15, 16, 17, 18]), (some 155, [154], [19, 0, 1, 2, 3, 4, 5, 6, 7, 8, 9, 10, 11, 12, 13, 14, 15, 16, 17, 18]), (none, [155, 153], [20, 18, 18, 0, 1, 2, 3, 4, 5, 6, 7, 8, 9, 10, 11, 12, 13, 14, 15, 16, 17, 18])] (fun i => ([[], [0], [], [], [3], [], [3, 4, 5], [3, 4, 5, 6], [3, 4, 5, 6, 7], [], [9], [], [9, 10, 11], [9, 10, 11, 12], [9, 10, 11, 12, 13], [9, 10, 11, 12, 13, 14], [9, 10, 11, 12, 13, 14, 15], [3, 4, 5, 6, 7, 8, 9, 10, 11, 12, 13, 14, 15, 16], [3, 4, 5, 6, 7, 8, 9, 10, 11, 12, 13, 14, 15, 16, 17], [0, 1, 2, 3, 4, 5, 6, 7, 8, 9, 10, 11, 12, 13, 14, 15, 16, 17, 18], [0, 1, 2, 3, 4, 5, 6, 7, 8, 9, 10, 11, 12, 13, 14, 15, 16, 17, 18, 19], [0, 1, 2, 3, 4, 5, 6, 7, 8, 9, 10, 11, 12, 13, 14, 15, 16, 17, 18, 19, 20]][i]?).getD []) (fun i => ([[], [0], [], [], [3], [], [4, 5], [6], [7], [], [9], [], [10, 11], [12], [13], [14], [15], [8, 16], [17], [1, 2], [19], [18, 20]][i]?).getD []) (fun i => ([[], [], [], [], [], [], [], [], [], [], [], [], [], [], [], [], [], [], [], [], [], [18]][i]?).getD []) (fun i => ([[], [], [], [18], [18], [18], [18], [18], [18], [18], [18], [18], [18], [18], [18], [18], [18], [18], [], [], [], []][i]?).getD []) (by kernel_rfl) (by kernel_rfl) (by kernel_rfl) (by rw [hsz]; kernel_rfl) (by kernel_rfl) (by kernel_rfl) ?_ (rl_pur ?_) ?_ ?_ ?_
          ·exact ⟨SR.out.keep (Tch.drew _), Tch.drew _⟩
          ·show ∀ j, j < 22 -> _ ∨ _
           refine all_lt1 (all_lt1 (all_lt1 (all_lt1 (all_lt1 (all_lt1 (all_lt1 (all_lt1 (all_lt1 (all_lt1 (all_lt1 (all_lt1 (all_lt1 (all_lt1 (all_lt1 (all_lt1 (all_lt1 (all_lt1 (all_lt1 (all_lt1 (all_lt1 (all_lt1 (all_lt0) (Or.inr (pur_eq _))) (Or.inr (pur_eq _))) (Or.inr (pur_eq _))) (Or.inr (pur_eq _))) (Or.inr (pur_eq _))) (Or.inr (pur_eq _))) (Or.inr (pur_eq _))) (Or.inr (pur_eq _))) (Or.inr (pur_eq _))) (Or.inr (pur_eq _))) (Or.inr (pur_eq _))) (Or.inr (pur_eq _))) (Or.inr (pur_eq _))) (Or.inr (pur_eq _))) (Or.inr (pur_eq _))) (Or.inr (pur_eq _))) (Or.inr (pur_eq _))) (Or.inr (pur_eq _))) (Or.inl (by decide))) (Or.inr (pur_eq _))) (Or.inr (pur_eq _))) (Or.inr pur_any)
          ·show ∀ i, i < 22 -> _
           refine all_lt1 (all_lt1 (all_lt1 (all_lt1 (all_lt1 (all_lt1 (all_lt1 (all_lt1 (all_lt1 (all_lt1 (all_lt1 (all_lt1 (all_lt1 (all_lt1 (all_lt1 (all_lt1 (all_lt1 (all_lt1 (all_lt1 (all_lt1 (all_lt1 (all_lt1 (all_lt0) ?c0) ?c1) ?c2) ?c3) ?c4) ?c5) ?c6) ?c7) ?c8) ?c9) ?c10) ?c11) ?c12) ?c13) ?c14) ?c15) ?c16) ?c17) ?c18) ?c19) ?c20) ?c21
           case c0 =>
            intro kst hkst
            replace hkst : kst ∈ ([0] : List Nat) := hkst
            simp only [List.mem_cons, List.not_mem_nil, or_false] at hkst
            rcases hkst with rfl
            ·exact iq (d := 135) (.pointer (some ⟨b1, 8, none⟩)) rfl (fun _ _ => rfl) (fun a W hf hC hn => y_faState8 (ρ := a.eval) (.tmp 1) (b := b1) (off := 0) rfl (hf.ev (by kernel_rfl) h1) W)
           case c1 =>
            intro kst hkst
            replace hkst : kst ∈ ([0] : List Nat) := hkst
            simp only [List.mem_cons, List.not_mem_nil, or_false] at hkst
            rcases hkst with rfl
            ·exact iq (d := 136) (.slice (some ⟨g, 0, none⟩) kn yn) rfl (fun _ _ => rfl) (fun a W hf hC hn => y_ldSPend (ρ := a.eval) (.tmp 135) (ad := ⟨b1, 8, none⟩) rfl (hn 0 (by decide)) W (((blk_cell (hC.1).box 8).trans rfl)))
           case c2 =>
            intro kst hkst
            replace hkst : kst ∈ ([0] : List Nat) := hkst
            simp only [List.mem_cons, List.not_mem_nil, or_false] at hkst
            rcases hkst with rfl
            ·exact iq (d := 137) (.int .i64 ((k : Nat) : Int)) rfl (fun _ _ => rfl) (fun a W hf hC hn => y_move (ρ := a.eval) (.tmp 6) rfl (hf.ev (by kernel_rfl) hv) W)
           case c3 =>
            intro kst hkst
            replace hkst : kst ∈ ([0] : List Nat) := hkst
            simp only [List.mem_cons, List.not_mem_nil, or_false] at hkst
            rcases hkst with rfl
            ·exact iq (d := 138) (.pointer (some ⟨b1, 8, none⟩)) rfl (fun _ _ => rfl) (fun a W hf hC hn => y_faState8 (ρ := a.eval) (.tmp 1) (b := b1) (off := 0) rfl (hf.ev (by kernel_rfl) h1) W)
           case c4 =>
            intro kst hkst
            replace hkst : kst ∈ ([0] : List Nat) := hkst
            simp only [List.mem_cons, List.not_mem_nil, or_false] at hkst
            rcases hkst with rfl
            ·exact iq (d := 139) (.slice (some ⟨g, 0, none⟩) kn yn) rfl (fun _ _ => rfl) (fun a W hf hC hn => y_ldSPend (ρ := a.eval) (.tmp 138) (ad := ⟨b1, 8, none⟩) rfl (hn 3 (by decide)) W (((blk_cell (hC.1).box 8).trans rfl)))
           case c5 =>
            intro kst hkst
            replace hkst : kst ∈ ([0] : List Nat) := hkst
            simp only [List.mem_cons, List.not_mem_nil, or_false] at hkst
            rcases hkst with rfl
            ·exact iq (d := 140) (.int .i64 ((k : Nat) : Int)) rfl (fun _ _ => rfl) (fun a W hf hC hn => y_move (ρ := a.eval) (.tmp 6) rfl (hf.ev (by kernel_rfl) hv) W)
           case c6 =>
            intro kst hkst
            replace hkst : kst ∈ ([0] : List Nat) := hkst
            simp only [List.mem_cons, List.not_mem_nil, or_false] at hkst
            rcases hkst with rfl
            ·exact iq (d := 141) (.pointer (some ⟨g, 0 + k * 2, none⟩)) rfl (fun _ _ => rfl) (fun a W hf hC hn => y_ixPend (ρ := a.eval) (.tmp 139) (.tmp 140) (b := g) (off := 0) (n := kn) (c := yn) (k := k) rfl (hn 4 (by decide)) (hn 5 (by decide)) (by omega) W)
           case c7 =>
            intro kst hkst
            replace hkst : kst ∈ ([0] : List Nat) := hkst
            simp only [List.mem_cons, List.not_mem_nil, or_false] at hkst
            rcases hkst with rfl
            ·exact iq (d := 142) (.pointer (some ⟨g, 0 + k * 2 + 1, none⟩)) rfl (fun _ _ => rfl) (fun a W hf hC hn => y_faPend1 (ρ := a.eval) (.tmp 141) (b := g) (off := 0 + k * 2) rfl (hn 6 (by decide)) W)
           case c8 =>
            intro kst hkst
            replace hkst : kst ∈ ([0] : List Nat) := hkst
            simp only [List.mem_cons, List.not_mem_nil, or_false] at hkst
            rcases hkst with rfl
            ·exact iq (d := 143) (.slice ap np cp) rfl (fun _ _ => rfl) (fun a W hf hC hn => y_ldSInt (ρ := a.eval) (.tmp 142) (ad := ⟨g, 0 + k * 2 + 1, none⟩) rfl (hn 7 (by decide)) W (hC.2.cell E1.out (fun h => h)))
           case c9 =>
            intro kst hkst
            replace hkst : kst ∈ ([0] : List Nat) := hkst
            simp only [List.mem_cons, List.not_mem_nil, or_false] at hkst
            rcases hkst with rfl
            ·exact iq (d := 144) (.pointer (some ⟨b1, 8, none⟩)) rfl (fun _ _ => rfl) (fun a W hf hC hn => y_faState8 (ρ := a.eval) (.tmp 1) (b := b1) (off := 0) rfl (hf.ev (by kernel_rfl) h1) W)
           case c10 =>
            intro kst hkst
            replace hkst : kst ∈ ([0] : List Nat) := hkst
            simp only [List.mem_cons, List.not_mem_nil, or_false] at hkst
            rcases hkst with rfl
            ·exact iq (d := 145) (.slice (some ⟨g, 0, none⟩) kn yn) rfl (fun _ _ => rfl) (fun a W hf hC hn => y_ldSPend (ρ := a.eval) (.tmp 144) (ad := ⟨b1, 8, none⟩) rfl (hn 9 (by decide)) W (((blk_cell (hC.1).box 8).trans rfl)))
           case c11 =>
            intro kst hkst
            replace hkst : kst ∈ ([0] : List Nat) := hkst
            simp only [List.mem_cons, List.not_mem_nil, or_false] at hkst
            rcases hkst with rfl
            ·exact iq (d := 146) (.int .i64 ((k : Nat) : Int)) rfl (fun _ _ => rfl) (fun a W hf hC hn => y_move (ρ := a.eval) (.tmp 6) rfl (hf.ev (by kernel_rfl) hv) W)
           case c12 =>
            intro kst hkst
            replace hkst : kst ∈ ([0] : List Nat) := hkst
            simp only [List.mem_cons, List.not_mem_nil, or_false] at hkst
            rcases hkst with rfl
            ·exact iq (d := 147) (.pointer (some ⟨g, 0 + k * 2, none⟩)) rfl (fun _ _ => rfl) (fun a W hf hC hn => y_ixPend (ρ := a.eval) (.tmp 145) (.tmp 146) (b := g) (off := 0) (n := kn) (c := yn) (k := k) rfl (hn 10 (by decide)) (hn 11 (by decide)) (by omega) W)
           case c13 =>
            intro kst hkst
            replace hkst : kst ∈ ([0] : List Nat) := hkst
            simp only [List.mem_cons, List.not_mem_nil, or_false] at hkst
            rcases hkst with rfl
            ·exact iq (d := 148) (.pointer (some ⟨g, 0 + k * 2 + 1, none⟩)) rfl (fun _ _ => rfl) (fun a W hf hC hn => y_faPend1 (ρ := a.eval) (.tmp 147) (b := g) (off := 0 + k * 2) rfl (hn 12 (by decide)) W)
           case c14 =>
            intro kst hkst
            replace hkst : kst ∈ ([0] : List Nat) := hkst
            simp only [List.mem_cons, List.not_mem_nil, or_false] at hkst
            rcases hkst with rfl
            ·exact iq (d := 149) (.slice ap np cp) rfl (fun _ _ => rfl) (fun a W hf hC hn => y_ldSInt (ρ := a.eval) (.tmp 148) (ad := ⟨g, 0 + k * 2 + 1, none⟩) rfl (hn 13 (by decide)) W (hC.2.cell E1.out (fun h => h)))
           case c15 =>
            intro kst hkst
            replace hkst : kst ∈ ([0] : List Nat) := hkst
            simp only [List.mem_cons, List.not_mem_nil, or_false] at hkst
            rcases hkst with rfl
            ·exact iq (d := 150) (.int .i64 ((np : Nat) : Int)) rfl (fun _ _ => rfl) (fun a W hf hC hn => y_lenInt (ρ := a.eval) (.tmp 149) (a := ap) (n := np) (c := cp) rfl (hn 14 (by decide)) W)
           case c16 =>
            intro kst hkst
            replace hkst : kst ∈ ([0] : List Nat) := hkst
            simp only [List.mem_cons, List.not_mem_nil, or_false] at hkst
            rcases hkst with rfl
            ·refine istep_w ⟨some 151, _, _, _, _, none⟩ rfl (fun a w' hf hC hn => (iwanted_no rfl)) (fun a W hf hC hn K hK => ?_)
             refine wp_runs (y_min (ρ := a.eval) (.tmp 150) (.const (.int .i64 9)) (a := ((np : Nat) : Int)) (b := 9) rfl (hn 15 (by decide)) rfl gp W) ?_
             exact hK _ _ hC rfl (fun j _ _ _ _ x h => h)
           case c17 =>
            intro kst hkst
            replace hkst : kst ∈ ([0] : List Nat) := hkst
            simp only [List.mem_cons, List.not_mem_nil, or_false] at hkst
            rcases hkst with rfl
            ·exact iq (d := 152) (.slice ap kp cp) rfl (fun _ _ => rfl) (fun a W hf hC hn => y_sfInt (ρ := a.eval) (.tmp 143) (.tmp 151) (a := ap) (m := np) (c := cp) (n := kp) rfl (hn 8 (by decide)) (hn 16 (by decide)) (by omega) W)
           case c18 =>
            intro kst hkst
            replace hkst : kst ∈ ([0] : List Nat) := hkst
            simp only [List.mem_cons, List.not_mem_nil, or_false] at hkst
            rcases hkst with rfl
            ·refine istep_w ⟨some 153, _, _, _, _, none⟩ rfl (fun a w' hf hC hn => (iwanted_no rfl)) (fun a W hf hC hn K hK => ?_)
             refine wp_appL eltInt (.const (.slice none 0 0)) (.tmp 152) rfl (.slice none 0 0) 0 [] rfl (own_nil _ _ _) _ kp _ (hn 17 (by decide)) (HPT.out W (SR.out.t.trans0 hC.2)) (ones_ints _) (by omega) (by omega) (fun a' n' c' w' hA hn' => ?_)
             obtain ⟨hF1, hF2⟩ := hA.fresh
             refine hK _ _ ⟨hC.1.keep hF1, hC.2.trans0 hF1⟩ ⟨by have := hA.own; rwa [Nat.zero_add, List.nil_append] at this, fun b hb => Nat.le_trans hC.2.size (hF2 b hb)⟩ (fun j _ _ _ _ x h => rl_stb hlist j x _ _ hF1 h)
           case c19 =>
            intro kst hkst
            replace hkst : kst ∈ ([0] : List Nat) := hkst
            simp only [List.mem_cons, List.not_mem_nil, or_false] at hkst
            rcases hkst with rfl
            ·exact iq (d := 154) (.pointer (some ⟨g, 0 + k * 2, none⟩)) rfl (fun _ _ => rfl) (fun a W hf hC hn => y_ixPend (ρ := a.eval) (.tmp 136) (.tmp 137) (b := g) (off := 0) (n := kn) (c := yn) (k := k) rfl (hn 1 (by decide)) (hn 2 (by decide)) (by omega) W)
           case c20 =>
            intro kst hkst
            replace hkst : kst ∈ ([0] : List Nat) := hkst
            simp only [List.mem_cons, List.not_mem_nil, or_false] at hkst
            rcases hkst with rfl
            ·exact iq (d := 155) (.pointer (some ⟨g, 0 + k * 2 + 1, none⟩)) rfl (fun _ _ => rfl) (fun a W hf hC hn => y_faPend1 (ρ := a.eval) (.tmp 154) (b := g) (off := 0 + k * 2) rfl (hn 19 (by decide)) W)
           case c21 => intro kst hkst; exact (List.not_mem_nil (show kst ∈ ([] : List Nat) from hkst)).elim
          ·show ∀ k, k < 1 -> _
           refine all_lt1 (all_lt0) ?e21
           case e21 =>
            show IStep2 _ _ _ _ _ _ (fun W => StB w w1 b1 #[.int .i64 br, .int .i64 ni, .int .i64 ns, .int .i64 tx, .slice xm km ym, .slice xw kw yw, .slice xe ke ye, .slice xo ko yo, .slice (some ⟨g, 0, none⟩) kn yn] W /\ Tch No wr W) (fun W => StB w w1 b1 #[.int .i64 br, .int .i64 ni, .int .i64 ns, .int .i64 tx, .slice xm km ym, .slice xw kw yw, .slice xe ke ye, .slice xo ko yo, .slice (some ⟨g, 0, none⟩) kn yn] W /\ Tch (fun q => (Value.slice (some ⟨g, 0, none⟩) kn yn).ownBlock = some q) wr W /\ RowI (encPr fun q : PendM => q.tid) (okO w w1 (k + 1) W) 76 2 kn w1 (.slice (some ⟨g, 0, none⟩) kn yn) W) _ _ _ _ _ 21
            refine istep_w2 (i := 21) ⟨none, _, _, _, _, none⟩ rfl (fun a w' hf hC hn => (iwanted_no rfl)) (fun a W hf hk hC hn K hK => ?_)
            have hO : OwnN wr 3 1 kp ((ps.take kp).map fun x => .int .i64 x) (a.eval (.tmp 153)) W := hn 18 (by decide)
            obtain ⟨vu, hvu⟩ : ∃ x, a.eval (.tmp 153) = x := ⟨_, rfl⟩
            rw [hvu] at hO
            obtain ⟨a9, c9, e9, _, _⟩ := own_shape hO.1
            have RRW := RR.out.keep hC.2
            obtain ⟨g', m, eg, hok, hg1, _, hcell, hfz⟩ := RRW.elem (fun _ => rfl) hlt
            injection eg with eg
            injection eg with eg _
            subst eg
            have ez : 0 + k * 2 = k * 2 := Nat.zero_add _
            refine w_stSInt (.tmp 155) (.tmp 153) (ad := ⟨g, k * 2 + 1, none⟩) rfl rfl (by have := hn 20 (by decide); rw [ez] at this; exact this) hvu (by rw [e9]; rfl) (hcell 1 (by decide)) (hfz _) (fun z => ?_)
            have tS := Tch.setCell (F := fun q => (Value.slice (some ⟨g, 0, none⟩) kn yn).ownBlock = some q) W ⟨g, k * 2 + 1, none⟩ vu (fun _ => rfl)
            have htyp : ∃ cur, W.heap[g]? = some (.cells cur 76 (0, 0)) := by
             obtain ⟨l, _, q2, _⟩ := RRW
             exact own_typ q2.1 rfl
            have hF : ∀ b, (Value.slice (some ⟨g, 0, none⟩) kn yn).ownBlock = some b -> ∃ cur e, e ≠ 3 /\ W.heap[b]? = some (.cells cur e (0, 0)) := fun b hb => by
             obtain ⟨cur, h⟩ := htyp
             simp [Value.ownBlock] at hb
             subst hb
             exact ⟨cur, _, by decide, h⟩
            refine hK _ _ ⟨hC.1.grow tS (fun j e => by simp [Value.ownBlock] at e; omega), hC.2.no.trans tS (fun _ _ h => h), RRW.set (ok' := okO w w1 (k + 1) (W.setCell ⟨g, k * 2 + 1, none⟩ vu)) (fun _ => rfl) hlt (by decide) (fun p => (⟨p.1.tid, ps.take kp⟩, vu)) (fun p => rfl) (fun x hx => ?_) (fun j x hj hx => ?_)⟩ trivial (by intro j hj h1 h2 h3; exfalso; revert j; decide)
            ·refine ⟨hx.1, HI6.out, fun _ => ⟨?_, fun b hb => Nat.le_trans SR.out.le (hO.2 b hb)⟩, fun e => by omega⟩
             show World.ownsRow _ 0 _ 1 vu (ps.take kp).length _
             rw [HLK.out]
             refine own_tch hO.1 tS (fun b hb e => ?_)
             obtain ⟨cur, e2, hne, hb2⟩ := hF b e
             obtain ⟨c1, g1⟩ := own_typ hO.1 hb
             rw [g1] at hb2
             injection hb2 with hb2
             injection hb2 with _ hb2
             exact hne hb2.symm
            ·have h5 := okO_tch (okO_tch hx hC.2 (fun b e => e.elim)) tS hF
             exact ⟨h5.1, h5.2.1, fun e => h5.2.2.1 (by omega), fun e => h5.2.2.2 (by omega)⟩
          ·intro af wf hf hC hR
           replace hC : (fun W => StB w w1 b1 #[.int .i64 br, .int .i64 ni, .int .i64 ns, .int .i64 tx, .slice xm km ym, .slice xw kw yw, .slice xe ke ye, .slice xo ko yo, .slice (some ⟨g, 0, none⟩) kn yn] W /\ Tch (fun q => (Value.slice (some ⟨g, 0, none⟩) kn yn).ownBlock = some q) wr W /\ RowI (encPr fun q : PendM => q.tid) (okO w w1 (k + 1) W) 76 2 kn w1 (.slice (some ⟨g, 0, none⟩) kn yn) W) wf := hC
           obtain ⟨vs, hl, rfl⟩ := hf
           have hl : vs.length = 21 := hl
           obtain ⟨u0, vs0, hv0, hl⟩ := vs_cons hl
           obtain ⟨u1, vs1, hv1, hl⟩ := vs_cons hl
           obtain ⟨u2, vs2, hv2, hl⟩ := vs_cons hl
           obtain ⟨u3, vs3, hv3, hl⟩ := vs_cons hl
           obtain ⟨u4, vs4, hv4, hl⟩ := vs_cons hl
           obtain ⟨u5, vs5, hv5, hl⟩ := vs_cons hl
           obtain ⟨u6, vs6, hv6, hl⟩ := vs_cons hl
           obtain ⟨u7, vs7, hv7, hl⟩ := vs_cons hl
           obtain ⟨u8, vs8, hv8, hl⟩ := vs_cons hl
           obtain ⟨u9, vs9, hv9, hl⟩ := vs_cons hl
           obtain ⟨u10, vs10, hv10, hl⟩ := vs_cons hl
           obtain ⟨u11, vs11, hv11, hl⟩ := vs_cons hl
           obtain ⟨u12, vs12, hv12, hl⟩ := vs_cons hl
           obtain ⟨u13, vs13, hv13, hl⟩ := vs_cons hl
           obtain ⟨u14, vs14, hv14, hl⟩ := vs_cons hl
           obtain ⟨u15, vs15, hv15, hl⟩ := vs_cons hl
           obtain ⟨u16, vs16, hv16, hl⟩ := vs_cons hl
           obtain ⟨u17, vs17, hv17, hl⟩ := vs_cons hl
           obtain ⟨u18, vs18, hv18, hl⟩ := vs_cons hl
           obtain ⟨u19, vs19, hv19, hl⟩ := vs_cons hl
           obtain ⟨u20, vs20, hv20, hl⟩ := vs_cons hl
           have hvn := vs_nil hl
           have hvs : vs = [u0, u1, u2, u3, u4, u5, u6, u7, u8, u9, u10, u11, u12, u13, u14, u15, u16, u17, u18, u19, u20] := by rw [hv0, hv1, hv2, hv3, hv4, hv5, hv6, hv7, hv8, hv9, hv10, hv11, hv12, hv13, hv14, hv15, hv16, hv17, hv18, hv19, hv20, hvn]
           clear hvn hl hv0 hv1 hv2 hv3 hv4 hv5 hv6 hv7 hv8 hv9 hv10 hv11 hv12 hv13 hv14 hv15 hv16 hv17 hv18 hv19 hv20
           subst hvs
           have hfr2 := hfr.out
           subst hfr2
           simp only [putAll, Act.put, List.setIfInBounds_toArray, List.set_cons_succ, List.set_cons_zero]
           have SF := Lib.hid hC.1
           have TF := Lib.hid (TT.out.trans hC.2.1 (fun _ _ h => h))
           have RF := Lib.hid hC.2.2
           clear hR hlist hsz hC
           go_wp2_with fail
           go_roundg (kn - (k + 1))
           case measure => omega
           case rel => exact ⟨k + 1, by go_num, by omega, by omega, TF, SF, RF⟩
         ·have ek : k = kn := by omega
          rw [ek] at RR ⊢
          clear ek hk hkx hlt
          obtain ⟨wE, hwn⟩ : ∃ x, x = wr := ⟨wr, rfl⟩
          subst hwn
          have SB := SR
          clear SR
          have RMn := Lib.hid (RM.out.tch TT.out (fun b hb e => RowI.apart RN.out RM.out (by decide) b e hb))
          have RWn := Lib.hid (RowI.mono (RW.out.tch TT.out (fun b hb e => RowI.apart RN.out RW.out (by decide) b e hb)) (fun i x _ h => okW_tch h TT.out (fun b hb => by obtain ⟨cur, hc⟩ := RowI.typ RN.out hb; exact ⟨cur, _, by decide, hc⟩)))
          have REn := Lib.hid (RE.out.tch TT.out (fun b hb e => RowI.apart RN.out RE.out (by decide) b e hb))
          have ROn := Lib.hid (RowI.mono (RO.out.tch TT.out (fun b hb e => AP.out b hb e)) (fun i x _ h => okO_tch h TT.out (fun b hb => by obtain ⟨cur, hc⟩ := RowI.typ RN.out hb; exact ⟨cur, _, by decide, hc⟩)))
          clear RM RW RE RO RN
          have RN := RR
          have RM := RMn
          have RW := RWn
          have RE := REn
          have RO := ROn
          clear RR TT RMn RWn REn ROn
          have kb := fun j => blk_cell SB.out.box j
          have kr := fun j => blk_cell SB.out.res j
          have fr9 := fun j => blk_free SB.out.res j
          have q0 : wE.cell? ⟨b1, 0, none⟩ = some (.int .i64 br) := by rw [kb]; rfl
          have q1 : wE.cell? ⟨b1, 1, none⟩ = some (.int .i64 ni) := by rw [kb]; rfl
          have q2 : wE.cell? ⟨b1, 2, none⟩ = some (.int .i64 ns) := by rw [kb]; rfl
          have q3 : wE.cell? ⟨b1, 3, none⟩ = some (.int .i64 tx) := by rw [kb]; rfl
          have q4 : wE.cell? ⟨b1, 4, none⟩ = some (.slice xm km ym) := by rw [kb]; rfl
          have q5 : wE.cell? ⟨b1, 5, none⟩ = some (.slice xw kw yw) := by rw [kb]; rfl
          have q6 : wE.cell? ⟨b1, 6, none⟩ = some (.slice xe ke ye) := by rw [kb]; rfl
          have q7 : wE.cell? ⟨b1, 7, none⟩ = some (.slice xo ko yo) := by rw [kb]; rfl
          have q8 : wE.cell? ⟨b1, 8, none⟩ = some (.slice xn kn yn) := by rw [kb]; rfl
          have z0 : wE.cell? ⟨b1 + 1, 0, none⟩ = some (.int .i64 0) := by rw [kr]; rfl
          have z1 : wE.cell? ⟨b1 + 1, 1, none⟩ = some (.int .i64 0) := by rw [kr]; rfl
          have z2 : wE.cell? ⟨b1 + 1, 2, none⟩ = some (.int .i64 0) := by rw [kr]; rfl
          have z3 : wE.cell? ⟨b1 + 1, 3, none⟩ = some (.int .i64 0) := by rw [kr]; rfl
          have z4 : wE.cell? ⟨b1 + 1, 4, none⟩ = some (.slice none 0 0) := by rw [kr]; rfl
          have z5 : wE.cell? ⟨b1 + 1, 5, none⟩ = some (.slice none 0 0) := by rw [kr]; rfl
          have z6 : wE.cell? ⟨b1 + 1, 6, none⟩ = some (.slice none 0 0) := by rw [kr]; rfl
          have z7 : wE.cell? ⟨b1 + 1, 7, none⟩ = some (.slice none 0 0) := by rw [kr]; rfl
          have z8 : wE.cell? ⟨b1 + 1, 8, none⟩ = some (.slice none 0 0) := by rw [kr]; rfl
          clear kb kr
          go_wp2_with fail
          obtain ⟨wF, hwF, B6, T6⟩ : ∃ W, (((((((((wE.setCell ⟨b1 + 1, 0, none⟩ (.int .i64 br)).setCell ⟨b1 + 1, 1, none⟩ (.int .i64 ni)).setCell ⟨b1 + 1, 2, none⟩ (.int .i64 ns)).setCell ⟨b1 + 1, 3, none⟩ (.int .i64 tx)).setCell ⟨b1 + 1, 4, none⟩ (.slice xm km ym)).setCell ⟨b1 + 1, 5, none⟩ (.slice xw kw yw)).setCell ⟨b1 + 1, 6, none⟩ (.slice xe ke ye)).setCell ⟨b1 + 1, 7, none⟩ (.slice xo ko yo)).setCell ⟨b1 + 1, 8, none⟩ (.slice xn kn yn)) = W /\ Hid (W.heap[b1 + 1]? = some (.cells #[.int .i64 br, .int .i64 ni, .int .i64 ns, .int .i64 tx, .slice xm km ym, .slice xw kw yw, .slice xe ke ye, .slice xo ko yo, .slice xn kn yn] 27 (0, 0))) /\ Hid (Tch (fun q => q = b1 + 1) wE W) := by
           obtain ⟨g1, g2⟩ := set9 (.int .i64 br) (.int .i64 ni) (.int .i64 ns) (.int .i64 tx) (.slice xm km ym) (.slice xw kw yw) (.slice xe ke ye) (.slice xo ko yo) (.slice xn kn yn) SB.out.res
           exact ⟨_, rfl, g1, g2⟩
          rw [hwF]
          clear hwF fr9 q0 z0 q1 z1 q2 z2 q3 z3 q4 z4 q5 z5 q6 z6 q7 z7 q8 z8
          have kk := fun j => blk_cell B6.out j
          have q0 : wF.cell? ⟨b1 + 1, 0, none⟩ = some (.int .i64 br) := by rw [kk]; rfl
          have q1 : wF.cell? ⟨b1 + 1, 1, none⟩ = some (.int .i64 ni) := by rw [kk]; rfl
          have q2 : wF.cell? ⟨b1 + 1, 2, none⟩ = some (.int .i64 ns) := by rw [kk]; rfl
          have q3 : wF.cell? ⟨b1 + 1, 3, none⟩ = some (.int .i64 tx) := by rw [kk]; rfl
          have q4 : wF.cell? ⟨b1 + 1, 4, none⟩ = some (.slice xm km ym) := by rw [kk]; rfl
          have q5 : wF.cell? ⟨b1 + 1, 5, none⟩ = some (.slice xw kw yw) := by rw [kk]; rfl
          have q6 : wF.cell? ⟨b1 + 1, 6, none⟩ = some (.slice xe ke ye) := by rw [kk]; rfl
          have q7 : wF.cell? ⟨b1 + 1, 7, none⟩ = some (.slice xo ko yo) := by rw [kk]; rfl
          have q8 : wF.cell? ⟨b1 + 1, 8, none⟩ = some (.slice xn kn yn) := by rw [kk]; rfl
          clear kk
          refine bodyPost_ret (v := .agg #[.int .i64 br, .int .i64 ni, .int .i64 ns, .int .i64 tx, .slice xm km ym, .slice xw kw yw, .slice xe ke ye, .slice xo ko yo, .slice xn kn yn]) (by simp [results, Tryz.results13, go_sem, q0, q1, q2, q3, q4, q5, q6, q7, q8]) rfl ?_
          obtain ⟨lm, hm1, hm2, hm3⟩ := RM.out
          obtain ⟨lw, hw1, hw2, hw3⟩ := RW.out
          obtain ⟨le, he1, he2, he3⟩ := RE.out
          obtain ⟨lo, ho1, ho2, ho3⟩ := RO.out
          obtain ⟨ln, hn1, hn2, hn3⟩ := RN.out
          have hb3 := SB.out.bs
          have t6 : Tch No w wF := SB.out.t.fresh T6.out (fun k e => by omega)
          have own9 : ∀ {e : TypeId} {m n : Nat} {cs : List Value} {v : Value} (W : World), Tch (fun k => k < b1) wF W -> OwnN w1 e m n cs v wE -> CellsAt W v n m cs := fun W t h => CellsAt.ofRow (own_tch (own_tch h.1 T6.out (fun k hk e => by have := h.2 k hk; omega)) t (fun k hk e => by have := h.2 k hk; omega))
          refine ⟨_, ⟨br, ni, ns, tx, lm, lw.map Prod.fst, le, lo.map Prod.fst, ln.map Prod.fst⟩, rfl, ?_, t6, ?_⟩
          ·refine ⟨HNS.out.1, HNS.out.2.1, HNS.out.2.2.1, HNS.out.2.2.2, fun m hm => ?_, fun b hb => ?_, fun e he => ?_, fun p hp => ?_, fun p hp => ?_⟩
           ·obtain ⟨i, hi, rfl⟩ := List.getElem_of_mem hm
            exact (hm3 i hi).2.1 (hm1 ▸ hi)
           ·obtain ⟨q, hq, rfl⟩ := List.mem_map.1 hb
            obtain ⟨i, hi, rfl⟩ := List.getElem_of_mem hq
            exact ⟨(hw3 i hi).1, ((hw3 i hi).2.1 (hw1 ▸ hi)).2⟩
           ·obtain ⟨i, hi, rfl⟩ := List.getElem_of_mem he
            exact he3 i hi
           ·obtain ⟨q, hq, rfl⟩ := List.mem_map.1 hp
            obtain ⟨i, hi, rfl⟩ := List.getElem_of_mem hq
            exact ⟨(ho3 i hi).1, (ho3 i hi).2.1⟩
           ·obtain ⟨q, hq, rfl⟩ := List.mem_map.1 hp
            obtain ⟨i, hi, rfl⟩ := List.getElem_of_mem hq
            exact ⟨(hn3 i hi).1, (hn3 i hi).2.1⟩
          ·rw [HB1.out]
           refine ⟨.slice xm km ym, .slice xw kw yw, .slice xe ke ye, .slice xo ko yo, .slice xn kn yn, lw, lo, ln, rfl, rfl, rfl, rfl, fun W t => ⟨?_, ?_, ?_, ?_, ?_, ?_, ?_, ?_⟩⟩
           ·show CellsAt W (.slice xm km ym) lm.length 6 _
            rw [hm1]; exact own9 W t hm2
           ·show CellsAt W (.slice xw kw yw) lw.length 2 _
            rw [hw1]; exact own9 W t hw2
           ·intro p hp
            obtain ⟨i, hi, rfl⟩ := List.getElem_of_mem hp
            exact own9 W t ((hw3 i hi).2.1 (hw1 ▸ hi)).1
           ·show CellsAt W (.slice xe ke ye) le.length 2 _
            rw [he1]; exact own9 W t he2
           ·show CellsAt W (.slice xo ko yo) lo.length 2 _
            rw [ho1]; exact own9 W t ho2
           ·intro p hp
            obtain ⟨i, hi, rfl⟩ := List.getElem_of_mem hp
            exact own9 W t ((ho3 i hi).2.2.1 (ho1 ▸ hi))
           ·show CellsAt W (.slice xn kn yn) ln.length 2 _
            rw [hn1]; exact own9 W t hn2
           ·intro p hp
            obtain ⟨i, hi, rfl⟩ := List.getElem_of_mem hp
            exact own9 W t ((hn3 i hi).2.2.1 (hn1 ▸ hi))
end
end Go.Proofs.YtelaljoebdpicaaGreat
