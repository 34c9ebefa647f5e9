/- Part 17 of what the proof of OrderCounts rests on. No condition. -/
import Derived.Test.YtelaljoebdpicaaGreatPOrderCounts15
import Derived.Test.YtelaljoebdpicaaGreatPOrderCounts16
namespace Go.Proofs.YtelaljoebdpicaaGreat
set_option maxRecDepth 100000
set_option maxHeartbeats 60000000
set_option linter.unusedVariables false
set_option linter.unusedSimpArgs false
set_option linter.unusedSectionVars false
section
open Go.RowKit Go.Maps
theorem run_appL {t e : TypeId} {size bytes : Nat} (E : ElT t e size bytes) (w : World) (ty : TypeId) (v : Value) (n : Nat) (xs : List Value) (hown : w.ownsRow 0 e size v n xs) (u : Value) (m : Nat) (news : List Value) (hu : CellsL w u m size news) (h1 : Ones news) (hlen : n + m <= 140737488351232) (hby : (n + m) * bytes <= 140737488351232) :
  ∃ v' w', (Builtin.append_ #[t, t] ty #[v, u]).run Tryz.prog w = .ok v' w' /\ AppE e size w v (n + m) (xs ++ news) v' w' := by
 obtain ⟨i0, z, hi0, hz0, hz1, hz2, hzs⟩ := E.info
 have hb := E.byt
 rcases hu.2 with ⟨rfl, rfl⟩ | ⟨a, c, rfl, _, _, hc⟩
 ·have : news = [] := List.eq_nil_of_length_eq_zero (by simpa using hu.1)
  subst this
  have hr := run_append_owned_none (P := Tryz.prog) w 0 t ty e i0 size E.und hi0 v n xs hown
  refine ⟨v, w, hr, by simpa using hown, World.grownBy.refl _ _, .inl rfl, ?_⟩
  rw [Nat.add_zero]
  refine ⟨fun h => ⟨h, ?_⟩, fun h => h.1⟩
  rcases hown.2 with ⟨_, h0⟩ | ⟨g, cap, cur, h2, _⟩
  ·exact h0
  ·rw [h2] at h; cases h
 ·obtain ⟨v', w', hr, q1, q2, q3, q4⟩ := run_append_own_at (P := Tryz.prog) w 0 t ty e i0 z size bytes E.und hi0 hz0 hz1 hz2 hzs E.pos v n xs hown a m c news hu.1 (fun j u hj => hc j u hj) h1 (by simp only [maxLen]; omega) (by omega) (Nat.zero_le _)
  refine ⟨v', w', hr, q1, q2, q4, q3.trans ⟨fun h => ⟨h.1, ?_⟩, fun h => ⟨h.1, by omega⟩⟩⟩
  obtain ⟨h2, h3⟩ := h
  subst h3
  rcases hown.2 with ⟨_, h0⟩ | ⟨g, cap, cur, h4, _⟩
  ·omega
  ·rw [h2] at h4; cases h4
theorem wp_appL {t e : TypeId} {size bytes : Nat} (E : ElT t e size bytes) {o : Oper} {a : Act} {w : World} {K : Act -> World -> Prop} {Q : Exit -> Act -> World -> Prop} (sl x : Operand)
  (ho : o.op = .call { callee := .builtin .append, args := #[sl, x], argTypes := #[t, t] })
  (v : Value) (n : Nat) (xs : List Value) (hs : a.eval sl = v) (hown : w.ownsRow 0 e size v n xs) (u : Value) (m : Nat) (news : List Value) (hx : a.eval x = u) (hu : CellsL w u m size news) (h1 : Ones news) (hlen : n + m <= 140737488351232) (hby : (n + m) * bytes <= 140737488351232)
  (h : ∀ a' n' cap' w', AppE e size w v (n + m) (xs ++ news) (.slice a' n' cap') w' -> Hid (n' = n + m) -> K (a.put o.dst (.slice a' n' cap')) w') :
  Oper.wp Tryz.prog o a w K Q := by
 obtain ⟨v', w', hr, hA⟩ := run_appL E w o.type v n xs hown u m news hu h1 hlen hby
 obtain ⟨a', cap', rfl, _, _⟩ := own_shape hA.own
 unfold Oper.wp execOp
 simp only [ho, resolve, invoke, builtin, Sem.run_bind, Sem.run_pure, Result.andThen_ok, List.map_toArray, List.map_cons, List.map_nil, hs, hx, hr]
 exact h _ _ _ _ hA rfl
theorem wpList_appL {t e : TypeId} {size bytes : Nat} (E : ElT t e size bytes) (w : World) {ops : Array Oper} {rest : List Oper} {o : Oper} {a : Act} {Q : Exit -> Act -> World -> Prop} (hgd : o.guard = none) (sl x : Operand)
  (ho : o.op = .call { callee := .builtin .append, args := #[sl, x], argTypes := #[t, t] })
  (v : Value) (n : Nat) (xs : List Value) (hs : a.eval sl = v) (hown : w.ownsRow 0 e size v n xs) (u : Value) (m : Nat) (news : List Value) (hx : a.eval x = u) (hu : CellsL w u m size news) (h1 : Ones news) (hlen : n + m <= 140737488351232) (hby : (n + m) * bytes <= 140737488351232)
  (h : ∀ a' n' cap' w', AppE e size w v (n + m) (xs ++ news) (.slice a' n' cap') w' -> Hid (n' = n + m) -> wpList Tryz.prog ops Q rest (a.put o.dst (.slice a' n' cap')) w') :
  wpList Tryz.prog ops Q (o :: rest) a w :=
 wpList_plain hgd fun K hK => wp_appL E sl x ho v n xs hs hown u m news hx hu h1 hlen hby (fun a' n' cap' w' hA hn => hK _ _ (h a' n' cap' w' hA hn))
theorem own_lt9 {w : World} {base : Nat} {e : TypeId} {size n b : Nat} {v : Value} {xs : List Value} (h : w.ownsRow base e size v n xs) (hb : v.ownBlock = some b) : b < w.heap.size := by
 rcases h.2 with ⟨h1, _⟩ | ⟨g, cap, cur, h1, h2, h3, _⟩
 ·rw [h1] at hb; simp [Value.ownBlock] at hb
 ·rw [h1] at hb
  simp [Value.ownBlock] at hb
  subst hb; exact blk_lt h3
structure CpyO (w w' : World) (CM CW CE CO CN : List Value) (nm nw ne no nn : Nat) (vm vw ve vo vn : Value) : Prop where
 t : Tch No w w'
 om : OwnN w 50 6 nm CM vm w'
 ow : OwnN w 74 2 nw CW vw w'
 oe : OwnN w 57 2 ne CE ve w'
 oo : OwnN w 76 2 no CO vo w'
 on : OwnN w 76 2 nn CN vn w'
 apart : ∀ b, vo.ownBlock = some b -> vn.ownBlock ≠ some b
theorem rcopy_own (br ni ns tx : Int) (CM CW CE CO CN : List Value) (nm nw ne no nn : Nat) (am aw ae ao an : Option Addr) (cm cw ce co cn : Nat) (w : World)
  (sm : CellsL w (.slice am nm cm) nm 6 CM) (sw : CellsL w (.slice aw nw cw) nw 2 CW) (se : CellsL w (.slice ae ne ce) ne 2 CE) (so : CellsL w (.slice ao no co) no 2 CO) (sn : CellsL w (.slice an nn cn) nn 2 CN)
  (om : Ones CM) (ow : Ones CW) (oe : Ones CE) (oo : Ones CO) (on : Ones CN)
  (h1 : nm * 64 <= 140737488351232) (h2 : nw * 32 <= 140737488351232) (h3 : ne * 16 <= 140737488351232) (h4 : no * 32 <= 140737488351232) (h5 : nn * 32 <= 140737488351232) :
  Calls Tryz.prog 21 #[.agg #[.int .i64 br, .int .i64 ni, .int .i64 ns, .int .i64 tx, .slice am nm cm, .slice aw nw cw, .slice ae ne ce, .slice ao no co, .slice an nn cn]] w fun e w' => ∃ xm ym xw yw xe ye xo yo xn yn, e = .returned (.agg #[.int .i64 br, .int .i64 ni, .int .i64 ns, .int .i64 tx, .slice xm nm ym, .slice xw nw yw, .slice xe ne ye, .slice xo no yo, .slice xn nn yn]) /\ CpyO w w' CM CW CE CO CN nm nw ne no nn (.slice xm nm ym) (.slice xw nw yw) (.slice xe ne ye) (.slice xo no yo) (.slice xn nn yn) := by
 have HM0 : Hid (∀ W, Tch No w W -> CellsL W (.slice am nm cm) nm 6 CM) := fun W t => sm.keep t
 have HW0 : Hid (∀ W, Tch No w W -> CellsL W (.slice aw nw cw) nw 2 CW) := fun W t => sw.keep t
 have HE0 : Hid (∀ W, Tch No w W -> CellsL W (.slice ae ne ce) ne 2 CE) := fun W t => se.keep t
 have HO0 : Hid (∀ W, Tch No w W -> CellsL W (.slice ao no co) no 2 CO) := fun W t => so.keep t
 have HNo0 : Hid (∀ W, Tch No w W -> CellsL W (.slice an nn cn) nn 2 CN) := fun W t => sn.keep t
 have ONm := Lib.hid om
 have ONw := Lib.hid ow
 have ONe := Lib.hid oe
 have ONo := Lib.hid oo
 have ONn := Lib.hid on
 have hlnm : nm <= 9223372036854775807 := by omega
 have hlnw : nw <= 9223372036854775807 := by omega
 have hlne : ne <= 9223372036854775807 := by omega
 have hlno : no <= 9223372036854775807 := by omega
 have hlnn : nn <= 9223372036854775807 := by omega
 clear sm sw se so sn om ow oe oo on
 go_enter Tryz.func21, Tryz.ntmps21
 go_upto_region 1 with fail
 obtain ⟨W0, hW0, T0, B0⟩ : ∃ W, (w.alloc (.cells #[.int .i64 br, .int .i64 ni, .int .i64 ns, .int .i64 tx, .slice am nm cm, .slice aw nw cw, .slice ae ne ce, .slice ao no co, .slice an nn cn] 27)).alloc (.cells #[.int .i64 0, .int .i64 0, .int .i64 0, .int .i64 0, .slice none 0 0, .slice none 0 0, .slice none 0 0, .slice none 0 0, .slice none 0 0] 27) = W /\ Hid (Tch No w W) /\ Hid (W.heap[w.heap.size]? = some (.cells #[.int .i64 br, .int .i64 ni, .int .i64 ns, .int .i64 tx, .slice am nm cm, .slice aw nw cw, .slice ae ne ce, .slice ao no co, .slice an nn cn] 27 (0, 0)) /\ W.heap[w.heap.size + 1]? = some (.cells #[.int .i64 0, .int .i64 0, .int .i64 0, .int .i64 0, .slice none 0 0, .slice none 0 0, .slice none 0 0, .slice none 0 0, .slice none 0 0] 27 (0, 0))) := by
  refine ⟨_, rfl, (Tch.alloc _ _).trans0 (Tch.alloc _ _), blk_tch (Tch.alloc _ _) (blk_new w _) (fun h => h), ?_⟩
  have := blk_new (w.alloc (.cells #[.int .i64 br, .int .i64 ni, .int .i64 ns, .int .i64 tx, .slice am nm cm, .slice aw nw cw, .slice ae ne ce, .slice ao no co, .slice an nn cn] 27)) (.cells #[.int .i64 0, .int .i64 0, .int .i64 0, .int .i64 0, .slice none 0 0, .slice none 0 0, .slice none 0 0, .slice none 0 0, .slice none 0 0] 27)
  rwa [size_alloc] at this
 rw [hW0]
 clear hW0
 have k1 := fun j => blk_cell B0.out.1 j
 have q1 : W0.cell? ⟨w.heap.size, 4, none⟩ = some (.slice am nm cm) := by rw [k1]; rfl
 have S1 := Lib.hid (HM0.out W0 T0.out)
 clear k1
 go_upto_region 2 with (at_builtin; refine wpList_appL eltMsg _ rfl (.const (.slice none 0 0)) (.tmp 4) rfl (.slice none 0 0) 0 [] rfl (own_nil _ _ _) _ nm _ rfl S1.out ONm.out (by omega) (by omega) ?_; intro xm zm ym w1 hA hz; have f1 := blk_free (blk_tch hA.fresh.1 B0.out.1 (fun h => h)) 4; have f2 := hA.fresh.1.cell q1 (fun h => h); have A1 := Lib.hid hA; have Z1 := Lib.hid hz; clear hA hz)
 obtain rfl : nm = zm := by have := Z1.out.out; omega
 obtain ⟨W1, hW1, T1, B1, O1, TT1⟩ : ∃ W, w1.setCell ⟨w.heap.size, 4, none⟩ (.slice xm nm ym) = W /\ Hid (Tch No w W) /\ Hid (W.heap[w.heap.size]? = some (.cells #[.int .i64 br, .int .i64 ni, .int .i64 ns, .int .i64 tx, .slice xm nm ym, .slice aw nw cw, .slice ae ne ce, .slice ao no co, .slice an nn cn] 27 (0, 0)) /\ W.heap[w.heap.size + 1]? = some (.cells #[.int .i64 0, .int .i64 0, .int .i64 0, .int .i64 0, .slice none 0 0, .slice none 0 0, .slice none 0 0, .slice none 0 0, .slice none 0 0] 27 (0, 0))) /\ Hid (OwnB w.heap.size 50 6 nm CM (.slice xm nm ym) W /\ ∀ b, (.slice xm nm ym : Value).ownBlock = some b -> w.heap.size + 2 <= b) /\ Hid (Tch (fun k => k = w.heap.size) W0 W) := by
  obtain ⟨g1, g2, g3, g4, g5⟩ := box_step 4 T0.out (Nat.le_refl _) B0.out.1 A1.out
  have hf := A1.out.fresh.2
  have hl := blk_lt B0.out.2
  refine ⟨_, rfl, g1, ⟨g2, blk_tch g5 B0.out.2 (fun e => by omega)⟩, ⟨⟨by have := g3; rwa [Nat.zero_add, List.nil_append] at this, fun b hb => (g4 b hb).1⟩, fun b hb => by have := hf b hb; omega⟩, g5⟩
 rw [hW1]
 clear hW1 f1 f2 q1 S1 A1 Z1 B0 T0
 have k2 := fun j => blk_cell B1.out.1 j
 have q2 : W1.cell? ⟨w.heap.size, 6, none⟩ = some (.slice ae ne ce) := by rw [k2]; rfl
 have S2 := Lib.hid (HE0.out W1 T1.out)
 clear k2
 go_upto_region 3 with (at_builtin; refine wpList_appL eltEnd _ rfl (.const (.slice none 0 0)) (.tmp 8) rfl (.slice none 0 0) 0 [] rfl (own_nil _ _ _) _ ne _ rfl S2.out ONe.out (by omega) (by omega) ?_; intro xe ze ye w2 hA hz; have f1 := blk_free (blk_tch hA.fresh.1 B1.out.1 (fun h => h)) 6; have f2 := hA.fresh.1.cell q2 (fun h => h); have A2 := Lib.hid hA; have Z2 := Lib.hid hz; clear hA hz)
 obtain rfl : ne = ze := by have := Z2.out.out; omega
 obtain ⟨W2, hW2, T2, B2, O2, TT2⟩ : ∃ W, w2.setCell ⟨w.heap.size, 6, none⟩ (.slice xe ne ye) = W /\ Hid (Tch No w W) /\ Hid (W.heap[w.heap.size]? = some (.cells #[.int .i64 br, .int .i64 ni, .int .i64 ns, .int .i64 tx, .slice xm nm ym, .slice aw nw cw, .slice xe ne ye, .slice ao no co, .slice an nn cn] 27 (0, 0)) /\ W.heap[w.heap.size + 1]? = some (.cells #[.int .i64 0, .int .i64 0, .int .i64 0, .int .i64 0, .slice none 0 0, .slice none 0 0, .slice none 0 0, .slice none 0 0, .slice none 0 0] 27 (0, 0))) /\ Hid (OwnB w.heap.size 57 2 ne CE (.slice xe ne ye) W /\ ∀ b, (.slice xe ne ye : Value).ownBlock = some b -> w.heap.size + 2 <= b) /\ Hid (Tch (fun k => k = w.heap.size) W1 W) := by
  obtain ⟨g1, g2, g3, g4, g5⟩ := box_step 6 T1.out (Nat.le_refl _) B1.out.1 A2.out
  have hf := A2.out.fresh.2
  have hl := blk_lt B1.out.2
  refine ⟨_, rfl, g1, ⟨g2, blk_tch g5 B1.out.2 (fun e => by omega)⟩, ⟨⟨by have := g3; rwa [Nat.zero_add, List.nil_append] at this, fun b hb => (g4 b hb).1⟩, fun b hb => by have := hf b hb; omega⟩, g5⟩
 rw [hW2]
 clear hW2 f1 f2 q2 S2 A2 Z2 B1 T1
 have P1_2 : Hid (OwnB w.heap.size 50 6 nm CM (.slice xm nm ym) W2 /\ _) := ⟨O1.out.1.tch TT2.out, O1.out.2⟩
 have k3 := fun j => blk_cell B2.out.1 j
 have q3 : W2.cell? ⟨w.heap.size, 5, none⟩ = some (.slice aw nw cw) := by rw [k3]; rfl
 have S3 := Lib.hid (HW0.out W2 T2.out)
 clear k3
 go_upto_region 4 with (at_builtin; refine wpList_appL eltBr _ rfl (.const (.slice none 0 0)) (.tmp 12) rfl (.slice none 0 0) 0 [] rfl (own_nil _ _ _) _ nw _ rfl S3.out ONw.out (by omega) (by omega) ?_; intro xw zw yw w3 hA hz; have f1 := blk_free (blk_tch hA.fresh.1 B2.out.1 (fun h => h)) 5; have f2 := hA.fresh.1.cell q3 (fun h => h); have A3 := Lib.hid hA; have Z3 := Lib.hid hz; clear hA hz)
 obtain rfl : nw = zw := by have := Z3.out.out; omega
 obtain ⟨W3, hW3, T3, B3, O3, TT3⟩ : ∃ W, w3.setCell ⟨w.heap.size, 5, none⟩ (.slice xw nw yw) = W /\ Hid (Tch No w W) /\ Hid (W.heap[w.heap.size]? = some (.cells #[.int .i64 br, .int .i64 ni, .int .i64 ns, .int .i64 tx, .slice xm nm ym, .slice xw nw yw, .slice xe ne ye, .slice ao no co, .slice an nn cn] 27 (0, 0)) /\ W.heap[w.heap.size + 1]? = some (.cells #[.int .i64 0, .int .i64 0, .int .i64 0, .int .i64 0, .slice none 0 0, .slice none 0 0, .slice none 0 0, .slice none 0 0, .slice none 0 0] 27 (0, 0))) /\ Hid (OwnB w.heap.size 74 2 nw CW (.slice xw nw yw) W /\ ∀ b, (.slice xw nw yw : Value).ownBlock = some b -> w.heap.size + 2 <= b) /\ Hid (Tch (fun k => k = w.heap.size) W2 W) := by
  obtain ⟨g1, g2, g3, g4, g5⟩ := box_step 5 T2.out (Nat.le_refl _) B2.out.1 A3.out
  have hf := A3.out.fresh.2
  have hl := blk_lt B2.out.2
  refine ⟨_, rfl, g1, ⟨g2, blk_tch g5 B2.out.2 (fun e => by omega)⟩, ⟨⟨by have := g3; rwa [Nat.zero_add, List.nil_append] at this, fun b hb => (g4 b hb).1⟩, fun b hb => by have := hf b hb; omega⟩, g5⟩
 rw [hW3]
 clear hW3 f1 f2 q3 S3 A3 Z3 B2 T2
 have P1_3 : Hid (OwnB w.heap.size 50 6 nm CM (.slice xm nm ym) W3 /\ _) := ⟨P1_2.out.1.tch TT3.out, P1_2.out.2⟩
 have P2_3 : Hid (OwnB w.heap.size 57 2 ne CE (.slice xe ne ye) W3 /\ _) := ⟨O2.out.1.tch TT3.out, O2.out.2⟩
 have k4 := fun j => blk_cell B3.out.1 j
 have q4 : W3.cell? ⟨w.heap.size, 7, none⟩ = some (.slice ao no co) := by rw [k4]; rfl
 have S4 := Lib.hid (HO0.out W3 T3.out)
 clear k4
 go_upto_region 5 with (at_builtin; refine wpList_appL eltPend _ rfl (.const (.slice none 0 0)) (.tmp 16) rfl (.slice none 0 0) 0 [] rfl (own_nil _ _ _) _ no _ rfl S4.out ONo.out (by omega) (by omega) ?_; intro xo zo yo w4 hA hz; have f1 := blk_free (blk_tch hA.fresh.1 B3.out.1 (fun h => h)) 7; have f2 := hA.fresh.1.cell q4 (fun h => h); have A4 := Lib.hid hA; have Z4 := Lib.hid hz; clear hA hz)
 obtain rfl : no = zo := by have := Z4.out.out; omega
 obtain ⟨W4, hW4, T4, B4, O4, TT4⟩ : ∃ W, w4.setCell ⟨w.heap.size, 7, none⟩ (.slice xo no yo) = W /\ Hid (Tch No w W) /\ Hid (W.heap[w.heap.size]? = some (.cells #[.int .i64 br, .int .i64 ni, .int .i64 ns, .int .i64 tx, .slice xm nm ym, .slice xw nw yw, .slice xe ne ye, .slice xo no yo, .slice an nn cn] 27 (0, 0)) /\ W.heap[w.heap.size + 1]? = some (.cells #[.int .i64 0, .int .i64 0, .int .i64 0, .int .i64 0, .slice none 0 0, .slice none 0 0, .slice none 0 0, .slice none 0 0, .slice none 0 0] 27 (0, 0))) /\ Hid (OwnB w.heap.size 76 2 no CO (.slice xo no yo) W /\ ∀ b, (.slice xo no yo : Value).ownBlock = some b -> w.heap.size + 2 <= b) /\ Hid (Tch (fun k => k = w.heap.size) W3 W) := by
  obtain ⟨g1, g2, g3, g4, g5⟩ := box_step 7 T3.out (Nat.le_refl _) B3.out.1 A4.out
  have hf := A4.out.fresh.2
  have hl := blk_lt B3.out.2
  refine ⟨_, rfl, g1, ⟨g2, blk_tch g5 B3.out.2 (fun e => by omega)⟩, ⟨⟨by have := g3; rwa [Nat.zero_add, List.nil_append] at this, fun b hb => (g4 b hb).1⟩, fun b hb => by have := hf b hb; omega⟩, g5⟩
 rw [hW4]
 clear hW4 f1 f2 q4 S4 A4 Z4 B3 T3
 have P1_4 : Hid (OwnB w.heap.size 50 6 nm CM (.slice xm nm ym) W4 /\ _) := ⟨P1_3.out.1.tch TT4.out, P1_3.out.2⟩
 have P2_4 : Hid (OwnB w.heap.size 57 2 ne CE (.slice xe ne ye) W4 /\ _) := ⟨P2_3.out.1.tch TT4.out, P2_3.out.2⟩
 have P3_4 : Hid (OwnB w.heap.size 74 2 nw CW (.slice xw nw yw) W4 /\ _) := ⟨O3.out.1.tch TT4.out, O3.out.2⟩
 have k5 := fun j => blk_cell B4.out.1 j
 have q5 : W4.cell? ⟨w.heap.size, 8, none⟩ = some (.slice an nn cn) := by rw [k5]; rfl
 have S5 := Lib.hid (HNo0.out W4 T4.out)
 clear k5
 go_upto_region 6 with (at_builtin; refine wpList_appL eltPend _ rfl (.const (.slice none 0 0)) (.tmp 20) rfl (.slice none 0 0) 0 [] rfl (own_nil _ _ _) _ nn _ rfl S5.out ONn.out (by omega) (by omega) ?_; intro xn zn yn w5 hA hz; have f1 := blk_free (blk_tch hA.fresh.1 B4.out.1 (fun h => h)) 8; have f2 := hA.fresh.1.cell q5 (fun h => h); have A5 := Lib.hid hA; have Z5 := Lib.hid hz; clear hA hz)
 obtain rfl : nn = zn := by have := Z5.out.out; omega
 obtain ⟨W5, hW5, T5, B5, O5, TT5, AP5⟩ : ∃ W, w5.setCell ⟨w.heap.size, 8, none⟩ (.slice xn nn yn) = W /\ Hid (Tch No w W) /\ Hid (W.heap[w.heap.size]? = some (.cells #[.int .i64 br, .int .i64 ni, .int .i64 ns, .int .i64 tx, .slice xm nm ym, .slice xw nw yw, .slice xe ne ye, .slice xo no yo, .slice xn nn yn] 27 (0, 0)) /\ W.heap[w.heap.size + 1]? = some (.cells #[.int .i64 0, .int .i64 0, .int .i64 0, .int .i64 0, .slice none 0 0, .slice none 0 0, .slice none 0 0, .slice none 0 0, .slice none 0 0] 27 (0, 0))) /\ Hid (OwnB w.heap.size 76 2 nn CN (.slice xn nn yn) W /\ ∀ b, (.slice xn nn yn : Value).ownBlock = some b -> w.heap.size + 2 <= b) /\ Hid (Tch (fun k => k = w.heap.size) W4 W) /\ Hid (∀ b, (.slice xo no yo : Value).ownBlock = some b -> (.slice xn nn yn : Value).ownBlock ≠ some b) := by
  obtain ⟨g1, g2, g3, g4, g5⟩ := box_step 8 T4.out (Nat.le_refl _) B4.out.1 A5.out
  have hf := A5.out.fresh.2
  have hl := blk_lt B4.out.2
  refine ⟨_, rfl, g1, ⟨g2, blk_tch g5 B4.out.2 (fun e => by omega)⟩, ⟨⟨by have := g3; rwa [Nat.zero_add, List.nil_append] at this, fun b hb => (g4 b hb).1⟩, fun b hb => by have := hf b hb; omega⟩, g5, fun b hb hb2 => ?_⟩
  have q1 := own_lt9 O4.out.1.1 hb
  have q2 := hf b hb2
  omega
 rw [hW5]
 clear hW5 f1 f2 q5 S5 A5 Z5 B4 T4
 have P1_5 : Hid (OwnB w.heap.size 50 6 nm CM (.slice xm nm ym) W5 /\ _) := ⟨P1_4.out.1.tch TT5.out, P1_4.out.2⟩
 have P2_5 : Hid (OwnB w.heap.size 57 2 ne CE (.slice xe ne ye) W5 /\ _) := ⟨P2_4.out.1.tch TT5.out, P2_4.out.2⟩
 have P3_5 : Hid (OwnB w.heap.size 74 2 nw CW (.slice xw nw yw) W5 /\ _) := ⟨P3_4.out.1.tch TT5.out, P3_4.out.2⟩
 have P4_5 : Hid (OwnB w.heap.size 76 2 no CO (.slice xo no yo) W5 /\ _) := ⟨O4.out.1.tch TT5.out, O4.out.2⟩
 have kk := fun j => blk_cell B5.out.1 j
 have q0 : W5.cell? ⟨w.heap.size, 0, none⟩ = some (.int .i64 br) := by rw [kk]; rfl
 have q1 : W5.cell? ⟨w.heap.size, 1, none⟩ = some (.int .i64 ni) := by rw [kk]; rfl
 have q2 : W5.cell? ⟨w.heap.size, 2, none⟩ = some (.int .i64 ns) := by rw [kk]; rfl
 have q3 : W5.cell? ⟨w.heap.size, 3, none⟩ = some (.int .i64 tx) := by rw [kk]; rfl
 have q4 : W5.cell? ⟨w.heap.size, 4, none⟩ = some (.slice xm nm ym) := by rw [kk]; rfl
 have q5 : W5.cell? ⟨w.heap.size, 5, none⟩ = some (.slice xw nw yw) := by rw [kk]; rfl
 have q6 : W5.cell? ⟨w.heap.size, 6, none⟩ = some (.slice xe ne ye) := by rw [kk]; rfl
 have q7 : W5.cell? ⟨w.heap.size, 7, none⟩ = some (.slice xo no yo) := by rw [kk]; rfl
 have q8 : W5.cell? ⟨w.heap.size, 8, none⟩ = some (.slice xn nn yn) := by rw [kk]; rfl
 have kz := fun j => blk_cell B5.out.2 j
 have z0 : W5.cell? ⟨w.heap.size + 1, 0, none⟩ = some (.int .i64 0) := by rw [kz]; rfl
 have z1 : W5.cell? ⟨w.heap.size + 1, 1, none⟩ = some (.int .i64 0) := by rw [kz]; rfl
 have z2 : W5.cell? ⟨w.heap.size + 1, 2, none⟩ = some (.int .i64 0) := by rw [kz]; rfl
 have z3 : W5.cell? ⟨w.heap.size + 1, 3, none⟩ = some (.int .i64 0) := by rw [kz]; rfl
 have z4 : W5.cell? ⟨w.heap.size + 1, 4, none⟩ = some (.slice none 0 0) := by rw [kz]; rfl
 have z5 : W5.cell? ⟨w.heap.size + 1, 5, none⟩ = some (.slice none 0 0) := by rw [kz]; rfl
 have z6 : W5.cell? ⟨w.heap.size + 1, 6, none⟩ = some (.slice none 0 0) := by rw [kz]; rfl
 have z7 : W5.cell? ⟨w.heap.size + 1, 7, none⟩ = some (.slice none 0 0) := by rw [kz]; rfl
 have z8 : W5.cell? ⟨w.heap.size + 1, 8, none⟩ = some (.slice none 0 0) := by rw [kz]; rfl
 have fz := fun j => blk_free B5.out.2 j
 clear kk kz
 go_wp2_with fail
 obtain ⟨W6, hW6, B6, T6⟩ : ∃ W, (((((((((W5.setCell ⟨w.heap.size + 1, 0, none⟩ (.int .i64 br)).setCell ⟨w.heap.size + 1, 1, none⟩ (.int .i64 ni)).setCell ⟨w.heap.size + 1, 2, none⟩ (.int .i64 ns)).setCell ⟨w.heap.size + 1, 3, none⟩ (.int .i64 tx)).setCell ⟨w.heap.size + 1, 4, none⟩ (.slice xm nm ym)).setCell ⟨w.heap.size + 1, 5, none⟩ (.slice xw nw yw)).setCell ⟨w.heap.size + 1, 6, none⟩ (.slice xe ne ye)).setCell ⟨w.heap.size + 1, 7, none⟩ (.slice xo no yo)).setCell ⟨w.heap.size + 1, 8, none⟩ (.slice xn nn yn)) = W /\ Hid (W.heap[w.heap.size + 1]? = some (.cells #[.int .i64 br, .int .i64 ni, .int .i64 ns, .int .i64 tx, .slice xm nm ym, .slice xw nw yw, .slice xe ne ye, .slice xo no yo, .slice xn nn yn] 27 (0, 0))) /\ Hid (Tch (fun k => k = w.heap.size + 1) W5 W) := by
  obtain ⟨g1, g2⟩ := set9 (.int .i64 br) (.int .i64 ni) (.int .i64 ns) (.int .i64 tx) (.slice xm nm ym) (.slice xw nw yw) (.slice xe ne ye) (.slice xo no yo) (.slice xn nn yn) B5.out.2
  exact ⟨_, rfl, g1, g2⟩
 rw [hW6]
 clear hW6 fz q0 z0 q1 z1 q2 z2 q3 z3 q4 z4 q5 z5 q6 z6 q7 z7 q8 z8
 have kk := fun j => blk_cell B6.out j
 have q0 : W6.cell? ⟨w.heap.size + 1, 0, none⟩ = some (.int .i64 br) := by rw [kk]; rfl
 have q1 : W6.cell? ⟨w.heap.size + 1, 1, none⟩ = some (.int .i64 ni) := by rw [kk]; rfl
 have q2 : W6.cell? ⟨w.heap.size + 1, 2, none⟩ = some (.int .i64 ns) := by rw [kk]; rfl
 have q3 : W6.cell? ⟨w.heap.size + 1, 3, none⟩ = some (.int .i64 tx) := by rw [kk]; rfl
 have q4 : W6.cell? ⟨w.heap.size + 1, 4, none⟩ = some (.slice xm nm ym) := by rw [kk]; rfl
 have q5 : W6.cell? ⟨w.heap.size + 1, 5, none⟩ = some (.slice xw nw yw) := by rw [kk]; rfl
 have q6 : W6.cell? ⟨w.heap.size + 1, 6, none⟩ = some (.slice xe ne ye) := by rw [kk]; rfl
 have q7 : W6.cell? ⟨w.heap.size + 1, 7, none⟩ = some (.slice xo no yo) := by rw [kk]; rfl
 have q8 : W6.cell? ⟨w.heap.size + 1, 8, none⟩ = some (.slice xn nn yn) := by rw [kk]; rfl
 clear kk
 refine bodyPost_ret (v := .agg #[.int .i64 br, .int .i64 ni, .int .i64 ns, .int .i64 tx, .slice xm nm ym, .slice xw nw yw, .slice xe ne ye, .slice xo no yo, .slice xn nn yn]) (by simp [results, Tryz.results21, go_sem, q0, q1, q2, q3, q4, q5, q6, q7, q8]) rfl ?_
 have tt : Tch No w W6 := T5.out.fresh T6.out (fun i e => by omega)
 exact ⟨_, _, _, _, _, _, _, _, _, _, rfl, tt,
  ⟨own_tch P1_5.out.1.1 T6.out (fun k hk e => by have := P1_5.out.2 k hk; omega), fun b hb => by have := P1_5.out.2 b hb; omega⟩,
  ⟨own_tch P3_5.out.1.1 T6.out (fun k hk e => by have := P3_5.out.2 k hk; omega), fun b hb => by have := P3_5.out.2 b hb; omega⟩,
  ⟨own_tch P2_5.out.1.1 T6.out (fun k hk e => by have := P2_5.out.2 k hk; omega), fun b hb => by have := P2_5.out.2 b hb; omega⟩,
  ⟨own_tch P4_5.out.1.1 T6.out (fun k hk e => by have := P4_5.out.2 k hk; omega), fun b hb => by have := P4_5.out.2 b hb; omega⟩,
  ⟨own_tch O5.out.1.1 T6.out (fun k hk e => by have := O5.out.2 k hk; omega), fun b hb => by have := O5.out.2 b hb; omega⟩, AP5.out⟩
end
end Go.Proofs.YtelaljoebdpicaaGreat
