/- Part 21 of what the proof of OrderCounts rests on. No condition. -/
import Derived.Test.YtelaljoebdpicaaGreatPOrderCounts18
import Derived.Test.YtelaljoebdpicaaGreatPOrderCounts20
namespace Go.Proofs.YtelaljoebdpicaaGreat
set_option maxRecDepth 100000
set_option maxHeartbeats 60000000
set_option linter.unusedVariables false
set_option linter.unusedSimpArgs false
set_option linter.unusedSectionVars false
section
open Go.RowKit Go.Maps
theorem w_callv {o : Oper} {f : FuncId} {F : Func} (hF : Tryz.prog.funcs[f]? = some F) (hn : (F.name == "runtime.NumGoroutine") = false) (hb : F.body.isNone = false) {a : Act} {w : World} {K : Act -> World -> Prop} {Q : Exit -> Act -> World -> Prop} (g : Operand) (xs : List Operand) (ts : Array TypeId)
  (ho : o.op = .call { callee := .value g, args := xs.toArray, argTypes := ts }) (hg : a.eval g = .func (.func f) #[] #[]) (us : List Value) (hxs : xs.map a.eval = us) {R : Ending -> World -> Prop} (hc : Calls Tryz.prog f us.toArray w R) (hR : ∀ e w', R e w' -> ∃ v, e = .returned v /\ K (a.put o.dst v) w') :
  Oper.wp Tryz.prog o a w K Q := by
 unfold Oper.wp execOp
 have hp : program.run Tryz.prog w = .ok Tryz.prog w := rfl
 simp only [ho, resolve, invoke, Sem.run_bind, Sem.run_pure, Result.andThen_ok, List.map_toArray, hxs, hg, Deferred.ofValue, callFunc, Array.append_empty, hp, hF, hn, hb, Bool.false_eq_true, if_false, Oper.upon_enter, Array.empty_append]
 with_reducible refine hc.mono ?_
 intro e w' hr
 obtain ⟨v, rfl, hk⟩ := hR e w' hr
 exact hk
theorem set6e {W : World} {b : Nat} {T : TypeId} {c0 c1 c2 c3 c4 c5 : Value} (v0 v1 v2 v3 v4 v5 : Value) (h : W.heap[b]? = some (.cells #[c0, c1, c2, c3, c4, c5] T (0, 0))) :
  ((((((W.setCell ⟨b, 0, none⟩ v0).setCell ⟨b, 1, none⟩ v1).setCell ⟨b, 2, none⟩ v2).setCell ⟨b, 3, none⟩ v3).setCell ⟨b, 4, none⟩ v4).setCell ⟨b, 5, none⟩ v5).heap[b]? = some (.cells #[v0, v1, v2, v3, v4, v5] T (0, 0)) /\ Tch (fun k => k = b) W ((((((W.setCell ⟨b, 0, none⟩ v0).setCell ⟨b, 1, none⟩ v1).setCell ⟨b, 2, none⟩ v2).setCell ⟨b, 3, none⟩ v3).setCell ⟨b, 4, none⟩ v4).setCell ⟨b, 5, none⟩ v5) :=
 ⟨by simpa using blk_set (blk_set (blk_set (blk_set (blk_set (blk_set h 0 v0) 1 v1) 2 v2) 3 v3) 4 v4) 5 v5, Tch.setCells (F := fun k => k = b) (b := b) rfl [v0, v1, v2, v3, v4, v5] 0 W⟩
theorem kx6 {W : World} {b : Nat} {T : TypeId} {c0 c1 c2 c3 c4 c5 : Value} (v0 v1 v2 v3 v4 v5 : Value) (h : W.heap[b]? = some (.cells #[c0, c1, c2, c3, c4, c5] T (0, 0))) : ∃ X, (((((W.setCell ⟨b, 0, none⟩ v0).setCell ⟨b, 1, none⟩ v1).setCell ⟨b, 2, none⟩ v2).setCell ⟨b, 3, none⟩ v3).setCell ⟨b, 4, none⟩ v4).setCell ⟨b, 5, none⟩ v5 = X /\ Hid (X.heap[b]? = some (.cells #[v0, v1, v2, v3, v4, v5] T (0, 0))) /\ Hid (Tch (fun k => k = b) W X) := ⟨_, rfl, set6e v0 v1 v2 v3 v4 v5 h⟩
theorem minfunc_any (y : MsgM) (r l : List MsgM) (hlr : l = y :: r) (hn : l.length <= 10000000) (hs : strictB (l.map (·.seq)) = true) (v : Value) (w : World) (h : IsMsgs w v l) :
  Calls Tryz.prog 89 #[v, .func (.func 90) #[] #[]] w fun e w' => e = .returned (.agg #[.int .i64 y.id, strV y.q, strV y.b, .int .i64 y.seq, .int .i64 y.cnt, .int .i64 y.who]) /\ Tch No w w' := by
 have hl : 0 < l.length := by rw [hlr]; simp
 have hel := fun i (hi : i < l.length) => CellsAt.elem (enc := encMsg) (m := 6) (fun _ => rfl) h hi
 obtain ⟨b, o, c, rfl, hc0⟩ := hel 0 hl
 have HEL : Hid (∀ i (hi : i < l.length), ∀ k x, k < 6 -> (encMsg l[i])[k]? = some x -> w.cell? ⟨b, o + i * 6 + k, none⟩ = some x) := fun i hi k x hk hx => by
  obtain ⟨b', o', c', e, h2⟩ := hel i hi
  injection e with e1 _ _
  injection e1 with e1
  injection e1 with e1 e2
  subst e1; subst e2
  rw [Nat.add_assoc]; exact h2 k x hk hx
 obtain ⟨n, hnn⟩ : ∃ n, l.length = n := ⟨_, rfl⟩
 have HN := Lib.hid hnn
 have HS := Lib.hid hs
 have hy : l[0]'hl = y := by subst hlr; rfl
 have CV : Hid (∀ i (hi : i < l.length), 0 < i -> y.seq < l[i].seq) := fun i hi h0 => by
  have := strictB_get hs (i := 0) (j := i) h0 (by simpa using hi)
  simp only [List.getElem_map] at this
  rw [<- hy]
  exact this
 have g : ∀ k x, k < 6 -> (encMsg y)[k]? = some x -> w.cell? ⟨b, o + 0 * 6 + k, none⟩ = some x := by rw [<- hy]; exact HEL.out 0 hl
 obtain ⟨m0, t1, t2, m3, m4, m5⟩ := y
 simp only [strV]
 obtain ⟨m1, hm1⟩ : ∃ x : ByteArray, (⟨t1.toArray⟩ : ByteArray) = x := ⟨_, rfl⟩
 obtain ⟨m2, hm2⟩ : ∃ x : ByteArray, (⟨t2.toArray⟩ : ByteArray) = x := ⟨_, rfl⟩
 have HM12 : Hid ((⟨t1.toArray⟩ : ByteArray) = m1 /\ (⟨t2.toArray⟩ : ByteArray) = m2) := ⟨hm1, hm2⟩
 have e0 : w.cell? ⟨b, o, none⟩ = some (.int .i64 m0) := by simpa using g 0 _ (by decide) rfl
 have e1 : w.cell? ⟨b, o + 1, none⟩ = some (.string m1) := by rw [<- hm1]; simpa [strV] using g 1 _ (by decide) rfl
 have e2 : w.cell? ⟨b, o + 2, none⟩ = some (.string m2) := by rw [<- hm2]; simpa [strV] using g 2 _ (by decide) rfl
 have e3 : w.cell? ⟨b, o + 3, none⟩ = some (.int .i64 m3) := by simpa using g 3 _ (by decide) rfl
 have e4 : w.cell? ⟨b, o + 4, none⟩ = some (.int .i64 m4) := by simpa using g 4 _ (by decide) rfl
 have e5 : w.cell? ⟨b, o + 5, none⟩ = some (.int .i64 m5) := by simpa using g 5 _ (by decide) rfl
 rw [hm1, hm2]
 rw [hnn] at hn hl
 have a0 := cal e0; have a1 := cal e1; have a2 := cal e2; have a3 := cal e3; have a4 := cal e4; have a5 := cal e5
 have hn1 : ¬ ((n : Int) < 1) := by omega
 rw [hnn]
 obtain ⟨rb, hrb⟩ : ∃ x, w.heap.size = x := ⟨_, rfl⟩
 obtain ⟨mb, hmb⟩ : ∃ x, rb + 1 = x := ⟨_, rfl⟩
 obtain ⟨w1, hw1⟩ : ∃ x, (w.alloc (.cells #[.int .i64 0, .string ⟨#[]⟩, .string ⟨#[]⟩, .int .i64 0, .int .i64 0, .int .i64 0] 50)).alloc (.cells #[.int .i64 m0, .string m1, .string m2, .int .i64 m3, .int .i64 m4, .int .i64 m5] 50) = x := ⟨_, rfl⟩
 have HR1 : Hid (w1.heap[rb]? = some (.cells #[.int .i64 0, .string ⟨#[]⟩, .string ⟨#[]⟩, .int .i64 0, .int .i64 0, .int .i64 0] 50 (0, 0))) := by rw [Hid, <- hw1, <- hrb]; exact blk_tch (Tch.alloc _ _) (blk_new w _) (fun h => h)
 have HM1 : Hid (w1.heap[mb]? = some (.cells #[.int .i64 m0, .string m1, .string m2, .int .i64 m3, .int .i64 m4, .int .i64 m5] 50 (0, 0))) := by
  have := blk_new (w.alloc (.cells #[.int .i64 0, .string ⟨#[]⟩, .string ⟨#[]⟩, .int .i64 0, .int .i64 0, .int .i64 0] 50)) (.cells #[.int .i64 m0, .string m1, .string m2, .int .i64 m3, .int .i64 m4, .int .i64 m5] 50)
  have e : (w.alloc (.cells #[.int .i64 0, .string ⟨#[]⟩, .string ⟨#[]⟩, .int .i64 0, .int .i64 0, .int .i64 0] 50)).heap.size = mb := by rw [<- hmb, <- hrb]; simp
  rw [e] at this
  rw [Hid, <- hw1]; exact this
 have TW1 : Hid (Tch No w w1) := by rw [Hid, <- hw1]; exact (Tch.alloc _ _).trans0 (Tch.alloc _ _)
 have HRB : Hid (w.heap.size <= rb) := by rw [Hid, hrb]; exact Nat.le_refl _
 clear hel hc0 h hs hy g hnn hm1 hm2 hlr
 go_enter Tryz.func89, Tryz.ntmps89
 go_wp2_with fail
 clear hrb hmb hw1 e0 e1 e2 e3 e4 e5 a0 a1 a2 a3 a4 a5
 go_loopg [6] n (fun kx s6 wr => ∃ i : Nat, s6 = .int .i64 i /\ 1 <= i /\ i <= n /\ n - i <= kx /\ Hid (Tch No w1 wr))
 case atStart => exact ⟨1, rfl, by omega, by omega, by omega, Tch.refl _ _⟩
 case round =>
  obtain ⟨i, rfl, hi1, hi2, hgk, TT⟩ := hrel
  by_cases hlt : i < n
  ·have hil : i < l.length := by have := HN.out; omega
   obtain ⟨x, hx⟩ : ∃ x, l[i] = x := ⟨_, rfl⟩
   have hlt3 := CV.out i hil (by omega)
   have g := HEL.out i hil
   rw [hx] at g hlt3
   have hx2 := next2_any x ⟨m0, t1, t2, m3, m4, m5⟩
   obtain ⟨x0, u1, u2, x3, x4, x5⟩ := x
   simp only at hx2 hlt3
   obtain ⟨x1, hx1⟩ : ∃ x : ByteArray, (⟨u1.toArray⟩ : ByteArray) = x := ⟨_, rfl⟩
   obtain ⟨x2, hx2'⟩ : ∃ x : ByteArray, (⟨u2.toArray⟩ : ByteArray) = x := ⟨_, rfl⟩
   rw [hx1, hx2', HM12.out.1, HM12.out.2] at hx2
   have hcz : cmpI x3 m3 = 1 := by unfold cmpI; rw [if_neg (by omega), if_pos hlt3]
   rw [hcz] at hx2
   have HCMP := Lib.hid hx2
   have TWr : Hid (Tch No w wr) := TW1.out.trans0 TT.out
   have HX0 : Hid (∀ W, Tch No wr W -> W.cell? ⟨b, o + i * 6, none⟩ = some (.int .i64 x0)) := fun W t => (TWr.out.trans0 t).cell (by exact g 0 _ (by decide) rfl) (fun h => h)
   have HX1 : Hid (∀ W, Tch No wr W -> W.cell? ⟨b, o + i * 6 + 1, none⟩ = some (.string x1)) := fun W t => (TWr.out.trans0 t).cell (by rw [<- hx1]; exact g 1 _ (by decide) rfl) (fun h => h)
   have HX2 : Hid (∀ W, Tch No wr W -> W.cell? ⟨b, o + i * 6 + 2, none⟩ = some (.string x2)) := fun W t => (TWr.out.trans0 t).cell (by rw [<- hx2']; exact g 2 _ (by decide) rfl) (fun h => h)
   have HX3 : Hid (∀ W, Tch No wr W -> W.cell? ⟨b, o + i * 6 + 3, none⟩ = some (.int .i64 x3)) := fun W t => (TWr.out.trans0 t).cell (by exact g 3 _ (by decide) rfl) (fun h => h)
   have HX4 : Hid (∀ W, Tch No wr W -> W.cell? ⟨b, o + i * 6 + 4, none⟩ = some (.int .i64 x4)) := fun W t => (TWr.out.trans0 t).cell (by exact g 4 _ (by decide) rfl) (fun h => h)
   have HX5 : Hid (∀ W, Tch No wr W -> W.cell? ⟨b, o + i * 6 + 5, none⟩ = some (.int .i64 x5)) := fun W t => (TWr.out.trans0 t).cell (by exact g 5 _ (by decide) rfl) (fun h => h)
   have HBM : Hid (∀ W, Tch No wr W -> BoxAt W mb [.int .i64 m0, .string m1, .string m2, .int .i64 m3, .int .i64 m4, .int .i64 m5]) := fun W t i x hx => by rw [blk_cell (blk_tch (TT.out.trans0 t) HM1.out (fun h => h))]; simpa using hx
   clear g hx hx1 hx2' hx2 hlt3 hcz
   go_upto_region 7 with fail
   refine frame_var 33 rfl (fun fr hfr hsz => ?_)
   have h0 : fr.eval (.tmp 0) = .slice (some ⟨b, o, none⟩) n c := by rw [hfr.out]; rfl
   have h1 : fr.eval (.tmp 1) = .func (.func 90) #[] #[] := by rw [hfr.out]; rfl
   have h5 : fr.eval (.tmp 5) = .pointer (some ⟨mb, 0, none⟩) := by rw [hfr.out]; rfl
   have h6 : fr.eval (.tmp 6) = .int .i64 ((i : Nat) : Int) := by rw [hfr.out]; rfl
   obtain ⟨p27, hp27⟩ : ∃ b : Bool, (decide (1 < (0))) = b := ⟨_, rfl⟩
   have HP27 := Lib.hid hp27
   clear hp27
   have hlist : ∀ f ∈ ([(fun x _ => x = .func (.func 90) #[] #[]), (fun x _ => x = .slice (some ⟨b, o, none⟩) n c), (fun x _ => x = .int .i64 ((i : Nat) : Int)), (fun x _ => x = .pointer (some ⟨b, o + i * 6, none⟩)), (fun x _ => x = .agg #[.int .i64 x0, .string x1, .string x2, .int .i64 x3, .int .i64 x4, .int .i64 x5]), (fun x _ => x = .agg #[.int .i64 m0, .string m1, .string m2, .int .i64 m3, .int .i64 m4, .int .i64 m5]), (fun x _ => x = .int .i64 1), (fun x _ => x = .bool p27)] : List (Value -> World -> Prop)), Stb f :=
    all_mem1 ((pur_eq _).stb) (all_mem1 ((pur_eq _).stb) (all_mem1 ((pur_eq _).stb) (all_mem1 ((pur_eq _).stb) (all_mem1 ((pur_eq _).stb) (all_mem1 ((pur_eq _).stb) (all_mem1 ((pur_eq _).stb) (all_mem1 ((pur_eq _).stb) (all_mem0))))))))
   refine wp_region_inv (C := fun W => Tch No wr W) (RL [(fun x _ => x = .func (.func 90) #[] #[]), (fun x _ => x = .slice (some ⟨b, o, none⟩) n c), (fun x _ => x = .int .i64 ((i : Nat) : Int)), (fun x _ => x = .pointer (some ⟨b, o + i * 6, none⟩)), (fun x _ => x = .agg #[.int .i64 x0, .string x1, .string x2, .int .i64 x3, .int .i64 x4, .int .i64 x5]), (fun x _ => x = .agg #[.int .i64 m0, .string m1, .string m2, .int .i64 m3, .int .i64 m4, .int .i64 m5]), (fun x _ => x = .int .i64 1), (fun x _ => x = .bool p27)]) [] [20, 21, 22, 23, 24, 25, 26, 27] [(some 20, [1], []), (some 21, [0], []), (some 22, [6], []), (some 23, [21, 22], [1, 2]), (some 24, [23], [3]), (some 25, [5], []), (some 26, [20, 24, 25], [0, 4, 5]), (some 27, [26], [6])] (fun i => ([[], [], [], [1, 2], [1, 2, 3], [], [0, 1, 2, 3, 4, 5], [0, 1, 2, 3, 4, 5, 6]][i]?).getD []) (fun i => ([[], [], [], [1, 2], [3], [], [0, 4, 5], [6]][i]?).getD []) (fun _ => []) (fun _ => []) (by kernel_rfl) (by kernel_rfl) (by kernel_rfl) (by rw [hsz]; kernel_rfl) ?_ (rl_pur ?_) ?_ ?_
   ·exact Tch.drew _
   ·show ∀ j, j < 8 -> _ ∨ _
    refine all_lt1 (all_lt1 (all_lt1 (all_lt1 (all_lt1 (all_lt1 (all_lt1 (all_lt1 (all_lt0) (Or.inr (pur_eq _))) (Or.inr (pur_eq _))) (Or.inr (pur_eq _))) (Or.inr (pur_eq _))) (Or.inr (pur_eq _))) (Or.inr (pur_eq _))) (Or.inr (pur_eq _))) (Or.inr (pur_eq _))
   ·show ∀ i, i < 8 -> _
    refine all_lt1 (all_lt1 (all_lt1 (all_lt1 (all_lt1 (all_lt1 (all_lt1 (all_lt1 (all_lt0) ?c0) ?c1) ?c2) ?c3) ?c4) ?c5) ?c6) ?c7
    case c0 =>
     exact iq (d := 20) (.func (.func 90) #[] #[]) rfl (fun _ _ => rfl) (fun a W hf hC hn => y_move (ρ := a.eval) (.tmp 1) rfl (hf.ev (by kernel_rfl) h1) W)
    case c1 =>
     exact iq (d := 21) (.slice (some ⟨b, o, none⟩) n c) rfl (fun _ _ => rfl) (fun a W hf hC hn => y_move (ρ := a.eval) (.tmp 0) rfl (hf.ev (by kernel_rfl) h0) W)
    case c2 =>
     exact iq (d := 22) (.int .i64 ((i : Nat) : Int)) rfl (fun _ _ => rfl) (fun a W hf hC hn => y_move (ρ := a.eval) (.tmp 6) rfl (hf.ev (by kernel_rfl) h6) W)
    case c3 =>
     exact iq (d := 23) (.pointer (some ⟨b, o + i * 6, none⟩)) rfl (fun _ _ => rfl) (fun a W hf hC hn => y_ixMessage (ρ := a.eval) (.tmp 21) (.tmp 22) (b := b) (off := o) (n := n) (c := c) (k := i) rfl (hn 1 (by decide)) (hn 2 (by decide)) (by omega) W)
    case c4 =>
     exact iq (d := 24) (.agg #[.int .i64 x0, .string x1, .string x2, .int .i64 x3, .int .i64 x4, .int .i64 x5]) rfl (fun _ _ => rfl) (fun a W hf hC hn => y_ldMessage (ρ := a.eval) (.tmp 23) (b := b) (off := o + i * 6) rfl (hn 3 (by decide)) W (HX0.out W hC) (HX1.out W hC) (HX2.out W hC) (HX3.out W hC) (HX4.out W hC) (HX5.out W hC))
    case c5 =>
     exact iq (d := 25) (.agg #[.int .i64 m0, .string m1, .string m2, .int .i64 m3, .int .i64 m4, .int .i64 m5]) rfl (fun _ _ => rfl) (fun a W hf hC hn => y_ldMessage (ρ := a.eval) (.tmp 5) (b := mb) (off := 0) rfl (hf.ev (by kernel_rfl) h5) W (HBM.out W hC 0 _ rfl) (HBM.out W hC 1 _ rfl) (HBM.out W hC 2 _ rfl) (HBM.out W hC 3 _ rfl) (HBM.out W hC 4 _ rfl) (HBM.out W hC 5 _ rfl))
    case c6 =>
     refine istep_w ⟨some 26, _, _, _, _, none⟩ rfl (fun a w' hf hC hn => (iwanted_no rfl)) (fun a W hf hC hn K hK => ?_)
     refine w_callv Tryz.func90 (by kernel_rfl) (by kernel_rfl) (.tmp 20) [.tmp 24, .tmp 25] _ rfl (hn 0 (by decide)) [.agg #[.int .i64 x0, .string x1, .string x2, .int .i64 x3, .int .i64 x4, .int .i64 x5], .agg #[.int .i64 m0, .string m1, .string m2, .int .i64 m3, .int .i64 m4, .int .i64 m5]] (map2 (hn 4 (by decide)) (hn 5 (by decide))) (HCMP.out W) (fun e w' h => ?_)
     obtain ⟨rfl, hT⟩ := h
     exact ⟨_, rfl, hK _ _ (hC.trans0 hT) rfl (fun j _ _ _ _ x h => rl_stb hlist j x _ _ hT h)⟩
    case c7 =>
     exact iq (d := 27) (.bool p27) rfl (fun _ _ => rfl) (fun a W hf hC hn => (by rw [<- HP27.out]; exact y_lss_int (ρ := a.eval) (.tmp 26) (.const (.int .i64 (0))) (x := 1) (y := (0)) rfl (hn 6 (by decide)) rfl W))
   ·intro af wf hf hC hR
    obtain ⟨vs, hl, rfl⟩ := hf
    have hl : vs.length = 8 := hl
    obtain ⟨u0, vs0, hv0, hl⟩ := vs_cons hl
    obtain ⟨u1, vs1, hv1, hl⟩ := vs_cons hl
    obtain ⟨u2, vs2, hv2, hl⟩ := vs_cons hl
    obtain ⟨u3, vs3, hv3, hl⟩ := vs_cons hl
    obtain ⟨u4, vs4, hv4, hl⟩ := vs_cons hl
    obtain ⟨u5, vs5, hv5, hl⟩ := vs_cons hl
    obtain ⟨u6, vs6, hv6, hl⟩ := vs_cons hl
    obtain ⟨u7, vs7, hv7, hl⟩ := vs_cons hl
    have hvn := vs_nil hl
    subst hvn
    subst hv7
    subst hv6
    subst hv5
    subst hv4
    subst hv3
    subst hv2
    subst hv1
    subst hv0
    have r7 : u7 = .bool p27 := by
     have e : (putAll fr [20, 21, 22, 23, 24, 25, 26, 27] [u0, u1, u2, u3, u4, u5, u6, u7]).eval (.tmp 27) = u7 := putAll_get 7 (by decide) rfl rfl rfl (by rw [hsz]; decide)
     have h : (fun x _ => x = .bool p27) ((putAll fr [20, 21, 22, 23, 24, 25, 26, 27] [u0, u1, u2, u3, u4, u5, u6, u7]).eval (.tmp 27)) wf := hR 7 (by decide) (by decide)
     rw [e] at h
     exact h
    have hfr2 := hfr.out
    subst hfr2
    simp only [putAll, Act.put, List.setIfInBounds_toArray, List.set_cons_succ, List.set_cons_zero]
    have hp : p27 = false := by rw [<- HP27.out]; rfl
    subst hp
    subst r7
    have TF : Hid (Tch No wr wf) := hC
    clear hR hlist hC hsz
    go_wp2_with fail
    go_roundg (n - (i + 1))
    case measure => omega
    case rel => exact ⟨i + 1, by go_num, by omega, by omega, by omega, TT.out.trans0 TF.out⟩
  ·obtain rfl : i = n := by omega
   have HBw := Lib.hid (blk_tch TT.out HM1.out (fun h => h))
   have HRw := Lib.hid (blk_tch TT.out HR1.out (fun h => h))
   obtain ⟨wz, hwz, HRZ, TZ⟩ := kx6 (W := wr) (b := rb) (T := 50) (.int .i64 m0) (.string m1) (.string m2) (.int .i64 m3) (.int .i64 m4) (.int .i64 m5) HRw.out
   obtain ⟨l0, l1, l2, l3, l4, l5⟩ := kc6 HBw.out
   have r0 : wr.cell? ⟨rb, 0, none⟩ = some (.int .i64 0) := (blk_cell HRw.out 0).trans rfl
   have fr0 := blk_free HRw.out 0
   have r1 : wr.cell? ⟨rb, 1, none⟩ = some (.string ⟨#[]⟩) := (blk_cell HRw.out 1).trans rfl
   have fr1 := blk_free HRw.out 1
   have r2 : wr.cell? ⟨rb, 2, none⟩ = some (.string ⟨#[]⟩) := (blk_cell HRw.out 2).trans rfl
   have fr2 := blk_free HRw.out 2
   have r3 : wr.cell? ⟨rb, 3, none⟩ = some (.int .i64 0) := (blk_cell HRw.out 3).trans rfl
   have fr3 := blk_free HRw.out 3
   have r4 : wr.cell? ⟨rb, 4, none⟩ = some (.int .i64 0) := (blk_cell HRw.out 4).trans rfl
   have fr4 := blk_free HRw.out 4
   have r5 : wr.cell? ⟨rb, 5, none⟩ = some (.int .i64 0) := (blk_cell HRw.out 5).trans rfl
   have fr5 := blk_free HRw.out 5
   go_wp2_with fail
   obtain ⟨q0, q1, q2, q3, q4, q5⟩ := kc6 HRZ.out
   refine bodyPost_ret (v := .agg #[.int .i64 m0, .string m1, .string m2, .int .i64 m3, .int .i64 m4, .int .i64 m5]) (by simp [results, Tryz.results89, go_sem, q0, q1, q2, q3, q4, q5]) rfl ?_
   refine ⟨?_, (TW1.out.trans0 TT.out).fresh TZ.out (fun q h => by rw [h]; exact HRB.out)⟩
   rw [<- HM12.out.1, <- HM12.out.2]
end
end Go.Proofs.YtelaljoebdpicaaGreat
