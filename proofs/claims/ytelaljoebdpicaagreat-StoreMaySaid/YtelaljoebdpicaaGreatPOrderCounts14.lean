/- Part 14 of what the proof of OrderCounts rests on. No condition. -/
import Derived.Test.YtelaljoebdpicaaGreatPOrderCounts11
import Derived.Test.YtelaljoebdpicaaGreatPOrderCounts13
namespace Go.Proofs.YtelaljoebdpicaaGreat
set_option maxRecDepth 100000
set_option maxHeartbeats 60000000
set_option linter.unusedVariables false
set_option linter.unusedSimpArgs false
set_option linter.unusedSectionVars false
section
open Go.RowKit Go.Maps
def gv (G : Bool) (v : Value) : Value := match G with | true => v | false => undef
theorem gv_of {G : Bool} {x v : Value} (h : x = gv G v) (hG : G = true) : x = v := by subst hG; exact h
theorem gand {G b w : Bool} (hG : G = true) (h : b = w) : (G && (b == w)) = true := by subst hG; subst h; simp
theorem geqb {b w : Bool} (h : b = w) : (b == w) = true := by subst h; simp
theorem and_r {G b w : Bool} (h : (G && (b == w)) = true) : b = w := by cases G <;> simp_all
section
variable {ops : Array Oper} {Q : Exit -> Act -> World -> Prop} {a0 : Act} {ds : List Nat} {C : World -> Prop} {R : Nat -> Value -> World -> Prop} {wd : List Nat} {need kill later : Nat -> List Nat}
theorem iwanted_iff {o oj : Oper} {j d : Nat} {want b : Bool} {a : Act} (hg : o.guard = some (j, want)) (hj : ops[j]? = some oj) (hd : oj.dst = some d) (he : a.eval (.tmp d) = .bool b) : Region.wanted o (yielded ops a.tmps) = (b == want) := by
 have h1 : a.tmps[d]? = some (.bool b) := by
  simp only [Act.eval] at he
  rcases Nat.lt_or_ge d a.tmps.size with h | h
  ·rw [Array.getElem?_eq_getElem h]
   simp [Array.getD, h] at he
   rw [he]
  ·simp [Array.getD, Nat.not_lt.2 h, undef] at he
 cases b <;> cases want <;> simp [Region.wanted, hg, yielded, hj, hd, h1]
theorem iwanted_undef {o oj : Oper} {j d : Nat} {want : Bool} {a : Act} (hg : o.guard = some (j, want)) (hj : ops[j]? = some oj) (hd : oj.dst = some d) (he : a.eval (.tmp d) = undef) : Region.wanted o (yielded ops a.tmps) = false := by
 have h1 : a.tmps[d]? = none ∨ a.tmps[d]? = some undef := by
  simp only [Act.eval] at he
  rcases Nat.lt_or_ge d a.tmps.size with h | h
  ·rw [Array.getElem?_eq_getElem h]
   simp [Array.getD, h] at he
   rw [he]; exact .inr rfl
  ·exact .inl (Array.getElem?_eq_none h)
 rcases h1 with h1 | h1 <;> simp [Region.wanted, hg, yielded, hj, hd, h1, undef]
theorem iwanted_g {o oj : Oper} {j d : Nat} {want b Gj : Bool} {a : Act} (hg : o.guard = some (j, want)) (hj : ops[j]? = some oj) (hd : oj.dst = some d) (he : a.eval (.tmp d) = gv Gj (.bool b)) : Region.wanted o (yielded ops a.tmps) = (Gj && (b == want)) := by
 cases Gj with
 | true => rw [iwanted_iff hg hj hd he]; rfl
 | false => rw [iwanted_undef hg hj hd he]; rfl
theorem istep_g {i d j dj : Nat} (Gj b want : Bool) (v : Value) (o oj : Oper) (ho : ops[i]? = some o) (hd : o.dst = some d) (hg : o.guard = some (j, want)) (hj : ops[j]? = some oj) (hdj : oj.dst = some dj)
  (hs : ∀ a w, Fr a0 ds a -> C w -> (∀ k ∈ need i, R k (slotV ops a k) w) -> a.eval (.tmp dj) = gv Gj (.bool b)) (hR : ∀ w, C w -> R i (gv (Gj && (b == want)) v) w)
  (h : ∀ a w, Fr a0 ds a -> C w -> (∀ k ∈ need i, R k (slotV ops a k) w) -> (Gj && (b == want)) = true -> Runs Tryz.prog a.eval o w v w) : IStep Tryz.prog ops Q a0 ds C R wd need kill later i := by
 refine istep_of o ho (fun a w hf hC hn K hK => ?_)
 rw [iwanted_g hg hj hdj (hs a w hf hC hn)]
 cases hG : (Gj && (b == want)) with
 | true =>
  rw [if_pos rfl]
  unfold Oper.wp
  rw [(h a w hf hC hn hG).out]
  exact hK v w hC (by rw [hd]; have := hR w hC; rw [hG] at this; exact this) (fun j _ _ _ _ x h => h)
 | false =>
  rw [if_neg (by simp)]
  exact hK undef w hC (by rw [hd]; have := hR w hC; rw [hG] at this; exact this) (fun j _ _ _ _ x h => h)
theorem istep_g0 {i d j dj : Nat} (b want : Bool) (v : Value) (o oj : Oper) (ho : ops[i]? = some o) (hd : o.dst = some d) (hg : o.guard = some (j, want)) (hj : ops[j]? = some oj) (hdj : oj.dst = some dj)
  (hs : ∀ a w, Fr a0 ds a -> C w -> (∀ k ∈ need i, R k (slotV ops a k) w) -> a.eval (.tmp dj) = .bool b) (hR : ∀ w, C w -> R i (gv (b == want) v) w)
  (h : ∀ a w, Fr a0 ds a -> C w -> (∀ k ∈ need i, R k (slotV ops a k) w) -> (b == want) = true -> Runs Tryz.prog a.eval o w v w) : IStep Tryz.prog ops Q a0 ds C R wd need kill later i :=
 istep_g true b want v o oj ho hd hg hj hdj hs (fun w hC => by rw [Bool.true_and]; exact hR w hC) (fun a w hf hC hn hG => h a w hf hC hn (by rwa [Bool.true_and] at hG))
theorem map1 {a : Act} {x : Operand} {u : Value} (h : a.eval x = u) : [x].map a.eval = [u] := by simp [h]
theorem map2 {a : Act} {x y : Operand} {u v : Value} (h : a.eval x = u) (k : a.eval y = v) : [x, y].map a.eval = [u, v] := by simp [h, k]
theorem wp_callv {f : FuncId} {F : Func} (hF : Tryz.prog.funcs[f]? = some F) (hn : (F.name == "runtime.NumGoroutine") = false) (hb : F.body.isNone = false) {o : Oper} {a : Act} {w : World} {K : Act -> World -> Prop} (xs : List Operand) (ts : Array TypeId)
  (ho : o.op = .call { callee := .value (.func f), args := xs.toArray, argTypes := ts }) (us : List Value) (hxs : xs.map a.eval = us) (v : Value) (hc : Calls Tryz.prog f us.toArray w fun e w' => e = .returned v /\ Tch No w w') (hK : ∀ w', Tch No w w' -> K (a.put o.dst v) w') :
  Oper.wp Tryz.prog o a w K Q := by
 refine w_call hF hn hb xs ts ho us hxs hc ?_
 rintro e w' ⟨rfl, t⟩
 exact ⟨v, rfl, hK w' t⟩
theorem istep_c {i d : Nat} (v : Value) (o : Oper) (ho : ops[i]? = some o) (hd : o.dst = some d) (hw : ∀ a w, Fr a0 ds a -> C w -> (∀ k ∈ need i, R k (slotV ops a k) w) -> Region.wanted o (yielded ops a.tmps) = true)
  {f : FuncId} {F : Func} (hF : Tryz.prog.funcs[f]? = some F) (hn' : (F.name == "runtime.NumGoroutine") = false) (hb : F.body.isNone = false) (xs : List Operand) (ts : Array TypeId) (ho' : o.op = .call { callee := .value (.func f), args := xs.toArray, argTypes := ts }) (us : List Value)
  (hxs : ∀ a w, Fr a0 ds a -> C w -> (∀ k ∈ need i, R k (slotV ops a k) w) -> xs.map a.eval = us) (hc : ∀ w, C w -> Calls Tryz.prog f us.toArray w fun e w' => e = .returned v /\ Tch No w w') (hC' : ∀ w w', C w -> Tch No w w' -> C w') (hst : ∀ j, Stb (R j)) (hR : ∀ w, C w -> R i v w) :
  IStep Tryz.prog ops Q a0 ds C R wd need kill later i :=
 istep_w o ho hw (fun a w hf hC hn K hK => wp_callv hF hn' hb xs ts ho' us (hxs a w hf hC hn) v (hc w hC) (fun w' t => hK v w' (hC' w w' hC t) (by rw [hd]; exact hR w' (hC' w w' hC t)) (fun j _ _ _ _ x h => hst j x w w' t h)))
theorem istep_gc {i d j dj : Nat} (Gj b want : Bool) (v : Value) (o oj : Oper) (ho : ops[i]? = some o) (hd : o.dst = some d) (hg : o.guard = some (j, want)) (hj : ops[j]? = some oj) (hdj : oj.dst = some dj)
  (hs : ∀ a w, Fr a0 ds a -> C w -> (∀ k ∈ need i, R k (slotV ops a k) w) -> a.eval (.tmp dj) = gv Gj (.bool b))
  {f : FuncId} {F : Func} (hF : Tryz.prog.funcs[f]? = some F) (hn' : (F.name == "runtime.NumGoroutine") = false) (hb : F.body.isNone = false) (xs : List Operand) (ts : Array TypeId) (ho' : o.op = .call { callee := .value (.func f), args := xs.toArray, argTypes := ts }) (us : List Value)
  (hxs : ∀ a w, Fr a0 ds a -> C w -> (∀ k ∈ need i, R k (slotV ops a k) w) -> (Gj && (b == want)) = true -> xs.map a.eval = us) (hc : (Gj && (b == want)) = true -> ∀ w, C w -> Calls Tryz.prog f us.toArray w fun e w' => e = .returned v /\ Tch No w w') (hC' : ∀ w w', C w -> Tch No w w' -> C w') (hst : ∀ j, Stb (R j)) (hR : ∀ w, C w -> R i (gv (Gj && (b == want)) v) w) :
  IStep Tryz.prog ops Q a0 ds C R wd need kill later i := by
 refine istep_of o ho (fun a w hf hC hn K hK => ?_)
 rw [iwanted_g hg hj hdj (hs a w hf hC hn)]
 cases hG : (Gj && (b == want)) with
 | true =>
  rw [if_pos rfl]
  refine wp_callv hF hn' hb xs ts ho' us (hxs a w hf hC hn hG) v (hc hG w hC) (fun w' t => hK v w' (hC' w w' hC t) (by rw [hd]; have := hR w' (hC' w w' hC t); rw [hG] at this; exact this) (fun j _ _ _ _ x h => hst j x w w' t h))
 | false =>
  rw [if_neg (by simp)]
  exact hK undef w hC (by rw [hd]; have := hR w hC; rw [hG] at this; exact this) (fun j _ _ _ _ x h => h)
theorem istep_gc0 {i d j dj : Nat} (b want : Bool) (v : Value) (o oj : Oper) (ho : ops[i]? = some o) (hd : o.dst = some d) (hg : o.guard = some (j, want)) (hj : ops[j]? = some oj) (hdj : oj.dst = some dj)
  (hs : ∀ a w, Fr a0 ds a -> C w -> (∀ k ∈ need i, R k (slotV ops a k) w) -> a.eval (.tmp dj) = .bool b)
  {f : FuncId} {F : Func} (hF : Tryz.prog.funcs[f]? = some F) (hn' : (F.name == "runtime.NumGoroutine") = false) (hb : F.body.isNone = false) (xs : List Operand) (ts : Array TypeId) (ho' : o.op = .call { callee := .value (.func f), args := xs.toArray, argTypes := ts }) (us : List Value)
  (hxs : ∀ a w, Fr a0 ds a -> C w -> (∀ k ∈ need i, R k (slotV ops a k) w) -> (b == want) = true -> xs.map a.eval = us) (hc : (b == want) = true -> ∀ w, C w -> Calls Tryz.prog f us.toArray w fun e w' => e = .returned v /\ Tch No w w') (hC' : ∀ w w', C w -> Tch No w w' -> C w') (hst : ∀ j, Stb (R j)) (hR : ∀ w, C w -> R i (gv (b == want) v) w) :
  IStep Tryz.prog ops Q a0 ds C R wd need kill later i :=
 istep_gc true b want v o oj ho hd hg hj hdj hs hF hn' hb xs ts ho' us (fun a w hf hC hn hG => hxs a w hf hC hn (by rwa [Bool.true_and] at hG)) (fun hG => hc (by rwa [Bool.true_and] at hG)) hC' hst (fun w hC => by rw [Bool.true_and]; exact hR w hC)
end
variable {ρ : Operand -> Value} {o : Oper}
theorem y_por (x z : Operand) {c e : Bool} (ho : o.op = .pick x (.const (.bool true)) z) (hx : ρ x = .bool c) (hz : c = false -> ρ z = .bool e) (hk : ρ (.const (.bool true)) = .bool true) (W : World) : Runs Tryz.prog ρ o W (.bool (c || e)) W := by
 cases c with
 | true => exact y_pick x _ z ho hx (by rw [if_pos rfl, hk]; rfl) W
 | false => exact y_pick x _ z ho hx (by rw [if_neg (by simp), hz rfl]; rfl) W
theorem y_pand (x y : Operand) {c e : Bool} (ho : o.op = .pick x y (.const (.bool false))) (hx : ρ x = .bool c) (hy : c = true -> ρ y = .bool e) (hk : ρ (.const (.bool false)) = .bool false) (W : World) : Runs Tryz.prog ρ o W (.bool (c && e)) W := by
 cases c with
 | true => exact y_pick x y _ ho hx (by rw [if_pos rfl, hy rfl]; rfl) W
 | false => exact y_pick x y _ ho hx (by rw [if_neg (by simp), hk]; rfl) W
end
section
open Go.RowKit Go.Maps
def atI {α : Type} (f : α -> Int) (l : List α) (t : Int) : Int := match atP f l t with | some i => (i : Int) | none => -1
theorem atP_hit {α : Type} {f : α -> Int} {l : List α} {t : Int} {k : Nat} (hk : k < l.length) (e : f l[k] = t) (h : ∀ i (hi : i < l.length), i < k -> f l[i] ≠ t) : atP f l t = some k := by
 unfold atP
 rw [List.findIdx?_eq_some_iff_getElem]
 exact ⟨hk, by simpa using e, fun j hj => by simpa using h j (by omega) hj⟩
theorem atP_miss {α : Type} {f : α -> Int} {l : List α} {t : Int} (h : ∀ i (hi : i < l.length), f l[i] ≠ t) : atP f l t = none := by
 unfold atP
 rw [List.findIdx?_eq_none_iff]
 intro x hx
 obtain ⟨i, hi, rfl⟩ := List.getElem_of_mem hx
 simpa using h i hi
theorem atI_hit {α : Type} {f : α -> Int} {l : List α} {t : Int} {k : Nat} (hk : k < l.length) (e : f l[k] = t) (h : ∀ i (hi : i < l.length), i < k -> f l[i] ≠ t) : atI f l t = (k : Int) := by
 unfold atI; rw [atP_hit hk e h]
theorem atI_miss {α : Type} {f : α -> Int} {l : List α} {t : Int} (h : ∀ i (hi : i < l.length), f l[i] ≠ t) : atI f l t = -1 := by
 unfold atI; rw [atP_miss h]
theorem atI_cases {α : Type} (f : α -> Int) (l : List α) (t : Int) : (hasP f l t = false /\ atI f l t = -1) ∨ ∃ k, ∃ h : k < l.length, atI f l t = (k : Int) /\ f l[k] = t /\ hasP f l t = true /\ ∀ i (hi : i < l.length), i < k -> f l[i] ≠ t := by
 unfold atI
 cases e : atP f l t with
 | none =>
  left
  unfold atP at e
  rw [List.findIdx?_eq_none_iff] at e
  refine ⟨?_, rfl⟩
  cases e2 : hasP f l t with
  | false => rfl
  | true =>
   obtain ⟨x, hx, e3⟩ := hasP_iff.1 e2
   have := e x hx
   simp [e3] at this
 | some k =>
  right
  unfold atP at e
  rw [List.findIdx?_eq_some_iff_getElem] at e
  obtain ⟨h, h1, h2⟩ := e
  exact ⟨k, h, rfl, by simpa using h1, hasP_iff.2 ⟨_, List.getElem_mem h, by simpa using h1⟩, fun i hi hk => by simpa using h2 i hk⟩
theorem atI_has {α : Type} (f : α -> Int) (l : List α) (t : Int) : decide (0 <= atI f l t) = hasP f l t := by
 rcases atI_cases f l t with ⟨h1, h2⟩ | ⟨k, _, h1, _, h2, _⟩
 ·rw [h1, h2]; rfl
 ·rw [h1, h2]; simp
theorem atI_lt {α : Type} (f : α -> Int) (l : List α) (t : Int) : decide (atI f l t < 0) = !hasP f l t := by
 rcases atI_cases f l t with ⟨h1, h2⟩ | ⟨k, _, h1, _, h2, _⟩
 ·rw [h1, h2]; rfl
 ·rw [h1, h2]; simp
theorem atI_pos {α : Type} {f : α -> Int} {l : List α} (hs : strictB (l.map f) = true) {t : Int} (h : hasP f l t = true) : atI f l t = (posP f l t : Nat) := by
 obtain ⟨hp, e⟩ := (hasP_pos hs t).1 h
 refine atI_hit hp e fun i hi hlt he => ?_
 have := strictB_get hs hlt (by simpa using hp)
 simp only [List.getElem_map] at this
 omega
theorem atms_any (s : StM) (t : Int) (v : Value) (w : World) (h : IsSt w v s) :
  Calls Tryz.prog 27 #[v, .int .i64 t] w fun e w' => e = .returned (.int .i64 (atI (·.id) s.ms t)) /\ Tch No w w' := by
 obtain ⟨am, cm, aw, cw, ae, ce, ao, co, an, cn, rfl, hms, hws, hes, hos, hns⟩ := h.shape
 have H := Lib.hid hms
 clear h
 obtain ⟨nm, hnm⟩ : ∃ n, s.ms.length = n := ⟨_, rfl⟩
 obtain ⟨nw, hnw⟩ : ∃ n, s.waits.length = n := ⟨_, rfl⟩
 obtain ⟨ne, hne⟩ : ∃ n, s.ends.length = n := ⟨_, rfl⟩
 obtain ⟨no, hno⟩ : ∃ n, s.opens.length = n := ⟨_, rfl⟩
 obtain ⟨nn, hnn⟩ : ∃ n, s.noes.length = n := ⟨_, rfl⟩
 rw [hnm, hnw, hne, hno, hnn]
 rw [hnm] at H
 have HM := Lib.hid hnm
 have hml : nm <= 9223372036854775807 := by
  obtain ⟨_, c, _, h1, h2⟩ := CellsAt.shape H.out
  unfold maxLen at h2; omega
 obtain ⟨l, hl⟩ : ∃ l, s.ms = l := ⟨_, rfl⟩
 rw [hl] at H HM ⊢
 clear hms hws hes hos hns hnm hnw hne hno hnn hl
 unfold stV
 go_enter Tryz.func27, Tryz.ntmps27
 go_wp2_with fail
 go_loopg [5] nm (fun kx s5 wr => ∃ k : Nat, s5 = .int .i64 k /\ k <= nm /\ nm - k <= kx /\ Hid (Tch No w wr) /\ Hid (BoxAt wr w.heap.size [.int .i64 s.broker, .int .i64 s.nid, .int .i64 s.nseq, .int .i64 s.tx, .slice am nm cm, .slice aw nw cw, .slice ae ne ce, .slice ao no co, .slice an nn cn]) /\ Hid (∀ i (hi : i < l.length), i < k -> (fun x : MsgM => x.id) l[i] ≠ t))
 case atStart => exact ⟨0, rfl, Nat.zero_le _, by omega, Tch.alloc _ _, BoxAt.made _ _ _, fun i _ h => absurd h (Nat.not_lt_zero _)⟩
 case round =>
  obtain ⟨k, rfl, hk, hg, TT, HB, I⟩ := hrel
  by_cases hlt : k < nm
  ·have hkl : k < l.length := by have := HM.out; omega
   have hb : ∃ b o, am = some ⟨b, o, none⟩ /\ wr.cell? ⟨b, o + k * 6, none⟩ = some (.int .i64 l[k].id) := by
    rcases msgs_cells H.out with ⟨_, h0⟩ | ⟨b, o, cap2, h1, _, _, _, h5⟩
    ·rw [h0] at hkl; simp at hkl
    ·rw [HM.out] at h1
     injection h1 with h1 _ _
     exact ⟨b, o, h1, TT.out.cell (h5 k hkl).1 (fun h => h)⟩
   obtain ⟨b, o, rfl, hc1⟩ := hb
   have c4 := HB.out 4 _ rfl
   obtain ⟨x, hx⟩ : ∃ x, (fun x : MsgM => x.id) l[k] = x := ⟨_, rfl⟩
   have hc2 : wr.cell? ⟨b, o + k * 6, none⟩ = some (.int .i64 x) := by rw [<- hx]; exact hc1
   have HX := Lib.hid hx
   clear hx hc1
   by_cases hxt : x = t
   ·have HC : Hid (atI (fun x : MsgM => x.id) l t = (k : Int)) := atI_hit hkl (HX.out.trans hxt) I.out
    have hd : (x == t) = true := by simpa using hxt
    clear hxt
    go_wp2_with fail
    go_ret
    exact ⟨ret_i HC.out.symm, TT.out⟩
   ·have hd : (x == t) = false := by simpa using hxt
    have HN : Hid (∀ i (hi : i < l.length), i < k + 1 -> (fun x : MsgM => x.id) l[i] ≠ t) := fun i h1 h2 => by
     by_cases e : i = k
     ·subst e; rw [HX.out]; exact hxt
     ·exact I.out i h1 (by omega)
    clear hxt
    go_wp2_with fail
    go_roundg (nm - (k + 1))
    case measure => omega
    case rel => exact ⟨k + 1, by go_num, by omega, by omega, TT.out, HB.out, HN⟩
  ·obtain rfl : nm = k := by omega
   have HC : Hid (atI (fun x : MsgM => x.id) l t = -1) := atI_miss (fun i hi => I.out i hi (by have := HM.out; omega))
   have c4 := HB.out 4 _ rfl
   clear hg hlt hk
   go_wp2_with fail
   go_ret
   exact ⟨ret_i HC.out.symm, TT.out⟩
theorem atwaits_any (s : StM) (t : Int) (v : Value) (w : World) (h : IsSt w v s) :
  Calls Tryz.prog 34 #[v, .int .i64 t] w fun e w' => e = .returned (.int .i64 (atI (·.tid) s.waits t)) /\ Tch No w w' := by
 obtain ⟨am, cm, aw, cw, ae, ce, ao, co, an, cn, rfl, hms, hws, hes, hos, hns⟩ := h.shape
 have H := Lib.hid hws
 clear h
 obtain ⟨nm, hnm⟩ : ∃ n, s.ms.length = n := ⟨_, rfl⟩
 obtain ⟨nw, hnw⟩ : ∃ n, s.waits.length = n := ⟨_, rfl⟩
 obtain ⟨ne, hne⟩ : ∃ n, s.ends.length = n := ⟨_, rfl⟩
 obtain ⟨no, hno⟩ : ∃ n, s.opens.length = n := ⟨_, rfl⟩
 obtain ⟨nn, hnn⟩ : ∃ n, s.noes.length = n := ⟨_, rfl⟩
 rw [hnm, hnw, hne, hno, hnn]
 rw [hnw] at H
 have HM := Lib.hid hnw
 have hml : nw <= 9223372036854775807 := by
  obtain ⟨_, c, _, h1, h2⟩ := IsBrs.shape H.out
  unfold maxLen at h2; omega
 obtain ⟨l, hl⟩ : ∃ l, s.waits = l := ⟨_, rfl⟩
 rw [hl] at H HM ⊢
 clear hms hws hes hos hns hnm hnw hne hno hnn hl
 unfold stV
 go_enter Tryz.func34, Tryz.ntmps34
 go_wp2_with fail
 go_loopg [5] nw (fun kx s5 wr => ∃ k : Nat, s5 = .int .i64 k /\ k <= nw /\ nw - k <= kx /\ Hid (Tch No w wr) /\ Hid (BoxAt wr w.heap.size [.int .i64 s.broker, .int .i64 s.nid, .int .i64 s.nseq, .int .i64 s.tx, .slice am nm cm, .slice aw nw cw, .slice ae ne ce, .slice ao no co, .slice an nn cn]) /\ Hid (∀ i (hi : i < l.length), i < k -> (fun x : BrM => x.tid) l[i] ≠ t))
 case atStart => exact ⟨0, rfl, Nat.zero_le _, by omega, Tch.alloc _ _, BoxAt.made _ _ _, fun i _ h => absurd h (Nat.not_lt_zero _)⟩
 case round =>
  obtain ⟨k, rfl, hk, hg, TT, HB, I⟩ := hrel
  by_cases hlt : k < nw
  ·have hkl : k < l.length := by have := HM.out; omega
   have hb : ∃ b o, aw = some ⟨b, o, none⟩ /\ wr.cell? ⟨b, o + k * 2, none⟩ = some (.int .i64 l[k].tid) := by
    rcases brs_cells H.out with ⟨_, h0⟩ | ⟨b, o, cap2, h1, _, _, _, h5⟩
    ·rw [h0] at hkl; simp at hkl
    ·rw [HM.out] at h1
     injection h1 with h1 _ _
     exact ⟨b, o, h1, TT.out.cell (h5 k hkl).1 (fun h => h)⟩
   obtain ⟨b, o, rfl, hc1⟩ := hb
   have c5 := HB.out 5 _ rfl
   obtain ⟨x, hx⟩ : ∃ x, (fun x : BrM => x.tid) l[k] = x := ⟨_, rfl⟩
   have hc2 : wr.cell? ⟨b, o + k * 2, none⟩ = some (.int .i64 x) := by rw [<- hx]; exact hc1
   have HX := Lib.hid hx
   clear hx hc1
   by_cases hxt : x = t
   ·have HC : Hid (atI (fun x : BrM => x.tid) l t = (k : Int)) := atI_hit hkl (HX.out.trans hxt) I.out
    have hd : (x == t) = true := by simpa using hxt
    clear hxt
    go_wp2_with fail
    go_ret
    exact ⟨ret_i HC.out.symm, TT.out⟩
   ·have hd : (x == t) = false := by simpa using hxt
    have HN : Hid (∀ i (hi : i < l.length), i < k + 1 -> (fun x : BrM => x.tid) l[i] ≠ t) := fun i h1 h2 => by
     by_cases e : i = k
     ·subst e; rw [HX.out]; exact hxt
     ·exact I.out i h1 (by omega)
    clear hxt
    go_wp2_with fail
    go_roundg (nw - (k + 1))
    case measure => omega
    case rel => exact ⟨k + 1, by go_num, by omega, by omega, TT.out, HB.out, HN⟩
  ·obtain rfl : nw = k := by omega
   have HC : Hid (atI (fun x : BrM => x.tid) l t = -1) := atI_miss (fun i hi => I.out i hi (by have := HM.out; omega))
   have c5 := HB.out 5 _ rfl
   clear hg hlt hk
   go_wp2_with fail
   go_ret
   exact ⟨ret_i HC.out.symm, TT.out⟩
theorem atends_any (s : StM) (t : Int) (v : Value) (w : World) (h : IsSt w v s) :
  Calls Tryz.prog 58 #[v, .int .i64 t] w fun e w' => e = .returned (.int .i64 (atI (·.tid) s.ends t)) /\ Tch No w w' := by
 obtain ⟨am, cm, aw, cw, ae, ce, ao, co, an, cn, rfl, hms, hws, hes, hos, hns⟩ := h.shape
 have H := Lib.hid hes
 clear h
 obtain ⟨nm, hnm⟩ : ∃ n, s.ms.length = n := ⟨_, rfl⟩
 obtain ⟨nw, hnw⟩ : ∃ n, s.waits.length = n := ⟨_, rfl⟩
 obtain ⟨ne, hne⟩ : ∃ n, s.ends.length = n := ⟨_, rfl⟩
 obtain ⟨no, hno⟩ : ∃ n, s.opens.length = n := ⟨_, rfl⟩
 obtain ⟨nn, hnn⟩ : ∃ n, s.noes.length = n := ⟨_, rfl⟩
 rw [hnm, hnw, hne, hno, hnn]
 rw [hne] at H
 have HM := Lib.hid hne
 have hml : ne <= 9223372036854775807 := by
  obtain ⟨_, c, _, h1, h2⟩ := CellsAt.shape H.out
  unfold maxLen at h2; omega
 obtain ⟨l, hl⟩ : ∃ l, s.ends = l := ⟨_, rfl⟩
 rw [hl] at H HM ⊢
 clear hms hws hes hos hns hnm hnw hne hno hnn hl
 unfold stV
 go_enter Tryz.func58, Tryz.ntmps58
 go_wp2_with fail
 go_loopg [5] ne (fun kx s5 wr => ∃ k : Nat, s5 = .int .i64 k /\ k <= ne /\ ne - k <= kx /\ Hid (Tch No w wr) /\ Hid (BoxAt wr w.heap.size [.int .i64 s.broker, .int .i64 s.nid, .int .i64 s.nseq, .int .i64 s.tx, .slice am nm cm, .slice aw nw cw, .slice ae ne ce, .slice ao no co, .slice an nn cn]) /\ Hid (∀ i (hi : i < l.length), i < k -> (fun x : EndM => x.tid) l[i] ≠ t))
 case atStart => exact ⟨0, rfl, Nat.zero_le _, by omega, Tch.alloc _ _, BoxAt.made _ _ _, fun i _ h => absurd h (Nat.not_lt_zero _)⟩
 case round =>
  obtain ⟨k, rfl, hk, hg, TT, HB, I⟩ := hrel
  by_cases hlt : k < ne
  ·have hkl : k < l.length := by have := HM.out; omega
   have hb : ∃ b o, ae = some ⟨b, o, none⟩ /\ wr.cell? ⟨b, o + k * 2, none⟩ = some (.int .i64 l[k].tid) := by
    rcases ends_cells H.out with ⟨_, h0⟩ | ⟨b, o, cap2, h1, _, _, _, h5⟩
    ·rw [h0] at hkl; simp at hkl
    ·rw [HM.out] at h1
     injection h1 with h1 _ _
     exact ⟨b, o, h1, TT.out.cell (h5 k hkl).1 (fun h => h)⟩
   obtain ⟨b, o, rfl, hc1⟩ := hb
   have c6 := HB.out 6 _ rfl
   obtain ⟨x, hx⟩ : ∃ x, (fun x : EndM => x.tid) l[k] = x := ⟨_, rfl⟩
   have hc2 : wr.cell? ⟨b, o + k * 2, none⟩ = some (.int .i64 x) := by rw [<- hx]; exact hc1
   have HX := Lib.hid hx
   clear hx hc1
   by_cases hxt : x = t
   ·have HC : Hid (atI (fun x : EndM => x.tid) l t = (k : Int)) := atI_hit hkl (HX.out.trans hxt) I.out
    have hd : (x == t) = true := by simpa using hxt
    clear hxt
    go_wp2_with fail
    go_ret
    exact ⟨ret_i HC.out.symm, TT.out⟩
   ·have hd : (x == t) = false := by simpa using hxt
    have HN : Hid (∀ i (hi : i < l.length), i < k + 1 -> (fun x : EndM => x.tid) l[i] ≠ t) := fun i h1 h2 => by
     by_cases e : i = k
     ·subst e; rw [HX.out]; exact hxt
     ·exact I.out i h1 (by omega)
    clear hxt
    go_wp2_with fail
    go_roundg (ne - (k + 1))
    case measure => omega
    case rel => exact ⟨k + 1, by go_num, by omega, by omega, TT.out, HB.out, HN⟩
  ·obtain rfl : ne = k := by omega
   have HC : Hid (atI (fun x : EndM => x.tid) l t = -1) := atI_miss (fun i hi => I.out i hi (by have := HM.out; omega))
   have c6 := HB.out 6 _ rfl
   clear hg hlt hk
   go_wp2_with fail
   go_ret
   exact ⟨ret_i HC.out.symm, TT.out⟩
end
section
open Go.RowKit Go.Maps
def OwnN (w0 : World) (e : TypeId) (size n : Nat) (cs : List Value) : Value -> World -> Prop := fun v W => W.ownsRow 0 e size v n cs /\ ∀ b, v.ownBlock = some b -> w0.heap.size <= b
theorem stb_own {w0 : World} {e : TypeId} {size n : Nat} {cs : List Value} : Stb (OwnN w0 e size n cs) := fun x w w' t h => ⟨own_tch h.1 t (fun _ _ h => h), h.2⟩
def SrcC (n size : Nat) (cs : List Value) : Value -> World -> Prop := fun v W => CellsAt W v n size cs
theorem stb_src {n size : Nat} {cs : List Value} : Stb (SrcC n size cs) := fun x w w' t h => CellsAt.keep h t
end
section
open Go.RowKit Go.Maps
theorem flat_take {α : Type} {enc : α -> List Value} {m : Nat} (he : ∀ x, (enc x).length = m) : ∀ (l : List α) (k : Nat), (l.flatMap enc).take (k * m) = (l.take k).flatMap enc
 | [], k => by simp
 | a :: r, 0 => by simp
 | a :: r, k + 1 => by
  have e : (k + 1) * m = (enc a).length + k * m := by rw [he, Nat.succ_mul]; omega
  rw [List.flatMap_cons, List.take_succ_cons, List.flatMap_cons, e, List.take_length_add_append, flat_take he r k]
def IsL {α : Type} (enc : α -> List Value) (m : Nat) (w : World) (v : Value) (l : List α) : Prop := CellsAt w v l.length m (l.flatMap enc)
theorem IsL.keep {α : Type} {enc : α -> List Value} {m : Nat} {w w' : World} {v : Value} {l : List α} (h : IsL enc m w v l) (t : Tch No w w') : IsL enc m w' v l := CellsAt.keep h t
def encPr {α : Type} (f : α -> Int) (p : α × Value) : List Value := [.int .i64 (f p.1), p.2]
theorem zip_flat {α : Type} (f : α -> Int) : ∀ (l : List α) (vs : List Value), vs.length = l.length -> ((l.map f).zip vs).flatMap encTid = (l.zip vs).flatMap (encPr f)
 | [], _, _ => by simp
 | a :: r, [], h => by simp at h
 | a :: r, v :: vs, h => by
  rw [List.map_cons, List.zip_cons_cons, List.zip_cons_cons, List.flatMap_cons, List.flatMap_cons, zip_flat f r vs (by simpa using h)]
  rfl
theorem zip_unzip {α β : Type} : ∀ (l : List (α × β)), l = (l.map Prod.fst).zip (l.map Prod.snd)
 | [] => rfl
 | a :: r => by rw [List.map_cons, List.map_cons, List.zip_cons_cons, <- zip_unzip r]
theorem pends_pairs {w : World} {v : Value} {l : List PendM} : IsPends w v l ↔ ∃ prs : List (PendM × Value), prs.map Prod.fst = l /\ IsL (encPr (·.tid)) 2 w v prs /\ ∀ p ∈ prs, IsInts w p.2 p.1.parts := by
 constructor
 ·rintro ⟨vs, h1, h2, h3⟩
  have hz : (l.zip vs).length = l.length := by rw [List.length_zip, h1, Nat.min_self]
  refine ⟨l.zip vs, List.map_fst_zip (by omega), ?_, fun p hp => ?_⟩
  ·unfold IsL
   rw [hz, <- zip_flat _ l vs h1]
   exact h2
  ·obtain ⟨i, hi, rfl⟩ := List.getElem_of_mem hp
   rw [List.getElem_zip]
   exact h3 i (by omega) (by omega)
 ·rintro ⟨prs, rfl, h2, h3⟩
  refine ⟨prs.map Prod.snd, by simp, ?_, fun i h h' => ?_⟩
  ·have e := zip_unzip prs
   rw [zip_flat _ _ _ (by simp), List.length_map]
   rw [<- e]
   exact h2
  ·rw [List.getElem_map, List.getElem_map]
   exact h3 _ (List.getElem_mem _)
theorem brs_pairs {w : World} {v : Value} {l : List BrM} : IsBrs w v l ↔ ∃ prs : List (BrM × Value), prs.map Prod.fst = l /\ IsL (encPr (·.tid)) 2 w v prs /\ ∀ p ∈ prs, IsPuts w p.2 p.1.puts := by
 constructor
 ·rintro ⟨vs, h1, h2, h3⟩
  have hz : (l.zip vs).length = l.length := by rw [List.length_zip, h1, Nat.min_self]
  refine ⟨l.zip vs, List.map_fst_zip (by omega), ?_, fun p hp => ?_⟩
  ·unfold IsL
   rw [hz, <- zip_flat _ l vs h1]
   exact h2
  ·obtain ⟨i, hi, rfl⟩ := List.getElem_of_mem hp
   rw [List.getElem_zip]
   exact h3 i (by omega) (by omega)
 ·rintro ⟨prs, rfl, h2, h3⟩
  refine ⟨prs.map Prod.snd, by simp, ?_, fun i h h' => ?_⟩
  ·have e := zip_unzip prs
   rw [zip_flat _ _ _ (by simp), List.length_map]
   rw [<- e]
   exact h2
  ·rw [List.getElem_map, List.getElem_map]
   exact h3 _ (List.getElem_mem _)
theorem ones_pr {α : Type} {f : α -> Int} {l : List (α × Value)} (h : ∀ p ∈ l, p.2.oneCell' = true) : Ones (l.flatMap (encPr f)) := fun u hu => by
 obtain ⟨x, hx, hu⟩ := List.mem_flatMap.1 hu
 simp only [encPr, List.mem_cons, List.not_mem_nil, or_false] at hu
 rcases hu with rfl | rfl
 ·rfl
 ·exact h x hx
end
end Go.Proofs.YtelaljoebdpicaaGreat
