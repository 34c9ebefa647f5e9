/- Part 3 of what the proof of StoreIds rests on. No condition. -/
import Derived.Deep.LoopGhost
import Derived.OrdersHeld
import Derived.RegionTactic
import Derived.Test.YtafndmnbnmlklaaGreatPStoreIds02
namespace Go.Proofs.YtafndmnbnmlklaaGreat
set_option maxRecDepth 100000
set_option maxHeartbeats 60000000
set_option linter.unusedVariables false
set_option linter.unusedSimpArgs false
set_option linter.unusedSectionVars false
section
open Go.RowKit Go.Maps
theorem iev_eq {a : Act} {d : Nat} {v : Value} (h : d < a.tmps.size) : (a.put (some d) v).eval (.tmp d) = v := by
 simp [Act.put, Act.eval, h]
theorem iev_ne {a : Act} {d k : Nat} {v : Value} (h : d ≠ k) : (a.put (some d) v).eval (.tmp k) = a.eval (.tmp k) := by
 simp [Act.put, Act.eval, Array.getElem?_setIfInBounds, h]
theorem isize_put {a : Act} {d : Option Nat} {v : Value} : (a.put d v).tmps.size = a.tmps.size := by cases d <;> simp [Act.put]
def putAll (a : Act) : List Nat -> List Value -> Act
 | d :: ds, v :: vs => putAll (a.put (some d) v) ds vs
 | _, _ => a
theorem put_put {a : Act} {d : Nat} {x y : Value} : (a.put (some d) x).put (some d) y = a.put (some d) y := by
 simp [Act.put]
theorem put_comm {a : Act} {d e : Nat} {x y : Value} (h : d ≠ e) : (a.put (some d) x).put (some e) y = (a.put (some e) y).put (some d) x := by
 simp only [Act.put]
 rw [Array.setIfInBounds_comm _ _ h]
theorem put_self {a : Act} {d : Nat} : a.put (some d) (a.eval (.tmp d)) = a := by
 simp only [Act.put, Act.eval]
 congr 1
 apply Array.ext
 ·simp
 ·intro i h1 h2
  rw [Array.getElem_setIfInBounds]
  split
  ·rename_i h; subst h; simp [Array.getD, h2]
  ·rfl
theorem putAll_out : ∀ (ds : List Nat) (vs : List Value) (a : Act) (d : Nat) (v : Value), d ∉ ds -> (putAll a ds vs).put (some d) v = putAll (a.put (some d) v) ds vs
 | [], vs, a, d, v, h => by cases vs <;> rfl
 | e :: ds, [], a, d, v, h => rfl
 | e :: ds, x :: vs, a, d, v, h => by
  rw [List.mem_cons, not_or] at h
  rw [putAll, putAll, putAll_out ds vs _ d v h.2, put_comm (fun e2 => h.1 e2.symm)]
theorem putAll_set : ∀ (ds : List Nat) (vs : List Value) (a : Act) (i : Nat) (d : Nat) (v : Value), ds.Nodup -> vs.length = ds.length -> ds[i]? = some d -> (putAll a ds vs).put (some d) v = putAll a ds (vs.set i v)
 | [], vs, a, i, d, v, _, _, h => by simp at h
 | e :: ds, [], a, i, d, v, _, hl, h => by simp at hl
 | e :: ds, x :: vs, a, 0, d, v, hn, hl, h => by
  simp only [List.getElem?_cons_zero, Option.some.injEq] at h
  subst h
  rw [List.nodup_cons] at hn
  rw [List.set_cons_zero, putAll, putAll, putAll_out _ _ _ _ _ hn.1, put_put]
 | e :: ds, x :: vs, a, i + 1, d, v, hn, hl, h => by
  rw [List.nodup_cons] at hn
  rw [List.getElem?_cons_succ] at h
  rw [List.set_cons_succ, putAll, putAll]
  exact putAll_set ds vs _ i d v hn.2 (by simpa using hl) h
theorem putAll_start : ∀ (ds : List Nat) (a : Act), putAll a ds (ds.map fun d => a.eval (.tmp d)) = a
 | [], a => rfl
 | d :: ds, a => by rw [List.map_cons, putAll, put_self]; exact putAll_start ds a
theorem putAll_ev : ∀ (ds : List Nat) (vs : List Value) (a : Act) (k : Nat), k ∉ ds -> (putAll a ds vs).eval (.tmp k) = a.eval (.tmp k)
 | [], vs, a, k, h => by cases vs <;> rfl
 | e :: ds, [], a, k, h => rfl
 | e :: ds, x :: vs, a, k, h => by
  rw [List.mem_cons, not_or] at h
  rw [putAll, putAll_ev ds vs _ k h.2, iev_ne (fun e2 => h.1 e2.symm)]
theorem putAll_size : ∀ (ds : List Nat) (vs : List Value) (a : Act), (putAll a ds vs).tmps.size = a.tmps.size
 | [], vs, a => by cases vs <;> rfl
 | e :: ds, [], a => rfl
 | e :: ds, x :: vs, a => by rw [putAll, putAll_size ds vs, isize_put]
theorem putAll_get {ds : List Nat} {vs : List Value} {a : Act} (i : Nat) {d : Nat} {u : Value} (hn : ds.Nodup) (hl : vs.length = ds.length) (hd : ds[i]? = some d) (hu : vs[i]? = some u) (hs : d < a.tmps.size) : (putAll a ds vs).eval (.tmp d) = u := by
 have e : vs.set i u = vs := by
  apply List.ext_getElem?
  intro j
  rw [List.getElem?_set]
  split
  ·rename_i h; subst h
   split
   ·exact hu.symm
   ·rename_i h2; rw [List.getElem?_eq_none (by omega)]
  ·rfl
 have := putAll_set ds vs a i d u hn hl hd
 rw [e] at this
 rw [<- this]
 exact iev_eq (by rw [putAll_size]; exact hs)
theorem frame_var {P : Program} {C : Code} {Q : Exit -> Act -> World -> Prop} {a : Act} {w : World} (n : Nat) (hn : a.tmps.size = n) (h : ∀ fr : Act, Hid (fr = a) -> fr.tmps.size = n -> Code.wp P C Q fr w) : Code.wp P C Q a w := h a rfl hn
def Fr (a0 : Act) (ds : List Nat) (a : Act) : Prop := ∃ vs : List Value, vs.length = ds.length /\ a = putAll a0 ds vs
theorem Fr.start (a0 : Act) (ds : List Nat) : Fr a0 ds a0 := ⟨_, by simp, (putAll_start ds a0).symm⟩
theorem Fr.put {a0 a : Act} {ds : List Nat} (h : Fr a0 ds a) (hn : ds.Nodup) {d : Option Nat} (hd : ∀ e, d = some e -> e ∈ ds) (v : Value) : Fr a0 ds (a.put d v) := by
 obtain ⟨vs, hl, rfl⟩ := h
 cases d with
 | none => exact ⟨vs, hl, rfl⟩
 | some e =>
  obtain ⟨i, hi, he⟩ := List.getElem_of_mem (hd e rfl)
  exact ⟨vs.set i v, by simpa using hl, putAll_set ds vs a0 i e v hn hl (by rw [List.getElem?_eq_getElem hi, he])⟩
theorem Fr.ev {a0 a : Act} {ds : List Nat} (h : Fr a0 ds a) {k : Nat} (hk : ds.contains k = false) {v : Value} (hv : a0.eval (.tmp k) = v) : a.eval (.tmp k) = v := by
 obtain ⟨vs, hl, rfl⟩ := h
 rw [putAll_ev ds vs a0 k (fun e => by rw [List.contains_iff_mem.2 e] at hk; cases hk)]
 exact hv
theorem Fr.size {a0 a : Act} {ds : List Nat} (h : Fr a0 ds a) : a.tmps.size = a0.tmps.size := by
 obtain ⟨vs, hl, rfl⟩ := h
 exact putAll_size _ _ _
section
variable {P : Program} {ops : Array Oper} {Q : Exit -> Act -> World -> Prop}
def slotV (ops : Array Oper) (a : Act) (j : Nat) : Value := match (ops[j]?).bind (·.dst) with | some d => a.eval (.tmp d) | none => undef
def lon (rows : List LRow) (i : Nat) : List Nat := ((rows[i]?).map (·.2.2)).getD []
def ldst (rows : List LRow) (i : Nat) : Option Nat := (rows[i]?).bind (·.1)
def ichk (rows : List LRow) (ds : List Nat) (anc need kill later : Nat -> List Nat) : Bool :=
 decide ds.Nodup && (List.range rows.length).all fun i =>
  (lon rows i).all (fun e => decide (e < i)) && (need i).all (fun k => (lon rows i).contains k) &&
  (match ldst rows i with | some d => ds.contains d | none => true) &&
  (match ldst rows i with | some d => (List.range rows.length).all (fun j => j == i || ldst rows j != some d) | none => true) &&
  (kill i).all (fun k => (List.range rows.length).all fun j => !(need j).contains k || j == i || (anc i).contains j) &&
  (later i).all (fun j => (anc j).contains i && decide (j < rows.length)) &&
  (anc i).all (fun k => (lon rows i).contains k || (lon rows i).any (fun m => (anc m).contains k))
structure ISpec (rows : List LRow) (ds : List Nat) (anc need kill later : Nat -> List Nat) : Prop where
 nodup : ds.Nodup
 less : ∀ i, i < rows.length -> ∀ e ∈ lon rows i, e < i
 needs : ∀ i, i < rows.length -> ∀ k ∈ need i, k ∈ lon rows i
 dst : ∀ i, i < rows.length -> ∀ d, ldst rows i = some d -> d ∈ ds
 other : ∀ i, i < rows.length -> ∀ d, ldst rows i = some d -> ∀ j, j < rows.length -> j ≠ i -> ldst rows j ≠ some d
 kills : ∀ i, i < rows.length -> ∀ k ∈ kill i, ∀ j, j < rows.length -> k ∈ need j -> j = i ∨ j ∈ anc i
 laters : ∀ i, i < rows.length -> ∀ j ∈ later i, i ∈ anc j /\ j < rows.length
 ancs : ∀ i, i < rows.length -> ∀ k ∈ anc i, k ∈ lon rows i ∨ ∃ m ∈ lon rows i, k ∈ anc m
theorem ichk_spec {rows : List LRow} {ds : List Nat} {anc need kill later : Nat -> List Nat} (h : ichk rows ds anc need kill later = true) : ISpec rows ds anc need kill later := by
 unfold ichk at h
 simp only [Bool.and_eq_true, List.all_eq_true, List.mem_range, decide_eq_true_eq, List.contains_iff_mem, Bool.or_eq_true, Bool.not_eq_true', beq_iff_eq, List.any_eq_true] at h
 obtain ⟨h0, h⟩ := h
 refine ⟨h0, fun i hi => (h i hi).1.1.1.1.1.1, fun i hi => (h i hi).1.1.1.1.1.2, fun i hi d hd => ?_, fun i hi d hd j hj hji => ?_, fun i hi k hk j hj hkj => ?_, fun i hi j hj => (h i hi).1.2 j hj, fun i hi => (h i hi).2⟩
 ·have := (h i hi).1.1.1.1.2
  rw [hd] at this
  simpa using this
 ·have := (h i hi).1.1.1.2
  rw [hd] at this
  have := List.all_eq_true.1 this j (List.mem_range.2 hj)
  simpa [hji] using this
 ·rcases (h i hi).1.1.2 k hk j hj with (h1 | h1) | h1
  ·exfalso
   have : (need j).contains k = true := List.contains_iff_mem.2 hkj
   rw [this] at h1; cases h1
  ·exact .inl h1
  ·exact .inr h1
def IStep (P : Program) (ops : Array Oper) (Q : Exit -> Act -> World -> Prop) (a0 : Act) (ds : List Nat) (C : World -> Prop) (R : Nat -> Value -> World -> Prop) (wd : List Nat) (need kill later : Nat -> List Nat) (i : Nat) : Prop :=
 ∀ o a w, ops[i]? = some o -> Fr a0 ds a -> C w -> (∀ k ∈ need i, R k (slotV ops a k) w) ->
  ∀ K : Act -> World -> Prop, (∀ v w', C w' -> R i (match o.dst with | some _ => v | none => undef) w' -> (∀ j ∈ wd, j ≠ i -> j ∉ kill i -> j ∉ later i -> ∀ x, R j x w -> R j x w') -> K (a.put o.dst v) w') ->
   if Region.wanted o (yielded ops a.tmps) = true then Oper.wp P o a w K Q else K (a.put o.dst undef) w
def Stb (f : Value -> World -> Prop) : Prop := ∀ x w w', Tch No w w' -> f x w -> f x w'
def Pur (f : Value -> World -> Prop) : Prop := ∀ x (w w' : World), f x w -> f x w'
theorem Pur.stb {f : Value -> World -> Prop} (h : Pur f) : Stb f := fun x w w' _ hx => h x w w' hx
theorem pur_eq (v : Value) : Pur (fun x _ => x = v) := fun x _ _ h => h
theorem pur_any : Pur (fun _ _ => True) := fun _ _ _ _ => trivial
def RL (l : List (Value -> World -> Prop)) (j : Nat) : Value -> World -> Prop := (l[j]?).getD (fun _ _ => True)
theorem rl_stb {l : List (Value -> World -> Prop)} (h : ∀ f ∈ l, Stb f) (j : Nat) : Stb (RL l j) := by
 unfold RL
 cases e : l[j]? with
 | none => exact (pur_any).stb
 | some f => exact h f (List.mem_of_getElem? e)
theorem rl_pur {l : List (Value -> World -> Prop)} {wd : List Nat} (h : ∀ j, j < l.length -> j ∈ wd ∨ Pur (RL l j)) (j : Nat) (hj : j ∉ wd) : Pur (RL l j) := by
 rcases Nat.lt_or_ge j l.length with hl | hl
 ·exact (h j hl).resolve_left hj
 ·unfold RL
  rw [List.getElem?_eq_none hl]
  exact pur_any
theorem all_lt0 {p : Nat -> Prop} : ∀ i, i < 0 -> p i := fun i h => absurd h (Nat.not_lt_zero _)
theorem all_lt1 {p : Nat -> Prop} {n : Nat} (h : ∀ i, i < n -> p i) (hn : p n) : ∀ i, i < n + 1 -> p i := fun i hi => by
 rcases Nat.lt_or_ge i n with h1 | h1
 ·exact h i h1
 ·obtain rfl : i = n := by omega
  exact hn
theorem all_mem0 {α : Type} {p : α -> Prop} : ∀ f ∈ ([] : List α), p f := fun f h => by cases h
theorem all_mem1 {α : Type} {p : α -> Prop} {a : α} {l : List α} (h1 : p a) (h : ∀ f ∈ l, p f) : ∀ f ∈ a :: l, p f := fun f hf => by
 rcases List.mem_cons.1 hf with rfl | hf
 ·exact h1
 ·exact h f hf
theorem vs_cons {vs : List Value} {n : Nat} (h : vs.length = n + 1) : ∃ u r, vs = u :: r /\ r.length = n := by
 cases vs with
 | nil => simp at h
 | cons u r => exact ⟨u, r, rfl, by simpa using h⟩
theorem vs_nil {vs : List Value} (h : vs.length = 0) : vs = [] := List.eq_nil_of_length_eq_zero h
end
end
section
open Go.RowKit Go.Maps
def cmpI (x y : Int) : Int := if x < y then -1 else if y < x then 1 else 0
theorem isnan_any (x : Int) (w : World) : Calls Tryz.prog 186 #[.int .i64 x] w fun e w' => e = .returned (.bool false) /\ w = w' := by
 go_enter Tryz.func186, Tryz.ntmps186
 go_wp2_with fail
 go_ret
 exact ⟨by simp, rfl⟩
theorem compare_any (x y : Int) (w : World) : Calls Tryz.prog 96 #[.int .i64 x, .int .i64 y] w fun e w' => e = .returned (.int .i64 (cmpI x y)) /\ w = w' := by
 have hi := Lib.hid (fun x W => isnan_any x W)
 go_enter Tryz.func96, Tryz.ntmps96
 go_wp2_with (go_at_call 186; refine (hi.out _ _).mono ?_; rintro e w' ⟨rfl, rfl⟩)
 all_goals (go_ret; refine ⟨?_, rfl⟩; unfold cmpI; (repeat' split) <;> first | rfl | (exfalso; omega))
theorem one_cells {v : Value} (h : v.oneCell' = true) : v.cells = #[v] := by cases v <;> first | rfl | cases h
theorem pair_cells {α : Type} {w : World} {v : Value} {f : α -> Int} {g : α -> Value} {l : List α} (h : CellsAt w v l.length 2 (l.flatMap (fun x => [.int .i64 (f x), g x]))) :
  (v = .slice none 0 0 /\ l = []) ∨ ∃ b o cap, v = .slice (some ⟨b, o, none⟩) l.length cap /\ l.length <= cap /\ cap <= maxLen /\ b < w.heap.size /\ ∀ i (hi : i < l.length), w.cell? ⟨b, o + i * 2, none⟩ = some (.int .i64 (f l[i])) /\ w.cell? ⟨b, o + i * 2 + 1, none⟩ = some (g l[i]) := by
 rcases h.2 with ⟨h1, h2⟩ | ⟨b, o, cap, h1, h2, h3, h4, h5⟩
 ·exact .inl ⟨h1, List.eq_nil_of_length_eq_zero h2⟩
 ·refine .inr ⟨b, o, cap, h1, h2, h3, h4, fun i hi => ⟨?_, ?_⟩⟩
  ·have := h5 (i * 2 + 0) (.int .i64 (f l[i])) (by rw [flat_get _ 2 (fun _ => rfl) l i 0 hi (by omega)]; rfl)
   simpa using this
  ·have := h5 (i * 2 + 1) (g l[i]) (by rw [flat_get _ 2 (fun _ => rfl) l i 1 hi (by omega)]; rfl)
   simpa [Nat.add_assoc] using this
theorem key_mono {α : Type} {f : α -> Int} {l : List α} (h : strictB (l.map f) = true) {i j : Nat} (hij : i <= j) (hj : j < l.length) : f (l[i]'(by omega)) <= f l[j] := by
 rcases Nat.lt_or_ge i j with h1 | h1
 ·have := strictB_get h h1 (by simpa using hj)
  simp only [List.getElem_map] at this
  omega
 ·obtain rfl : i = j := by omega
  exact Int.le_refl _
theorem ends_cmp (a t : Int) (y : Value) (w : World) (hy : y.oneCell' = true) : Calls Tryz.prog 165 #[.agg #[.int .i64 a, y], .int .i64 t] w fun e w' => e = .returned (.int .i64 (cmpI a t)) /\ Tch No w w' := by
 have hc := Lib.hid (fun x y W => compare_any x y W)
 go_enter Tryz.func165, Tryz.ntmps165
 go_wp2_with (go_at_call 96; refine (hc.out _ _ _).mono ?_; rintro e w' ⟨rfl, rfl⟩)
 go_ret
 exact ⟨rfl, Tch.alloc _ _⟩
theorem ends_bs {α : Type} (f : α -> Int) (g : α -> Value) (l : List α) (hs : strictB (l.map f) = true) (t : Int) (v : Value) (w : World) (h : CellsAt w v l.length 2 (l.flatMap (fun x => [.int .i64 (f x), g x])))
  (hg : ∀ x ∈ l, (g x).oneCell' = true) (hl : l.length <= 1000000000) :
  Calls Tryz.prog 164 #[v, .int .i64 t, .func (.func 165) #[] #[]] w fun e w' => e = .returned (.tuple #[.int .i64 (posP f l t : Nat), .bool (hasP f l t)]) /\ Tch No w w' := by
 have hcmp := Lib.hid (fun a t y W hy => ends_cmp a t y W hy)
 have H := Lib.hid h
 have HS := Lib.hid hs
 have HG := Lib.hid hg
 obtain ⟨m, hm⟩ : ∃ m, l.length = m := ⟨_, rfl⟩
 have HM := Lib.hid hm
 have hshape : ∃ a cap, v = .slice a m cap /\ m <= cap /\ cap <= maxLen := by rw [<- hm]; exact h.shape
 obtain ⟨a, cap, hv, hcap, hmax⟩ := hshape
 rw [hm] at hl
 subst hv
 clear h hs hm hg hmax hcap
 go_enter Tryz.func164, Tryz.ntmps164
 go_wp2_with fail
 go_loopg [9, 10] m (fun kx s9 s10 wr => ∃ lo hi : Nat, s9 = .int .i64 lo /\ s10 = .int .i64 hi /\ lo <= hi /\ hi <= m /\ hi - lo <= kx /\ Hid (Tch No w wr) /\ Hid ((∀ i (hi : i < l.length), i < lo -> f l[i] < t) /\ (∀ i (hh : i < l.length), hi <= i -> ¬ f l[i] < t)))
 case atStart => exact ⟨0, m, rfl, rfl, Nat.zero_le _, Nat.le_refl _, by omega, Tch.refl _ _, ⟨fun i _ h => absurd h (Nat.not_lt_zero _), fun i hh h => by have := HM.out; omega⟩⟩
 case round =>
  obtain ⟨lo, hi, rfl, rfl, hlh, him, hg, T1, I⟩ := hrel
  by_cases hlt : lo < hi
  ·obtain ⟨k, hk⟩ : ∃ k, (lo + hi) / 2 = k := ⟨_, rfl⟩
   have hkl : k < l.length := by have := HM.out; omega
   have hb : ∃ b o, a = some ⟨b, o, none⟩ /\ wr.cell? ⟨b, o + k * 2, none⟩ = some (.int .i64 (f l[k])) /\ wr.cell? ⟨b, o + k * 2 + 1, none⟩ = some (g l[k]) := by
    rcases pair_cells H.out with ⟨_, h0⟩ | ⟨b, o, cap2, h1, _, _, _, h5⟩
    ·subst h0; simp at hkl
    ·rw [HM.out] at h1
     injection h1 with h1 _ _
     exact ⟨b, o, h1, T1.out.cell (h5 k hkl).1 (fun h => h), T1.out.cell (h5 k hkl).2 (fun h => h)⟩
   obtain ⟨b, o, rfl, hc1, hc2⟩ := hb
   have hy : (g l[k]).oneCell' = true := HG.out _ (List.getElem_mem hkl)
   obtain ⟨x, hx⟩ : ∃ x, f l[k] = x := ⟨_, rfl⟩
   obtain ⟨y, hyy⟩ : ∃ y, g l[k] = y := ⟨_, rfl⟩
   rw [hx] at hc1
   rw [hyy] at hc2 hy
   have HX := Lib.hid hx
   have HC := Lib.hid (fun W => ends_cmp x t y W hy)
   have hyc := one_cells hy
   simp only [Value.cells] at hyc
   clear hx hyy hy
   have hk2 : ((lo : Int) + (hi : Int)) / 2 = (k : Int) := by omega
   have HK := Lib.hid hk
   clear hk
   by_cases hyx : x < t
   ·have hci : cmpI x t = -1 := if_pos hyx
    rw [hci] at HC
    clear hci
    go_wp2_with (go_at_call 165; refine (HC.out _).mono ?_; rintro e w' ⟨rfl, T2⟩)
    go_roundg (hi - (k + 1))
    case measure => omega
    case rel =>
     refine ⟨k + 1, hi, by go_num, rfl, by omega, him, Nat.le_refl _, T1.out.trans0 T2, ⟨fun i h1 h2 => ?_, I.out.2⟩⟩
     have := key_mono HS.out (i := i) (j := k) (by omega) hkl
     rw [HX.out] at this
     omega
   ·have hci : (cmpI x t < 0) = False := by unfold cmpI; rw [if_neg hyx]; split <;> simp
    go_wp2_with (go_at_call 165; refine (HC.out _).mono ?_; rintro e w' ⟨rfl, T2⟩)
    go_roundg (k - lo)
    case measure => omega
    case rel =>
     refine ⟨lo, k, rfl, by go_num, by omega, by omega, Nat.le_refl _, T1.out.trans0 T2, ⟨I.out.1, fun i h1 h2 => ?_⟩⟩
     have := key_mono HS.out (i := k) (j := i) h2 h1
     rw [HX.out] at this
     omega
  ·obtain rfl : hi = lo := by omega
   have hpos : posP f l t = hi := posP_of (by have := HM.out; omega) (fun i h1 h2 => I.out.1 i h1 h2) (fun h1 => I.out.2 hi h1 (Nat.le_refl _))
   have HP := Lib.hid hpos
   clear hpos
   by_cases hn : hi < m
   ·have hkl : hi < l.length := by have := HM.out; omega
    have hb : ∃ b o, a = some ⟨b, o, none⟩ /\ wr.cell? ⟨b, o + hi * 2, none⟩ = some (.int .i64 (f l[hi])) /\ wr.cell? ⟨b, o + hi * 2 + 1, none⟩ = some (g l[hi]) := by
     rcases pair_cells H.out with ⟨_, h0⟩ | ⟨b, o, cap2, h1, _, _, _, h5⟩
     ·subst h0; simp at hkl
     ·rw [HM.out] at h1
      injection h1 with h1 _ _
      exact ⟨b, o, h1, T1.out.cell (h5 hi hkl).1 (fun h => h), T1.out.cell (h5 hi hkl).2 (fun h => h)⟩
    obtain ⟨b, o, rfl, hc1, hc2⟩ := hb
    have hy : (g l[hi]).oneCell' = true := HG.out _ (List.getElem_mem hkl)
    obtain ⟨x, hx⟩ : ∃ x, f l[hi] = x := ⟨_, rfl⟩
    obtain ⟨y, hyy⟩ : ∃ y, g l[hi] = y := ⟨_, rfl⟩
    rw [hx] at hc1
    rw [hyy] at hc2 hy
    have HF : Hid (hasP f l t = decide (x = t)) := by
     rw [Hid, Bool.eq_iff_iff, hasP_pos HS.out, decide_eq_true_eq]
     simp only [HP.out, hx]
     exact ⟨fun ⟨_, h⟩ => h, fun h => ⟨hkl, h⟩⟩
    have HC := Lib.hid (fun W => ends_cmp x t y W hy)
    have hyc := one_cells hy
    simp only [Value.cells] at hyc
    clear hx hyy hy
    by_cases hyx : x = t
    ·have hci : cmpI x t = 0 := by unfold cmpI; rw [if_neg (by omega), if_neg (by omega)]
     have hd : Hid (hasP f l t = true) := by rw [Hid, HF.out]; simp [hyx]
     rw [hci] at HC
     clear hci hyx
     go_wp2_with (go_at_call 165; refine (HC.out _).mono ?_; rintro e w' ⟨rfl, T2⟩)
     go_ret2
     refine ⟨?_, T1.out.trans0 T2⟩
     rw [HP.out, hd.out]; rfl
    ·have hci : (cmpI x t == 0) = false := by unfold cmpI; (repeat' split) <;> first | rfl | (exfalso; omega)
     have hci2 : ¬ cmpI x t = 0 := by simpa using hci
     have hd : Hid (hasP f l t = false) := by rw [Hid, HF.out]; simp [hyx]
     go_wp2_with (go_at_call 165; refine (HC.out _).mono ?_; rintro e w' ⟨rfl, T2⟩)
     go_ret2
     refine ⟨?_, T1.out.trans0 T2⟩
     rw [HP.out, hd.out]; rfl
   ·have hd : Hid (hasP f l t = false) := by
     rw [Hid]
     cases e : hasP f l t with
     | false => rfl
     | true => obtain ⟨h, _⟩ := (hasP_pos HS.out t).1 e; rw [HP.out, HM.out] at h; omega
    go_wp2_with fail
    go_ret2
    refine ⟨?_, T1.out⟩
    rw [HP.out, hd.out]; rfl
theorem waits_cmp (a t : Int) (y : Value) (w : World) (hy : y.oneCell' = true) : Calls Tryz.prog 218 #[.agg #[.int .i64 a, y], .int .i64 t] w fun e w' => e = .returned (.int .i64 (cmpI a t)) /\ Tch No w w' := by
 have hc := Lib.hid (fun x y W => compare_any x y W)
 go_enter Tryz.func218, Tryz.ntmps218
 go_wp2_with (go_at_call 96; refine (hc.out _ _ _).mono ?_; rintro e w' ⟨rfl, rfl⟩)
 go_ret
 exact ⟨rfl, Tch.alloc _ _⟩
theorem waits_bs {α : Type} (f : α -> Int) (g : α -> Value) (l : List α) (hs : strictB (l.map f) = true) (t : Int) (v : Value) (w : World) (h : CellsAt w v l.length 2 (l.flatMap (fun x => [.int .i64 (f x), g x])))
  (hg : ∀ x ∈ l, (g x).oneCell' = true) (hl : l.length <= 1000000000) :
  Calls Tryz.prog 217 #[v, .int .i64 t, .func (.func 218) #[] #[]] w fun e w' => e = .returned (.tuple #[.int .i64 (posP f l t : Nat), .bool (hasP f l t)]) /\ Tch No w w' := by
 have hcmp := Lib.hid (fun a t y W hy => waits_cmp a t y W hy)
 have H := Lib.hid h
 have HS := Lib.hid hs
 have HG := Lib.hid hg
 obtain ⟨m, hm⟩ : ∃ m, l.length = m := ⟨_, rfl⟩
 have HM := Lib.hid hm
 have hshape : ∃ a cap, v = .slice a m cap /\ m <= cap /\ cap <= maxLen := by rw [<- hm]; exact h.shape
 obtain ⟨a, cap, hv, hcap, hmax⟩ := hshape
 rw [hm] at hl
 subst hv
 clear h hs hm hg hmax hcap
 go_enter Tryz.func217, Tryz.ntmps217
 go_wp2_with fail
 go_loopg [9, 10] m (fun kx s9 s10 wr => ∃ lo hi : Nat, s9 = .int .i64 lo /\ s10 = .int .i64 hi /\ lo <= hi /\ hi <= m /\ hi - lo <= kx /\ Hid (Tch No w wr) /\ Hid ((∀ i (hi : i < l.length), i < lo -> f l[i] < t) /\ (∀ i (hh : i < l.length), hi <= i -> ¬ f l[i] < t)))
 case atStart => exact ⟨0, m, rfl, rfl, Nat.zero_le _, Nat.le_refl _, by omega, Tch.refl _ _, ⟨fun i _ h => absurd h (Nat.not_lt_zero _), fun i hh h => by have := HM.out; omega⟩⟩
 case round =>
  obtain ⟨lo, hi, rfl, rfl, hlh, him, hg, T1, I⟩ := hrel
  by_cases hlt : lo < hi
  ·obtain ⟨k, hk⟩ : ∃ k, (lo + hi) / 2 = k := ⟨_, rfl⟩
   have hkl : k < l.length := by have := HM.out; omega
   have hb : ∃ b o, a = some ⟨b, o, none⟩ /\ wr.cell? ⟨b, o + k * 2, none⟩ = some (.int .i64 (f l[k])) /\ wr.cell? ⟨b, o + k * 2 + 1, none⟩ = some (g l[k]) := by
    rcases pair_cells H.out with ⟨_, h0⟩ | ⟨b, o, cap2, h1, _, _, _, h5⟩
    ·subst h0; simp at hkl
    ·rw [HM.out] at h1
     injection h1 with h1 _ _
     exact ⟨b, o, h1, T1.out.cell (h5 k hkl).1 (fun h => h), T1.out.cell (h5 k hkl).2 (fun h => h)⟩
   obtain ⟨b, o, rfl, hc1, hc2⟩ := hb
   have hy : (g l[k]).oneCell' = true := HG.out _ (List.getElem_mem hkl)
   obtain ⟨x, hx⟩ : ∃ x, f l[k] = x := ⟨_, rfl⟩
   obtain ⟨y, hyy⟩ : ∃ y, g l[k] = y := ⟨_, rfl⟩
   rw [hx] at hc1
   rw [hyy] at hc2 hy
   have HX := Lib.hid hx
   have HC := Lib.hid (fun W => waits_cmp x t y W hy)
   have hyc := one_cells hy
   simp only [Value.cells] at hyc
   clear hx hyy hy
   have hk2 : ((lo : Int) + (hi : Int)) / 2 = (k : Int) := by omega
   have HK := Lib.hid hk
   clear hk
   by_cases hyx : x < t
   ·have hci : cmpI x t = -1 := if_pos hyx
    rw [hci] at HC
    clear hci
    go_wp2_with (go_at_call 218; refine (HC.out _).mono ?_; rintro e w' ⟨rfl, T2⟩)
    go_roundg (hi - (k + 1))
    case measure => omega
    case rel =>
     refine ⟨k + 1, hi, by go_num, rfl, by omega, him, Nat.le_refl _, T1.out.trans0 T2, ⟨fun i h1 h2 => ?_, I.out.2⟩⟩
     have := key_mono HS.out (i := i) (j := k) (by omega) hkl
     rw [HX.out] at this
     omega
   ·have hci : (cmpI x t < 0) = False := by unfold cmpI; rw [if_neg hyx]; split <;> simp
    go_wp2_with (go_at_call 218; refine (HC.out _).mono ?_; rintro e w' ⟨rfl, T2⟩)
    go_roundg (k - lo)
    case measure => omega
    case rel =>
     refine ⟨lo, k, rfl, by go_num, by omega, by omega, Nat.le_refl _, T1.out.trans0 T2, ⟨I.out.1, fun i h1 h2 => ?_⟩⟩
     have := key_mono HS.out (i := k) (j := i) h2 h1
     rw [HX.out] at this
     omega
  ·obtain rfl : hi = lo := by omega
   have hpos : posP f l t = hi := posP_of (by have := HM.out; omega) (fun i h1 h2 => I.out.1 i h1 h2) (fun h1 => I.out.2 hi h1 (Nat.le_refl _))
   have HP := Lib.hid hpos
   clear hpos
   by_cases hn : hi < m
   ·have hkl : hi < l.length := by have := HM.out; omega
    have hb : ∃ b o, a = some ⟨b, o, none⟩ /\ wr.cell? ⟨b, o + hi * 2, none⟩ = some (.int .i64 (f l[hi])) /\ wr.cell? ⟨b, o + hi * 2 + 1, none⟩ = some (g l[hi]) := by
     rcases pair_cells H.out with ⟨_, h0⟩ | ⟨b, o, cap2, h1, _, _, _, h5⟩
     ·subst h0; simp at hkl
     ·rw [HM.out] at h1
      injection h1 with h1 _ _
      exact ⟨b, o, h1, T1.out.cell (h5 hi hkl).1 (fun h => h), T1.out.cell (h5 hi hkl).2 (fun h => h)⟩
    obtain ⟨b, o, rfl, hc1, hc2⟩ := hb
    have hy : (g l[hi]).oneCell' = true := HG.out _ (List.getElem_mem hkl)
    obtain ⟨x, hx⟩ : ∃ x, f l[hi] = x := ⟨_, rfl⟩
    obtain ⟨y, hyy⟩ : ∃ y, g l[hi] = y := ⟨_, rfl⟩
    rw [hx] at hc1
    rw [hyy] at hc2 hy
    have HF : Hid (hasP f l t = decide (x = t)) := by
     rw [Hid, Bool.eq_iff_iff, hasP_pos HS.out, decide_eq_true_eq]
     simp only [HP.out, hx]
     exact ⟨fun ⟨_, h⟩ => h, fun h => ⟨hkl, h⟩⟩
    have HC := Lib.hid (fun W => waits_cmp x t y W hy)
    have hyc := one_cells hy
    simp only [Value.cells] at hyc
    clear hx hyy hy
    by_cases hyx : x = t
    ·have hci : cmpI x t = 0 := by unfold cmpI; rw [if_neg (by omega), if_neg (by omega)]
     have hd : Hid (hasP f l t = true) := by rw [Hid, HF.out]; simp [hyx]
     rw [hci] at HC
     clear hci hyx
     go_wp2_with (go_at_call 218; refine (HC.out _).mono ?_; rintro e w' ⟨rfl, T2⟩)
     go_ret2
     refine ⟨?_, T1.out.trans0 T2⟩
     rw [HP.out, hd.out]; rfl
    ·have hci : (cmpI x t == 0) = false := by unfold cmpI; (repeat' split) <;> first | rfl | (exfalso; omega)
     have hci2 : ¬ cmpI x t = 0 := by simpa using hci
     have hd : Hid (hasP f l t = false) := by rw [Hid, HF.out]; simp [hyx]
     go_wp2_with (go_at_call 218; refine (HC.out _).mono ?_; rintro e w' ⟨rfl, T2⟩)
     go_ret2
     refine ⟨?_, T1.out.trans0 T2⟩
     rw [HP.out, hd.out]; rfl
   ·have hd : Hid (hasP f l t = false) := by
     rw [Hid]
     cases e : hasP f l t with
     | false => rfl
     | true => obtain ⟨h, _⟩ := (hasP_pos HS.out t).1 e; rw [HP.out, HM.out] at h; omega
    go_wp2_with fail
    go_ret2
    refine ⟨?_, T1.out⟩
    rw [HP.out, hd.out]; rfl
theorem pends_cmp (a t : Int) (y : Value) (w : World) (hy : y.oneCell' = true) : Calls Tryz.prog 220 #[.agg #[.int .i64 a, y], .int .i64 t] w fun e w' => e = .returned (.int .i64 (cmpI a t)) /\ Tch No w w' := by
 have hc := Lib.hid (fun x y W => compare_any x y W)
 go_enter Tryz.func220, Tryz.ntmps220
 go_wp2_with (go_at_call 96; refine (hc.out _ _ _).mono ?_; rintro e w' ⟨rfl, rfl⟩)
 go_ret
 exact ⟨rfl, Tch.alloc _ _⟩
theorem pends_bs {α : Type} (f : α -> Int) (g : α -> Value) (l : List α) (hs : strictB (l.map f) = true) (t : Int) (v : Value) (w : World) (h : CellsAt w v l.length 2 (l.flatMap (fun x => [.int .i64 (f x), g x])))
  (hg : ∀ x ∈ l, (g x).oneCell' = true) (hl : l.length <= 1000000000) :
  Calls Tryz.prog 219 #[v, .int .i64 t, .func (.func 220) #[] #[]] w fun e w' => e = .returned (.tuple #[.int .i64 (posP f l t : Nat), .bool (hasP f l t)]) /\ Tch No w w' := by
 have hcmp := Lib.hid (fun a t y W hy => pends_cmp a t y W hy)
 have H := Lib.hid h
 have HS := Lib.hid hs
 have HG := Lib.hid hg
 obtain ⟨m, hm⟩ : ∃ m, l.length = m := ⟨_, rfl⟩
 have HM := Lib.hid hm
 have hshape : ∃ a cap, v = .slice a m cap /\ m <= cap /\ cap <= maxLen := by rw [<- hm]; exact h.shape
 obtain ⟨a, cap, hv, hcap, hmax⟩ := hshape
 rw [hm] at hl
 subst hv
 clear h hs hm hg hmax hcap
 go_enter Tryz.func219, Tryz.ntmps219
 go_wp2_with fail
 go_loopg [9, 10] m (fun kx s9 s10 wr => ∃ lo hi : Nat, s9 = .int .i64 lo /\ s10 = .int .i64 hi /\ lo <= hi /\ hi <= m /\ hi - lo <= kx /\ Hid (Tch No w wr) /\ Hid ((∀ i (hi : i < l.length), i < lo -> f l[i] < t) /\ (∀ i (hh : i < l.length), hi <= i -> ¬ f l[i] < t)))
 case atStart => exact ⟨0, m, rfl, rfl, Nat.zero_le _, Nat.le_refl _, by omega, Tch.refl _ _, ⟨fun i _ h => absurd h (Nat.not_lt_zero _), fun i hh h => by have := HM.out; omega⟩⟩
 case round =>
  obtain ⟨lo, hi, rfl, rfl, hlh, him, hg, T1, I⟩ := hrel
  by_cases hlt : lo < hi
  ·obtain ⟨k, hk⟩ : ∃ k, (lo + hi) / 2 = k := ⟨_, rfl⟩
   have hkl : k < l.length := by have := HM.out; omega
   have hb : ∃ b o, a = some ⟨b, o, none⟩ /\ wr.cell? ⟨b, o + k * 2, none⟩ = some (.int .i64 (f l[k])) /\ wr.cell? ⟨b, o + k * 2 + 1, none⟩ = some (g l[k]) := by
    rcases pair_cells H.out with ⟨_, h0⟩ | ⟨b, o, cap2, h1, _, _, _, h5⟩
    ·subst h0; simp at hkl
    ·rw [HM.out] at h1
     injection h1 with h1 _ _
     exact ⟨b, o, h1, T1.out.cell (h5 k hkl).1 (fun h => h), T1.out.cell (h5 k hkl).2 (fun h => h)⟩
   obtain ⟨b, o, rfl, hc1, hc2⟩ := hb
   have hy : (g l[k]).oneCell' = true := HG.out _ (List.getElem_mem hkl)
   obtain ⟨x, hx⟩ : ∃ x, f l[k] = x := ⟨_, rfl⟩
   obtain ⟨y, hyy⟩ : ∃ y, g l[k] = y := ⟨_, rfl⟩
   rw [hx] at hc1
   rw [hyy] at hc2 hy
   have HX := Lib.hid hx
   have HC := Lib.hid (fun W => pends_cmp x t y W hy)
   have hyc := one_cells hy
   simp only [Value.cells] at hyc
   clear hx hyy hy
   have hk2 : ((lo : Int) + (hi : Int)) / 2 = (k : Int) := by omega
   have HK := Lib.hid hk
   clear hk
   by_cases hyx : x < t
   ·have hci : cmpI x t = -1 := if_pos hyx
    rw [hci] at HC
    clear hci
    go_wp2_with (go_at_call 220; refine (HC.out _).mono ?_; rintro e w' ⟨rfl, T2⟩)
    go_roundg (hi - (k + 1))
    case measure => omega
    case rel =>
     refine ⟨k + 1, hi, by go_num, rfl, by omega, him, Nat.le_refl _, T1.out.trans0 T2, ⟨fun i h1 h2 => ?_, I.out.2⟩⟩
     have := key_mono HS.out (i := i) (j := k) (by omega) hkl
     rw [HX.out] at this
     omega
   ·have hci : (cmpI x t < 0) = False := by unfold cmpI; rw [if_neg hyx]; split <;> simp
    go_wp2_with (go_at_call 220; refine (HC.out _).mono ?_; rintro e w' ⟨rfl, T2⟩)
    go_roundg (k - lo)
    case measure => omega
    case rel =>
     refine ⟨lo, k, rfl, by go_num, by omega, by omega, Nat.le_refl _, T1.out.trans0 T2, ⟨I.out.1, fun i h1 h2 => ?_⟩⟩
     have := key_mono HS.out (i := k) (j := i) h2 h1
     rw [HX.out] at this
     omega
  ·obtain rfl : hi = lo := by omega
   have hpos : posP f l t = hi := posP_of (by have := HM.out; omega) (fun i h1 h2 => I.out.1 i h1 h2) (fun h1 => I.out.2 hi h1 (Nat.le_refl _))
   have HP := Lib.hid hpos
   clear hpos
   by_cases hn : hi < m
   ·have hkl : hi < l.length := by have := HM.out; omega
    have hb : ∃ b o, a = some ⟨b, o, none⟩ /\ wr.cell? ⟨b, o + hi * 2, none⟩ = some (.int .i64 (f l[hi])) /\ wr.cell? ⟨b, o + hi * 2 + 1, none⟩ = some (g l[hi]) := by
     rcases pair_cells H.out with ⟨_, h0⟩ | ⟨b, o, cap2, h1, _, _, _, h5⟩
     ·subst h0; simp at hkl
     ·rw [HM.out] at h1
      injection h1 with h1 _ _
      exact ⟨b, o, h1, T1.out.cell (h5 hi hkl).1 (fun h => h), T1.out.cell (h5 hi hkl).2 (fun h => h)⟩
    obtain ⟨b, o, rfl, hc1, hc2⟩ := hb
    have hy : (g l[hi]).oneCell' = true := HG.out _ (List.getElem_mem hkl)
    obtain ⟨x, hx⟩ : ∃ x, f l[hi] = x := ⟨_, rfl⟩
    obtain ⟨y, hyy⟩ : ∃ y, g l[hi] = y := ⟨_, rfl⟩
    rw [hx] at hc1
    rw [hyy] at hc2 hy
    have HF : Hid (hasP f l t = decide (x = t)) := by
     rw [Hid, Bool.eq_iff_iff, hasP_pos HS.out, decide_eq_true_eq]
     simp only [HP.out, hx]
     exact ⟨fun ⟨_, h⟩ => h, fun h => ⟨hkl, h⟩⟩
    have HC := Lib.hid (fun W => pends_cmp x t y W hy)
    have hyc := one_cells hy
    simp only [Value.cells] at hyc
    clear hx hyy hy
    by_cases hyx : x = t
    ·have hci : cmpI x t = 0 := by unfold cmpI; rw [if_neg (by omega), if_neg (by omega)]
     have hd : Hid (hasP f l t = true) := by rw [Hid, HF.out]; simp [hyx]
     rw [hci] at HC
     clear hci hyx
     go_wp2_with (go_at_call 220; refine (HC.out _).mono ?_; rintro e w' ⟨rfl, T2⟩)
     go_ret2
     refine ⟨?_, T1.out.trans0 T2⟩
     rw [HP.out, hd.out]; rfl
    ·have hci : (cmpI x t == 0) = false := by unfold cmpI; (repeat' split) <;> first | rfl | (exfalso; omega)
     have hci2 : ¬ cmpI x t = 0 := by simpa using hci
     have hd : Hid (hasP f l t = false) := by rw [Hid, HF.out]; simp [hyx]
     go_wp2_with (go_at_call 220; refine (HC.out _).mono ?_; rintro e w' ⟨rfl, T2⟩)
     go_ret2
     refine ⟨?_, T1.out.trans0 T2⟩
     rw [HP.out, hd.out]; rfl
   ·have hd : Hid (hasP f l t = false) := by
     rw [Hid]
     cases e : hasP f l t with
     | false => rfl
     | true => obtain ⟨h, _⟩ := (hasP_pos HS.out t).1 e; rw [HP.out, HM.out] at h; omega
    go_wp2_with fail
    go_ret2
    refine ⟨?_, T1.out⟩
    rw [HP.out, hd.out]; rfl
theorem takeWhile_map_len {α β : Type} (f : α -> β) (p : β -> Bool) (l : List α) : ((l.map f).takeWhile p).length = (l.takeWhile (fun x => p (f x))).length := by
 induction l with
 | nil => rfl
 | cons a r ih =>
  rw [List.map_cons, List.takeWhile_cons, List.takeWhile_cons]
  cases p (f a) <;> simp [ih]
theorem posP_map {α : Type} (f : α -> Int) (l : List α) (t : Int) : posP f l t = posP id (l.map f) t := by
 unfold posP; rw [takeWhile_map_len]; rfl
theorem hasP_map {α : Type} (f : α -> Int) (l : List α) (t : Int) : hasP f l t = hasP id (l.map f) t := by
 unfold hasP; rw [List.any_map]; rfl
theorem CellsAt.one {w : World} {v : Value} {n size : Nat} {cs : List Value} (h : CellsAt w v n size cs) : v.oneCell' = true := by
 obtain ⟨a, cap, rfl, _⟩ := h.shape; rfl
theorem zip_fst {l : List Int} {vs : List Value} (h : vs.length = l.length) : (l.zip vs).map Prod.fst = l := List.map_fst_zip (by omega)
theorem ends_any (l : List EndM) (hs : strictB (l.map (·.tid)) = true) (hl : l.length <= 1000000000) (t : Int) (v : Value) (w : World) (h : IsEnds w v l) :
  Calls Tryz.prog 57 #[v, .int .i64 t] w fun e w' => e = .returned (.tuple #[.int .i64 (posP (·.tid) l t : Nat), .bool (hasP (·.tid) l t)]) /\ Tch No w w' := by
 have hb := Lib.hid (ends_bs (fun e : EndM => e.tid) (fun e => .bool e.yes) l hs t v w (show CellsAt w v l.length 2 (l.flatMap (fun x : EndM => [.int .i64 x.tid, .bool x.yes])) from h) (fun _ _ => rfl) hl)
 obtain ⟨a, cap, rfl, _⟩ := CellsAt.shape h
 clear h hs hl
 obtain ⟨p, hp⟩ : ∃ p, posP (·.tid) l t = p := ⟨_, rfl⟩
 obtain ⟨q, hq⟩ : ∃ q, hasP (·.tid) l t = q := ⟨_, rfl⟩
 rw [hp, hq] at hb ⊢
 clear hp hq
 go_enter Tryz.func57, Tryz.ntmps57
 go_wp2_with (go_at_call 164; refine hb.out.mono ?_; rintro e w' ⟨rfl, T⟩)
 go_ret2
 exact ⟨rfl, T⟩
theorem waits_any (l : List BrM) (hs : strictB (l.map (·.tid)) = true) (hl : l.length <= 1000000000) (t : Int) (v : Value) (w : World) (h : IsBrs w v l) :
  Calls Tryz.prog 167 #[v, .int .i64 t] w fun e w' => e = .returned (.tuple #[.int .i64 (posP (·.tid) l t : Nat), .bool (hasP (·.tid) l t)]) /\ Tch No w w' := by
 obtain ⟨vs, h1, h2, h3⟩ := h
 have hz : ((l.map (·.tid)).zip vs).length = l.length := by rw [List.length_zip, List.length_map, h1, Nat.min_self]
 have hz2 := zip_fst (l := l.map (·.tid)) (vs := vs) (by simpa using h1)
 have hone : ∀ x ∈ (l.map (·.tid)).zip vs, x.2.oneCell' = true := fun x hx => by
  obtain ⟨i, hi, e⟩ := List.getElem_of_mem (List.of_mem_zip (a := x.1) (b := x.2) hx).2
  rw [<- e]; exact CellsAt.one (h3 i (by omega) hi)
 have hb := Lib.hid (waits_bs Prod.fst Prod.snd ((l.map (·.tid)).zip vs) (by rw [hz2]; exact hs) t v w (by rw [hz]; exact h2) hone (by omega))
 obtain ⟨a, cap, rfl, _⟩ := CellsAt.shape h2
 rw [posP_map, hasP_map, hz2, <- posP_map, <- hasP_map] at hb
 clear h1 h2 h3 hs hl hz hz2 hone
 obtain ⟨p, hp⟩ : ∃ p, posP (·.tid) l t = p := ⟨_, rfl⟩
 obtain ⟨q, hq⟩ : ∃ q, hasP (·.tid) l t = q := ⟨_, rfl⟩
 rw [hp, hq] at hb ⊢
 clear hp hq
 go_enter Tryz.func167, Tryz.ntmps167
 go_wp2_with (go_at_call 217; refine hb.out.mono ?_; rintro e w' ⟨rfl, T⟩)
 go_ret2
 exact ⟨rfl, T⟩
theorem pends_any (l : List PendM) (hs : strictB (l.map (·.tid)) = true) (hl : l.length <= 1000000000) (t : Int) (v : Value) (w : World) (h : IsPends w v l) :
  Calls Tryz.prog 168 #[v, .int .i64 t] w fun e w' => e = .returned (.tuple #[.int .i64 (posP (·.tid) l t : Nat), .bool (hasP (·.tid) l t)]) /\ Tch No w w' := by
 obtain ⟨vs, h1, h2, h3⟩ := h
 have hz : ((l.map (·.tid)).zip vs).length = l.length := by rw [List.length_zip, List.length_map, h1, Nat.min_self]
 have hz2 := zip_fst (l := l.map (·.tid)) (vs := vs) (by simpa using h1)
 have hone : ∀ x ∈ (l.map (·.tid)).zip vs, x.2.oneCell' = true := fun x hx => by
  obtain ⟨i, hi, e⟩ := List.getElem_of_mem (List.of_mem_zip (a := x.1) (b := x.2) hx).2
  rw [<- e]; exact CellsAt.one (h3 i (by omega) hi)
 have hb := Lib.hid (pends_bs Prod.fst Prod.snd ((l.map (·.tid)).zip vs) (by rw [hz2]; exact hs) t v w (by rw [hz]; exact h2) hone (by omega))
 obtain ⟨a, cap, rfl, _⟩ := CellsAt.shape h2
 rw [posP_map, hasP_map, hz2, <- posP_map, <- hasP_map] at hb
 clear h1 h2 h3 hs hl hz hz2 hone
 obtain ⟨p, hp⟩ : ∃ p, posP (·.tid) l t = p := ⟨_, rfl⟩
 obtain ⟨q, hq⟩ : ∃ q, hasP (·.tid) l t = q := ⟨_, rfl⟩
 rw [hp, hq] at hb ⊢
 clear hp hq
 go_enter Tryz.func168, Tryz.ntmps168
 go_wp2_with (go_at_call 219; refine hb.out.mono ?_; rintro e w' ⟨rfl, T⟩)
 go_ret2
 exact ⟨rfl, T⟩
end
end Go.Proofs.YtafndmnbnmlklaaGreat
