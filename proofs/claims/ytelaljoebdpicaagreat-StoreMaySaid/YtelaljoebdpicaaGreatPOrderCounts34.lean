/- Part 34 of what the proof of OrderCounts rests on. No condition. -/
import Derived.Test.YtelaljoebdpicaaGreatPOrderCounts33
namespace Go.Proofs.YtelaljoebdpicaaGreat
set_option maxRecDepth 100000
set_option maxHeartbeats 60000000
set_option linter.unusedVariables false
set_option linter.unusedSimpArgs false
set_option linter.unusedSectionVars false
namespace Ev
open Go Go.RowKit Go.Maps
inductive T (α : Type) | lf | nd (v : Option α) (l r : T α)
def T.get {α : Type} : T α -> Nat -> Option α
 | .lf, _ => none
 | .nd v l r, k => match k with
  | 0 => v
  | k + 1 => match k % 2 with
   | 0 => l.get (k / 2)
   | _ + 1 => r.get (k / 2)
def T.v {α : Type} : T α -> Option α | .lf => none | .nd v _ _ => v
def T.l {α : Type} : T α -> T α | .lf => .lf | .nd _ l _ => l
def T.r {α : Type} : T α -> T α | .lf => .lf | .nd _ _ r => r
def T.set {α : Type} : Nat -> T α -> Nat -> α -> Option (T α)
 | 0, _, _, _ => none
 | f + 1, t, k, x => match k with
  | 0 => some (.nd (some x) t.l t.r)
  | k + 1 => match k % 2 with
   | 0 => (T.set f t.l (k / 2) x).map fun l => .nd t.v l t.r
   | _ + 1 => (T.set f t.r (k / 2) x).map fun r => .nd t.v t.l r
def T.put {α : Type} : Nat -> T α -> Nat -> α -> Option (T α)
 | 0, _, _, _ => none
 | f + 1, .lf, k, x => match k with
  | 0 => some (.nd (some x) .lf .lf)
  | k + 1 => match k % 2 with
   | 0 => (T.put f .lf (k / 2) x).map fun l => .nd none l .lf
   | _ + 1 => (T.put f .lf (k / 2) x).map fun r => .nd none .lf r
 | f + 1, .nd v l r, k, x => match k with
  | 0 => some (.nd (some x) l r)
  | k + 1 => match k % 2 with
   | 0 => (T.put f l (k / 2) x).map fun l => .nd v l r
   | _ + 1 => (T.put f r (k / 2) x).map fun r => .nd v l r
theorem T.put_eq {α : Type} : ∀ (f : Nat) (t : T α) (k : Nat) (x : α), T.put f t k x = T.set f t k x
 | 0, t, k, x => by cases t <;> rfl
 | f + 1, .lf, k, x => by
  have ih := T.put_eq (α := α) f
  cases k with
  | zero => rfl
  | succ k =>
   show (match k % 2 with | 0 => (T.put f .lf (k / 2) x).map _ | _ + 1 => (T.put f .lf (k / 2) x).map _) = _
   rw [ih]; rfl
 | f + 1, .nd v l r, k, x => by
  have ih := T.put_eq (α := α) f
  cases k with
  | zero => rfl
  | succ k =>
   show (match k % 2 with | 0 => (T.put f l (k / 2) x).map _ | _ + 1 => (T.put f r (k / 2) x).map _) = _
   rw [ih, ih]; rfl
theorem T.get_0 {α : Type} (t : T α) : t.get 0 = t.v := by cases t <;> simp [T.get, T.v]
theorem T.get_s {α : Type} (t : T α) (j : Nat) : t.get (j + 1) = match j % 2 with | 0 => t.l.get (j / 2) | _ + 1 => t.r.get (j / 2) := by
 cases t with
 | lf => simp only [T.get, T.l, T.r]; split <;> rfl
 | nd v l r => simp [T.get, T.l, T.r]
theorem half_ne {k j : Nat} (h : j ≠ k) (hm : j % 2 = k % 2) : j / 2 ≠ k / 2 := by omega
theorem T.get_set {α : Type} : ∀ {f : Nat} {t t' : T α} {k : Nat} {x : α}, t.set f k x = some t' -> ∀ j, t'.get j = if j = k then some x else t.get j
 | 0, _, _, _, _, h, _ => by simp [T.set] at h
 | f + 1, t, t', k, x, h, j => by
  cases k with
  | zero =>
   simp only [T.set, Option.some.injEq] at h
   subst h
   cases j with
   | zero => simp [T.get]
   | succ j => rw [T.get_s, T.get_s]; simp [T.l, T.r]
  | succ k =>
   simp only [T.set] at h
   split at h
   ·rename_i hm
    rw [Option.map_eq_some_iff] at h
    obtain ⟨l', h1, rfl⟩ := h
    cases j with
    | zero => rw [T.get_0, T.get_0]; simp [T.v]
    | succ j =>
     rw [T.get_s, T.get_s]
     simp only [T.l, T.r, Nat.add_right_cancel_iff]
     have ih := T.get_set h1 (j / 2)
     by_cases e : j = k
     ·subst e; simp [hm, ih]
     ·rw [if_neg e]
      cases hj : j % 2 with
      | zero => simp only; rw [ih, if_neg (half_ne e (by omega))]; rfl
      | succ q => rfl
   ·rename_i q hm
    rw [Option.map_eq_some_iff] at h
    obtain ⟨r', h1, rfl⟩ := h
    cases j with
    | zero => rw [T.get_0, T.get_0]; simp [T.v]
    | succ j =>
     rw [T.get_s, T.get_s]
     simp only [T.l, T.r, Nat.add_right_cancel_iff]
     have ih := T.get_set h1 (j / 2)
     by_cases e : j = k
     ·subst e; simp [hm, ih]
     ·rw [if_neg e]
      cases hj : j % 2 with
      | zero => rfl
      | succ q2 =>
       have hk : k % 2 < 2 := Nat.mod_lt _ (by decide)
       have hj2 : j % 2 < 2 := Nat.mod_lt _ (by decide)
       simp only; rw [ih, if_neg (half_ne e (by omega))]; rfl
theorem T.get_put {α : Type} {f : Nat} {t t' : T α} {k : Nat} {x : α} (h : t.put f k x = some t') : ∀ j, t'.get j = if j = k then some x else t.get j := T.get_set (by rw [<- T.put_eq]; exact h)
abbrev HT := T (Option AO)
def hg (t : HT) : Heap := fun i => (t.get i).join
def dep : Nat := 40
def Ef.apT (n : Nat) (t : HT) : Ef -> Option HT
 | .no _ => some t
 | .new _ o => t.put dep n (some o)
 | .set _ i o => t.put dep i (some o)
 | .mv _ i o => match t.put dep i none with
  | some t1 => t1.put dep n (some o)
  | none => none
theorem apT_ok {n : Nat} {t t' : HT} {e : Ef} (h : e.apT n t = some t') : hg t' = e.ap n (hg t) := by
 funext j
 cases e with
 | no F => simp only [Ef.apT, Option.some.injEq] at h; subst h; rfl
 | new F o => simp only [Ef.apT] at h; unfold hg; rw [T.get_put h]; simp only [Ef.ap]; split <;> rfl
 | set F i o => simp only [Ef.apT] at h; unfold hg; rw [T.get_put h]; simp only [Ef.ap]; split <;> rfl
 | mv F i o =>
  simp only [Ef.apT] at h
  split at h
  ·rename_i t1 h1
   unfold hg; rw [T.get_put h, T.get_put h1]; simp only [Ef.ap]; split
   ·rfl
   ·split <;> rfl
  ·cases h
def Ef.Wm : Ef -> Nat | .no _ => 0 | .new _ _ => 0 | .set _ i _ => one i | .mv _ i _ => one i
def Ef.chk (n : Nat) (t : HT) : Ef -> Bool
 | .no _ => true | .new _ _ => true
 | .set F i _ => (hg t i).isSome && tb F i && decide (i < n)
 | .mv F i _ => (hg t i).isSome && tb F i && decide (i < n)
def aop (P : Program) (H : Heap) (n : Nat) (A : Operand -> Option S) (o : Oper) : Option (S × Ef) := match o.op with
 | .move x => (A x).map fun s => (s, .no 0)
 | .assign x => (A x).map fun s => (s, .no 0)
 | .pick c x y => aPick A c x y
 | .alloc t => aAlloc P n t
 | .box t x => (S.v? (A x)).map fun v => (.v (.c (.ptr n 0)), .new 0 ⟨t, v.cells, false, .ok⟩)
 | .build t parts => aBuild P A t parts
 | .buildSlice t len parts => aBs P A n t len parts
 | .load t x => aLoad P H A t x
 | .store t x y => aStore P H A t x y
 | .nilCheck x => aNil A x
 | .binOp op t x y _ => aBin2 P A op t x y
 | .unOp op _ x => aUn A op x
 | .convert s d x => aConv P H A n s d x
 | .makeFunc fn a b => aMf A fn a b
 | .makeSlice t l c => aMake P A n t l c
 | .slice t x lo hi mx => aSl P A t x lo hi mx
 | .fieldAddr t x f => aFa P A t x f
 | .field t x f => aField P A t x f
 | .indexAddr t x y => aIa P A t x y
 | .index t x y => aIx P A t x y
 | .extract x i => aExt A x i
 | .makeMap t r => aMm n t r
 | .lookup t x y ok => aLk P H A t x y ok
 | .mapUpdate t x y z => aMu P H A t x y z
 | .call c => match c.callee, c.args.toList, c.argTypes.toList with
  | .builtin .len, [x], [t] => aLen P A t x
  | .builtin .cap, [x], [t] => aCap P A t x
  | .builtin .min, [x, y], _ => aMin A x y
  | .builtin .copy, [d, x], [t, _] => aCopy P H A t d x
  | .builtin .clear, [x], [t] => aClear P H A t x
  | .builtin .append, [s, x], [t, t2] => aApp P H A n t t2 s x
  | _, _, _ => none
 | _ => none
section
variable {P : Program} {ρ : Operand -> Value} {o : Oper} {σ : Nat -> Blk} {D : Nat -> Prop} {w : World} {H : Heap} {n : Nat} {A : Operand -> Option S}
theorem aop_ok {s : S} {e : Ef} (h : aop P H n A o = some (s, e)) (hA : Eqv σ D A ρ) (hD : n < e.n' n -> ¬ D n) (hs : Sat σ D (rst (tb e.F) H) w) : AOK P ρ o σ D w H n s e := by
 unfold aop at h
 split at h
 ·rename_i x ho
  rw [Option.map_eq_some_iff] at h
  obtain ⟨s', h1, h2⟩ := h
  cases h2; exact move_ok ho hA h1 hs
 ·rename_i x ho
  rw [Option.map_eq_some_iff] at h
  obtain ⟨s', h1, h2⟩ := h
  cases h2; exact assign_ok ho hA h1 hs
 ·rename_i ho; exact pick_ok ho hA h hs
 ·rename_i ho; exact alloc_ok ho hD h hs
 ·rename_i t x ho
  rw [Option.map_eq_some_iff] at h
  obtain ⟨s', h1, h2⟩ := h
  cases h2; exact box_ok ho hA (hD (Nat.lt_succ_self n)) h1 hs
 ·rename_i ho; exact build_ok ho hA h hs
 ·rename_i ho; exact bs_ok ho hA hD h hs
 ·rename_i ho; exact load_ok ho hA h hs
 ·rename_i ho; exact store_ok ho hA h hs
 ·rename_i ho; exact nil_ok ho hA h hs
 ·rename_i ho; exact bin2_ok ho hA h hs
 ·rename_i ho; exact un_ok ho hA h hs
 ·rename_i ho; exact conv_ok ho hA hD h hs
 ·rename_i ho; exact mf_ok ho hA h hs
 ·rename_i ho; exact make_ok ho hA hD h hs
 ·rename_i ho; exact sl_ok ho hA h hs
 ·rename_i ho; exact fa_ok ho hA h hs
 ·rename_i ho; exact field_ok ho hA h hs
 ·rename_i ho; exact ia_ok ho hA h hs
 ·rename_i ho; exact ix_ok ho hA h hs
 ·rename_i ho; exact ext_ok ho hA h hs
 ·rename_i ho; exact mm_ok ho hD h hs
 ·rename_i ho; exact lk_ok ho hA h hs
 ·rename_i ho; exact mu_ok ho hA h hs
 ·rename_i c ho
  have mk : ∀ {b : Builtin} {l : List Operand} {m : List TypeId}, c.callee = .builtin b -> c.args.toList = l -> c.argTypes.toList = m -> o.op = .call { callee := .builtin b, args := l.toArray, argTypes := m.toArray } := fun h1 h2 h3 => by
   rw [ho]
   cases c
   simp only at h1 h2 h3
   subst h1; subst h2; subst h3
   simp
  split at h
  ·rename_i x t h1 h2 h3; exact len_ok (mk h1 h2 h3) hA h hs
  ·rename_i x t h1 h2 h3; exact cap_ok (mk h1 h2 h3) hA h hs
  ·rename_i x y h1 h2; exact min_ok (mk h1 h2 rfl) hA h hs
  ·rename_i d x t t2 h1 h2 h3; exact copy_ok (mk h1 h2 h3) hA h hs
  ·rename_i x t h1 h2 h3; exact clear_ok (mk h1 h2 h3) hA h hs
  ·rename_i s x t t2 h1 h2 h3; exact app_ok (mk h1 h2 h3) hA hD h hs
  ·cases h
 ·cases h
end
structure Inv (H H' : Heap) (n n' F W : Nat) : Prop where
 le : n <= n'
 low : ∀ i, i < n -> tb W i = false -> H' i = H i
 dom : (∀ i, n <= i -> H i = none) -> ∀ i, n' <= i -> H' i = none
 sub : ∀ i, i < n -> tb W i = true -> tb F i = true
theorem tb_0 {i : Nat} : tb 0 i = false := by simp [tb]
theorem tb_one_ne {i j : Nat} (h : j ≠ i) : tb (one i) j = false := by
 unfold tb one
 rw [Nat.testBit_two_pow]
 simp; omega
theorem Ef.W_eq (e : Ef) : e.W = tb e.Wm := by
 funext j
 cases e with
 | no F => rw [Ef.Wm, tb_0]; rfl
 | new F o => rw [Ef.Wm, tb_0]; rfl
 | set F i o =>
  by_cases h : j = i
  ·subst h; rw [Ef.Wm, tb_one]; simp [Ef.W]
  ·rw [Ef.Wm, tb_one_ne h]; simp [Ef.W, h]
 | mv F i o =>
  by_cases h : j = i
  ·subst h; rw [Ef.Wm, tb_one]; simp [Ef.W]
  ·rw [Ef.Wm, tb_one_ne h]; simp [Ef.W, h]
theorem inv_ef {n : Nat} {t : HT} {e : Ef} (hc : e.chk n t = true) : Inv (hg t) (e.ap n (hg t)) n (e.n' n) e.F e.Wm := by
 cases e with
 | no F => exact ⟨Nat.le_refl _, fun _ _ _ => rfl, fun h => h, fun i _ h => by rw [Ef.Wm, tb_0] at h; cases h⟩
 | new F o => exact ⟨Nat.le_succ _, fun i hi _ => by simp [Ef.ap, Nat.ne_of_lt hi], fun h i hi => by
   have hn : i ≠ n := by simp only [Ef.n'] at hi; omega
   simp only [Ef.ap, if_neg hn]; exact h i (by simp only [Ef.n'] at hi; omega), fun i _ h => by rw [Ef.Wm, tb_0] at h; cases h⟩
 | set F k o =>
  simp only [Ef.chk, Bool.and_eq_true, decide_eq_true_eq] at hc
  obtain ⟨⟨h1, h2⟩, h3⟩ := hc
  refine ⟨Nat.le_refl _, fun i hi hw => ?_, fun h i hi => ?_, fun i _ h => ?_⟩
  ·have : i ≠ k := fun e => by subst e; rw [Ef.Wm, tb_one] at hw; cases hw
   simp [Ef.ap, this]
  ·have : i ≠ k := by simp only [Ef.n'] at hi; omega
   simp only [Ef.ap, if_neg this]; exact h i hi
  ·by_cases e : i = k
   ·subst e; exact h2
   ·rw [Ef.Wm, tb_one_ne e] at h; cases h
 | mv F k o =>
  simp only [Ef.chk, Bool.and_eq_true, decide_eq_true_eq] at hc
  obtain ⟨⟨h1, h2⟩, h3⟩ := hc
  refine ⟨Nat.le_succ _, fun i hi hw => ?_, fun h i hi => ?_, fun i _ h => ?_⟩
  ·have : i ≠ k := fun e => by subst e; rw [Ef.Wm, tb_one] at hw; cases hw
   simp [Ef.ap, this, Nat.ne_of_lt hi]
  ·have h4 : i ≠ k := by simp only [Ef.n'] at hi; omega
   have h5 : i ≠ n := by simp only [Ef.n'] at hi; omega
   simp only [Ef.ap, if_neg h5, if_neg h4]; exact h i (by simp only [Ef.n'] at hi; omega)
  ·by_cases e : i = k
   ·subst e; exact h2
   ·rw [Ef.Wm, tb_one_ne e] at h; cases h
theorem Inv.seq {H H1 H2 : Heap} {n n1 n2 F1 F2 W1 W2 : Nat} (a : Inv H H1 n n1 F1 W1) (b : Inv H1 H2 n1 n2 F2 W2) : Inv H H2 n n2 (F1 ||| F2) (W1 ||| W2) :=
 ⟨Nat.le_trans a.le b.le, fun i hi hw => by
  rw [tb_or, Bool.or_eq_false_iff] at hw
  rw [b.low i (Nat.lt_of_lt_of_le hi a.le) hw.2, a.low i hi hw.1], fun h => b.dom (a.dom h), fun i hi hw => by
  rw [tb_or] at hw ⊢
  cases h1 : tb W1 i with
  | true => rw [a.sub i hi h1]; rfl
  | false =>
   rw [h1, Bool.false_or] at hw
   rw [b.sub i (Nat.lt_of_lt_of_le hi a.le) hw, Bool.or_true]⟩
theorem Inv.refl (H : Heap) (n : Nat) : Inv H H n n 0 0 := ⟨Nat.le_refl _, fun _ _ _ => rfl, fun h => h, fun i _ h => by rw [tb_0] at h; cases h⟩
theorem more_more {D : Nat -> Prop} {n n1 n2 : Nat} (h1 : n <= n1) (h2 : n1 <= n2) : more (more D n n1) n1 n2 = more D n n2 := by
 funext i
 apply propext
 unfold more
 constructor
 ·rintro ((h | ⟨a, b⟩) | ⟨a, b⟩)
  ·exact .inl h
  ·exact .inr ⟨a, by omega⟩
  ·exact .inr ⟨by omega, b⟩
 ·rintro (h | ⟨a, b⟩)
  ·exact .inl (.inl h)
  ·by_cases c : i < n1
   ·exact .inl (.inr ⟨a, c⟩)
   ·exact .inr ⟨by omega, b⟩
theorem Sat.sub {σ : Nat -> Blk} {D : Nat -> Prop} {h g : Heap} {w : World} (hs : Sat σ D h w) (hg : ∀ i o, g i = some o -> h i = some o) : Sat σ D g w :=
 ⟨fun i o e => hs.obj i o (hg i o e), fun i j hi hj e => by
  obtain ⟨x, hx⟩ := Option.isSome_iff_exists.1 hi
  obtain ⟨y, hy⟩ := Option.isSome_iff_exists.1 hj
  exact hs.inj i j (some_of (hg i x hx)) (some_of (hg j y hy)) e⟩
theorem Out.trans {σ σ1 σ2 : Nat -> Blk} {D : Nat -> Prop} {w w1 w2 : World} {h h1 h2 : Heap} {n n1 n2 : Nat} {W1 W2 : Nat -> Bool} (hs : Sat σ D h w) (hD : ∀ i, n <= i -> i < n2 -> ¬ D i) (l1 : n <= n1) (l2 : n1 <= n2)
  (a : Out σ D w h h1 n n1 W1 σ1 w1) (b : Out σ1 (more D n n1) w1 h1 h2 n1 n2 W2 σ2 w2) : Out σ D w h h2 n n2 (fun i => W1 i || W2 i) σ2 w2 := by
 have hne : ∀ i, (h i).isSome = true -> ¬ (n <= i /\ i < n2) := fun i hh ⟨x, y⟩ => by
  obtain ⟨o, ho⟩ := Option.isSome_iff_exists.1 hh
  exact hD i x y (hs.obj i o ho).1
 have dead : ∀ j, (h j).isSome = true -> h1 j = none -> h2 j = none := fun j hj e => by
  cases e2 : h2 j with
  | none => rfl
  | some x =>
   have := b.old j (fun ⟨p, q⟩ => hne j hj ⟨by omega, q⟩) (some_of e2)
   rw [e] at this; cases this
 -- a block of an object that is alive behind the first piece
 have place : ∀ j, (h1 j).isSome = true -> (w.heap.size <= (σ1 j).b /\ (n <= j /\ j < n1)) ∨ (∃ i, W1 i = true /\ (h i).isSome = true /\ h1 i = none /\ (σ1 j).b = (σ i).b) ∨ (¬ (n <= j /\ j < n1) /\ (h j).isSome = true /\ σ1 j = σ j) := fun j hj => by
  by_cases c : n <= j /\ j < n1
  ·rcases a.new j c.1 c.2 hj with g | ⟨i, g1, g2, g3, g4⟩
   ·exact .inl ⟨g, c⟩
   ·exact .inr (.inl ⟨i, g1, g2, g3, g4⟩)
  ·exact .inr (.inr ⟨c, a.old j c hj, a.same j c⟩)
 refine ⟨fun i hi => ?_, ?_, ?_, fun i hi hh => ?_, fun i hi hi2 hh => ?_⟩
 ·rw [b.same i (fun ⟨p, q⟩ => hi ⟨by omega, q⟩), a.same i (fun ⟨p, q⟩ => hi ⟨p, by omega⟩)]
 ·have := b.sat
  rwa [more_more l1 l2] at this
 ·refine (a.tch.mono (G := fun k => ∃ i, (W1 i || W2 i) = true /\ (h i).isSome = true /\ k = (σ i).b) (fun k _ ⟨i, g1, g2, g3⟩ => ⟨i, by rw [g1]; rfl, g2, g3⟩)).trans b.tch (fun k hk ⟨i, g1, g2, g3⟩ => ?_)
  rcases place i g2 with ⟨c, _⟩ | ⟨j, c1, c2, c3, c4⟩ | ⟨c1, c2, c3⟩
  ·omega
  ·exact ⟨j, by rw [c1]; rfl, c2, by rw [g3, c4]⟩
  ·exact ⟨i, by rw [g1, Bool.or_true], c2, by rw [g3, c3]⟩
 ·exact a.old i (fun ⟨p, q⟩ => hi ⟨p, by omega⟩) (b.old i (fun ⟨p, q⟩ => hi ⟨by omega, q⟩) hh)
 ·by_cases c : n1 <= i
  ·rcases b.new i c hi2 hh with g | ⟨j, g1, g2, g3, g4⟩
   ·exact .inl (Nat.le_trans a.tch.size g)
   ·rcases place j g2 with ⟨c, _⟩ | ⟨j', c1, c2, c3, c4⟩ | ⟨c1, c2, c3⟩
    ·exact .inl (by rw [g4]; exact c)
    ·exact .inr ⟨j', by rw [c1]; rfl, c2, dead j' c2 c3, by rw [g4, c4]⟩
    ·exact .inr ⟨j, by rw [g1, Bool.or_true], c2, g3, by rw [g4, c3]⟩
  ·have hn : ¬ (n1 <= i /\ i < n2) := fun ⟨p, _⟩ => c p
   rcases a.new i hi (by omega) (b.old i hn hh) with g | ⟨j, g1, g2, g3, g4⟩
   ·exact .inl (by rw [b.same i hn]; exact g)
   ·exact .inr ⟨j, by rw [g1]; rfl, g2, dead j g2 g3, by rw [b.same i hn]; exact g4⟩
theorem out_seq {σ σ1 σ2 : Nat -> Blk} {D : Nat -> Prop} {w w1 w2 : World} {H H1 H2 : Heap} {n n1 n2 F1 F2 W1 W2 F : Nat} (hF1 : ∀ i, tb F1 i = true -> tb F i = true) (hF2 : ∀ i, tb F2 i = true -> tb F i = true) (hdom : ∀ i, n <= i -> H i = none)
  (i1 : Inv H H1 n n1 F1 W1) (i2 : Inv H1 H2 n1 n2 F2 W2) (hs : Sat σ D (rst (tb F) H) w) (hD : ∀ i, n <= i -> i < n2 -> ¬ D i)
  (a : Out σ D w (rst (tb F1) H) (aft (tb F1) n n1 H1) n n1 (tb W1) σ1 w1) :
  Sat σ1 (more D n n1) (rst (tb F2) H1) w1 /\ Sat σ1 (more D n n1) (aft (tb F) n n1 H1) w1 /\ (Out σ1 (more D n n1) w1 (rst (tb F2) H1) (aft (tb F2) n1 n2 H2) n1 n2 (tb W2) σ2 w2 -> Out σ D w (rst (tb F) H) (aft (tb F) n n2 H2) n n2 (fun i => tb W1 i || tb W2 i) σ2 w2) := by
 have e1 : upd (tb F1) n n1 (rst (tb F) H) (aft (tb F1) n n1 H1) = aft (tb F) n n1 H1 := by
  funext i
  unfold upd aft rst
  by_cases c : tb F1 i = true ∨ (n <= i /\ i < n1)
  ·have c2 : (tb F1 i || (decide (n <= i) && decide (i < n1))) = true := by simpa using c
   rw [if_pos c2, if_pos c, if_pos (c.imp (hF1 i) id)]
  ·have c2 : ¬ ((tb F1 i || (decide (n <= i) && decide (i < n1))) = true) := by simpa using c
   rw [if_neg c2]
   by_cases d : tb F i = true
   ·rw [if_pos d, if_pos (.inl d)]
    have cF : tb F1 i = false := by cases e : tb F1 i with | false => rfl | true => exact absurd (.inl e) c
    by_cases lt : i < n
    ·refine (i1.low i lt ?_).symm
     cases e : tb W1 i with
     | false => rfl
     | true => have := i1.sub i lt e; rw [cF] at this; cases this
    ·have : ¬ i < n1 := fun h => c (.inr ⟨by omega, h⟩)
     rw [hdom i (by omega), i1.dom hdom i (by omega)]
   ·rw [if_neg d, if_neg (fun h => h.elim d (fun h => c (.inr h)))]
 have hW1 : ∀ i, tb W1 i = true -> (rst (tb F1) H i).isSome = true -> tb F1 i = true := fun i _ h => by
  obtain ⟨x, hx⟩ := Option.isSome_iff_exists.1 h
  exact (rst_some.1 hx).1
 have a' : Out σ D w (rst (tb F) H) (aft (tb F) n n1 H1) n n1 (fun i => tb W1 i && tb F1 i) σ1 w1 := by
  rw [<- e1]
  refine frame hs (g := rst (tb F1) H) (F := tb F1) (fun i hi => ?_) (fun i hi => ?_) (fun i h1 h2 => hD i h1 (Nat.lt_of_lt_of_le h2 i2.le)) ?_ (fun i h => by simp at h; exact h.2)
  ·unfold rst; rw [if_pos hi, if_pos (hF1 i hi)]
  ·unfold rst; rw [if_neg (by rw [hi]; simp)]
  ·refine ⟨a.same, a.sat, a.tch.mono (fun k _ ⟨i, g1, g2, g3⟩ => ⟨i, by rw [g1, hW1 i g1 g2]; rfl, g2, g3⟩), a.old, fun i h1 h2 h3 => ?_⟩
   rcases a.new i h1 h2 h3 with g | ⟨j, g1, g2, g3, g4⟩
   ·exact .inl g
   ·exact .inr ⟨j, by rw [g1, hW1 j g1 g2]; rfl, g2, g3, g4⟩
 have s1 : Sat σ1 (more D n n1) (aft (tb F) n n1 H1) w1 := a'.sat
 refine ⟨s1.sub (fun i o e => ?_), s1, fun b => ?_⟩
 ·obtain ⟨g1, g2⟩ := rst_some.1 e
  exact aft_some.2 ⟨.inl (hF2 i g1), g2⟩
 ·have e2 : upd (tb F2) n1 n2 (aft (tb F) n n1 H1) (aft (tb F2) n1 n2 H2) = aft (tb F) n n2 H2 := by
   funext i
   unfold upd aft
   by_cases c : tb F2 i = true ∨ (n1 <= i /\ i < n2)
   ·have c2 : (tb F2 i || (decide (n1 <= i) && decide (i < n2))) = true := by simpa using c
    rw [if_pos c2, if_pos c, if_pos (c.imp (hF2 i) (fun ⟨p, q⟩ => ⟨Nat.le_trans i1.le p, q⟩))]
   ·have c2 : ¬ ((tb F2 i || (decide (n1 <= i) && decide (i < n2))) = true) := by simpa using c
    rw [if_neg c2]
    have cF : tb F2 i = false := by cases e : tb F2 i with | false => rfl | true => exact absurd (.inl e) c
    have same : H1 i = H2 i := by
     by_cases lt : i < n1
     ·refine (i2.low i lt ?_).symm
      cases e : tb W2 i with
      | false => rfl
      | true => have := i2.sub i lt e; rw [cF] at this; cases this
     ·have : ¬ i < n2 := fun h => c (.inr ⟨by omega, h⟩)
      rw [i1.dom hdom i (by omega), i2.dom (i1.dom hdom) i (by omega)]
    by_cases d : tb F i = true ∨ (n <= i /\ i < n1)
    ·rw [if_pos d, if_pos (d.imp id (fun ⟨p, q⟩ => ⟨p, Nat.lt_of_lt_of_le q i2.le⟩)), same]
    ·rw [if_neg d]
     by_cases d2 : tb F i = true ∨ (n <= i /\ i < n2)
     ·exfalso
      rcases d2 with d2 | ⟨p, q⟩
      ·exact d (.inl d2)
      ·by_cases lt : i < n1
       ·exact d (.inr ⟨p, lt⟩)
       ·exact c (.inr ⟨by omega, q⟩)
     ·rw [if_neg d2]
  have hW2 : ∀ i, tb W2 i = true -> (rst (tb F2) H1 i).isSome = true -> tb F2 i = true := fun i _ h => by
   obtain ⟨x, hx⟩ := Option.isSome_iff_exists.1 h
   exact (rst_some.1 hx).1
  have hD2 : ∀ i, n1 <= i -> i < n2 -> ¬ more D n n1 i := fun i p q h => h.elim (hD i (Nat.le_trans i1.le p) q) (fun ⟨_, r⟩ => by omega)
  have b' : Out σ1 (more D n n1) w1 (aft (tb F) n n1 H1) (aft (tb F) n n2 H2) n1 n2 (fun i => tb W2 i && tb F2 i) σ2 w2 := by
   rw [<- e2]
   refine frame s1 (g := rst (tb F2) H1) (F := tb F2) (fun i hi => ?_) (fun i hi => ?_) hD2 ?_ (fun i h => by simp at h; exact h.2)
   ·unfold rst aft; rw [if_pos hi, if_pos (.inl (hF2 i hi))]
   ·unfold rst; rw [if_neg (by rw [hi]; simp)]
   ·refine ⟨b.same, b.sat, b.tch.mono (fun k _ ⟨i, g1, g2, g3⟩ => ⟨i, by rw [g1, hW2 i g1 g2]; rfl, g2, g3⟩), b.old, fun i h1 h2 h3 => ?_⟩
    rcases b.new i h1 h2 h3 with g | ⟨j, g1, g2, g3, g4⟩
    ·exact .inl g
    ·exact .inr ⟨j, by rw [g1, hW2 j g1 g2]; rfl, g2, g3, g4⟩
  have t := Out.trans hs hD i1.le i2.le a' b'
  have wk : ∀ i, ((tb W1 i && tb F1 i) || (tb W2 i && tb F2 i)) = true -> (tb W1 i || tb W2 i) = true := fun i h => by
   cases h1 : tb W1 i <;> cases h2 : tb W2 i <;> simp_all
  exact ⟨t.same, t.sat, t.tch.mono (fun k _ ⟨i, g1, g2, g3⟩ => ⟨i, wk i g1, g2, g3⟩), t.old, fun i h1 h2 h3 => (t.new i h1 h2 h3).imp id (fun ⟨j, g1, g2, g3, g4⟩ => ⟨j, wk j g1, g2, g3, g4⟩)⟩
end Ev
end Go.Proofs.YtelaljoebdpicaaGreat
