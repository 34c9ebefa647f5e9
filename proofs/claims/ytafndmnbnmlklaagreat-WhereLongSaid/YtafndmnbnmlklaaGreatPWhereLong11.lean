/- Part 11 of what the proof of WhereLong rests on. No condition. -/
import Derived.Test.YtafndmnbnmlklaaGreatPWhereLong10
namespace Go.Proofs.YtafndmnbnmlklaaGreat
set_option maxRecDepth 100000
set_option maxHeartbeats 60000000
set_option linter.unusedVariables false
set_option linter.unusedSimpArgs false
set_option linter.unusedSectionVars false
namespace Ev
open Go Go.RowKit Go.Maps
def bitsOf (L : List Nat) (l : List Nat) : Nat := l.foldl (fun s e => s ||| one e ||| L.getD e 0) 0
def depsOf (o : Oper) : List Nat := (o.after.toList.filter (Region.binds .any)).map (·.on)
def befs : List Oper -> List Nat -> List Nat
 | [], L => L
 | o :: l, L => befs l (L ++ [bitsOf L (depsOf o)])
def allN (n : Nat) (p : Nat -> Bool) : Bool := (List.range n).all p
def befOk (ops : Array Oper) (L : List Nat) : Bool := allN ops.size fun j => (L.getD j 0 == bitsOf L (dps ops j)) && (dps ops j).all fun e => decide (e < j)
def slOk (ops : Array Oper) (L : List Nat) : Bool := allN ops.size fun j => match ops[j]? with
 | some oj => allN j fun i => (L.getD j 0).testBit i || (match ops[i]? with
  | some oi => Oper.apart ops oi oj
  | none => true)
 | none => true
def regOk (ops : Array Oper) : Bool := let L := befs ops.toList []; befOk ops L && slOk ops L
theorem bits_mem {L : List Nat} {k : Nat} : ∀ {l : List Nat} {s : Nat}, tb (l.foldl (fun s e => s ||| one e ||| L.getD e 0) s) k = true -> tb s k = true ∨ ∃ e ∈ l, k = e ∨ tb (L.getD e 0) k = true
 | [], s, h => .inl h
 | e :: l, s, h => by
  rw [List.foldl_cons] at h
  rcases bits_mem h with h | ⟨e', h1, h2⟩
  ·rw [tb_or, tb_or] at h
   simp only [Bool.or_eq_true] at h
   rcases h with (h | h) | h
   ·exact .inl h
   ·refine .inr ⟨e, by simp, .inl ?_⟩
    by_cases c : k = e
    ·exact c
    ·rw [tb_one_ne c] at h; cases h
   ·exact .inr ⟨e, by simp, .inr h⟩
  ·exact .inr ⟨e', List.mem_cons_of_mem _ h1, h2⟩
theorem bef_spec {ops : Array Oper} {L : List Nat} (h : befOk ops L = true) : (∀ j, j < ops.size -> ∀ e ∈ dps ops j, e < j) /\ ∀ j, j < ops.size -> ∀ k, tb (L.getD j 0) k = true -> ∃ e ∈ dps ops j, k = e ∨ tb (L.getD e 0) k = true := by
 unfold befOk allN at h
 simp only [List.all_eq_true, List.mem_range, Bool.and_eq_true, beq_iff_eq, decide_eq_true_eq] at h
 refine ⟨fun j hj => (h j hj).2, fun j hj k hk => ?_⟩
 rw [(h j hj).1] at hk
 rcases bits_mem hk with h1 | h1
 ·rw [tb_0] at h1; cases h1
 ·exact h1
theorem anc_closed {ops : Array Oper} {L : List Nat} (h : befOk ops L = true) {S : Nat -> Bool} (hcl : ∀ k, k < ops.size -> S k = true -> ∀ e ∈ dps ops k, S e = true) : ∀ j, j < ops.size -> (∀ e ∈ dps ops j, S e = true) -> ∀ k, tb (L.getD j 0) k = true -> S k = true := by
 obtain ⟨h1, h2⟩ := bef_spec h
 intro j
 induction j using Nat.strongRecOn with
 | _ j ih =>
  intro hj hd k hk
  obtain ⟨e, he, hk⟩ := h2 j hj k hk
  rcases hk with rfl | hk
  ·exact hd _ he
  ·have hlt := h1 j hj e he
   exact ih e hlt (by omega) (hcl e (by omega) (hd e he)) k hk
def memOk (L : List Nat) (rs : List (Nat × Nat)) : Bool := allN rs.length fun j => match rs[j]? with
 | some (Fj, Wj) => allN j fun i => (L.getD j 0).testBit i || (match rs[i]? with
  | some (Fi, Wi) => (Wi &&& Fj == 0) && (Wj &&& Fi == 0) && (Wi &&& Wj == 0)
  | none => true)
 | none => true
theorem and_0 {a b i : Nat} (h : (a &&& b == 0) = true) : tb a i = true -> tb b i = false := fun ha => by
 have h0 : a &&& b = 0 := by simpa using h
 have : (a &&& b).testBit i = false := by rw [h0]; simp
 rw [Nat.testBit_and] at this
 unfold tb at ha ⊢
 rw [ha] at this
 simpa using this
def nwm (n n' : Nat) : Nat := 2 ^ n' - 2 ^ n
theorem tb_nwm {n n' i : Nat} (h : n <= n') : tb (nwm n n') i = (decide (n <= i) && decide (i < n')) := by
 have e : nwm n n' = (2 ^ (n' - n) - 1) <<< n := by
  unfold nwm
  rw [Nat.shiftLeft_eq, Nat.sub_mul, <- Nat.pow_add, Nat.one_mul]
  congr 2; omega
 unfold tb
 rw [e, Nat.testBit_shiftLeft, Nat.testBit_two_pow_sub_one]
 by_cases c : n <= i
 ·have e1 : decide (i ≥ n) = true := decide_eq_true c
  rw [e1, Bool.true_and, Bool.true_and]
  congr 1
  apply propext
  omega
 ·have e1 : decide (i ≥ n) = false := decide_eq_false c
  rw [e1]; rfl
def orF (F : Nat -> Nat) : Nat -> Nat | 0 => 0 | k + 1 => orF F k ||| F k
theorem orF_mem {F : Nat -> Nat} {i : Nat} : ∀ {m k : Nat}, k < m -> tb (F k) i = true -> tb (orF F m) i = true
 | 0, k, h, _ => by omega
 | m + 1, k, h, hk => by
  rw [orF, tb_or]
  by_cases e : k = m
  ·subst e; rw [hk, Bool.or_true]
  ·rw [orF_mem (show k < m by omega) hk]; rfl
theorem inv_all {H : Nat -> Heap} {N F W : Nat -> Nat} : ∀ {m : Nat}, (∀ k, k < m -> Inv (H k) (H (k + 1)) (N k) (N (k + 1)) (F k) (W k)) -> Inv (H 0) (H m) (N 0) (N m) (orF F m) (orF W m)
 | 0, _ => Inv.refl _ _
 | m + 1, h => (inv_all (fun k hk => h k (Nat.lt_succ_of_lt hk))).seq (h m (Nat.lt_succ_self m))
section
variable {P : Program} {ops : Array Oper} {Q : Exit -> Act -> World -> Prop}
theorem region_any {idr nt : Nat} (hmix : P.follows .mixedOrders = true) (hreg : regOk ops = true) {st : Nat -> St} {F W : Nat -> Nat}
  (hinv : ∀ k, k < ops.size -> Inv (hg (st k).H) (hg (st (k + 1)).H) (st k).n (st (k + 1)).n (F k) (W k)) (hmem : memOk (befs ops.toList []) ((List.range ops.size).map fun k => (F k, W k ||| nwm (st k).n (st (k + 1)).n)) = true)
  (hstep : ∀ k o, ops[k]? = some o -> ∃ s : S, (∀ t, (st (k + 1)).A.get t = if o.dst = some t then some s else (st k).A.get t) /\ (∀ t, o.dst = some t -> t < nt) /\
   ∀ σ D w a K Q, (∀ t ∈ o.looksAt ops, ∀ s, (st k).A.get t = some s -> t < nt /\ RS σ D s (a.eval (.tmp t))) -> a.tmps.size = nt -> Sat σ D (rst (tb (F k)) (hg (st k).H)) w -> (∀ i, (st k).n <= i -> hg (st k).H i = none) -> (∀ i, (st k).n <= i -> i < (st (k + 1)).n -> ¬ D i) ->
    (∀ σ' v w', RS σ' (more D (st k).n (st (k + 1)).n) s v -> Out σ D w (rst (tb (F k)) (hg (st k).H)) (aft (tb (F k)) (st k).n (st (k + 1)).n (hg (st (k + 1)).H)) (st k).n (st (k + 1)).n (tb (W k)) σ' w' -> K (a.put o.dst v) w') ->
    (if Region.wanted o (yielded ops a.tmps) = true then Oper.wp P o a w K Q else K (a.put o.dst undef) w))
  {σ : Nat -> Blk} {D : Nat -> Prop} {w : World} {a : Act} (hA : RA σ D nt (st 0).A a) (hs : Sat σ D (rst (tb (orF F ops.size)) (hg (st 0).H)) w) (hdom : ∀ i, (st 0).n <= i -> hg (st 0).H i = none) (hD : ∀ i, (st 0).n <= i -> i < (st ops.size).n -> ¬ D i)
  (hQ : ∀ σ' a' w', RA σ' (more D (st 0).n (st ops.size).n) nt (st ops.size).A a' -> a'.defers = a.defers -> Out σ D w (rst (tb (orF F ops.size)) (hg (st 0).H)) (aft (tb (orF F ops.size)) (st 0).n (st ops.size).n (hg (st ops.size).H)) (st 0).n (st ops.size).n (tb (orF W ops.size)) σ' w' -> Q .normal a' w') :
  (Code.region idr ops true).wp P Q a w := by
 simp only [regOk, Bool.and_eq_true] at hreg
 obtain ⟨hbef, hsl⟩ := hreg
 generalize befs ops.toList [] = L at hbef hsl hmem
 obtain ⟨hless, _⟩ := bef_spec hbef
 -- numbers rise
 have hN : ∀ k, k <= ops.size -> ∀ j, j <= k -> (st j).n <= (st k).n := fun k => by
  induction k with
  | zero => intro _ j hj; rw [Nat.le_zero.1 hj]; exact Nat.le_refl _
  | succ k ih =>
   intro hk j hj
   by_cases e : j = k + 1
   ·rw [e]; exact Nat.le_refl _
   ·exact Nat.le_trans (ih (by omega) j (by omega)) (hinv k (by omega)).le
 have hdomk : ∀ k, k <= ops.size -> ∀ i, (st k).n <= i -> hg (st k).H i = none := fun k => by
  induction k with
  | zero => intro _; exact hdom
  | succ k ih => intro hk; exact (hinv k (by omega)).dom (ih (by omega))
 -- what a step turns
 let affH : Nat -> Nat -> Bool := fun k i => (tb (W k) i && decide (i < (st k).n)) || (decide ((st k).n <= i) && decide (i < (st (k + 1)).n))
 let affS : Nat -> Nat -> Bool := fun k t => ((ops[k]?).bind (·.dst)) == some t
 have noH : ∀ k, k < ops.size -> ∀ i, affH k i = false -> hg (st (k + 1)).H i = hg (st k).H i := fun k hk i h => by
  simp only [affH, Bool.or_eq_false_iff] at h
  by_cases c : i < (st k).n
  ·refine (hinv k hk).low i c ?_
   have := h.1
   rw [decide_eq_true c, Bool.and_true] at this
   exact this
  ·have h2 := h.2
   rw [decide_eq_true (show (st k).n <= i by omega), Bool.true_and] at h2
   have c2 : (st (k + 1)).n <= i := by have := of_decide_eq_false h2; omega
   rw [hdomk (k + 1) (by omega) i c2, hdomk k (by omega) i (by omega)]
 have noS : ∀ k, k < ops.size -> ∀ t, affS k t = false -> (st (k + 1)).A.get t = (st k).A.get t := fun k hk t h => by
  obtain ⟨o, ho⟩ : ∃ o, ops[k]? = some o := ⟨_, Array.getElem?_eq_getElem hk⟩
  obtain ⟨s, h1, _⟩ := hstep k o ho
  rw [h1, if_neg]
  intro e
  simp only [affS, ho, Option.bind_some, e] at h
  simp at h
 have affW : ∀ k, k < ops.size -> ∀ i, affH k i = true -> tb (W k ||| nwm (st k).n (st (k + 1)).n) i = true := fun k hk i h => by
  rw [tb_or, tb_nwm (hinv k hk).le]
  simp only [affH, Bool.or_eq_true, Bool.and_eq_true] at h ⊢
  exact h.imp (fun h => h.1) (fun h => h)
 -- ordered pairs
 have pairH : ∀ i j, i < j -> j < ops.size -> ∀ x, ((affH i x = true /\ (tb (F j) x = true ∨ affH j x = true)) ∨ (affH j x = true /\ (tb (F i) x = true ∨ affH i x = true))) -> tb (L.getD j 0) i = true := fun i j hij hj x hx => by
  unfold memOk allN at hmem
  rw [List.all_eq_true] at hmem
  have h1 := hmem j (by simp; exact hj)
  have e1 : ((List.range ops.size).map fun k => (F k, W k ||| nwm (st k).n (st (k + 1)).n))[j]? = some (F j, W j ||| nwm (st j).n (st (j + 1)).n) := by simp [hj]
  rw [e1] at h1
  simp only [List.all_eq_true] at h1
  have h2 := h1 i (by simp; exact hij)
  have e2 : ((List.range ops.size).map fun k => (F k, W k ||| nwm (st k).n (st (k + 1)).n))[i]? = some (F i, W i ||| nwm (st i).n (st (i + 1)).n) := by simp [show i < ops.size by omega]
  rw [e2] at h2
  simp only [Bool.or_eq_true] at h2
  rcases h2 with h2 | h2
  ·exact h2
  ·exfalso
   simp only [Bool.and_eq_true] at h2
   obtain ⟨⟨g1, g2⟩, g3⟩ := h2
   rcases hx with ⟨a1, a2 | a2⟩ | ⟨a1, a2 | a2⟩
   ·have := and_0 g1 (affW i (by omega) x a1); rw [a2] at this; cases this
   ·have := and_0 g3 (affW i (by omega) x a1); rw [affW j hj x a2] at this; cases this
   ·have := and_0 g2 (affW j hj x a1); rw [a2] at this; cases this
   ·have := and_0 g3 (affW i (by omega) x a2); rw [affW j hj x a1] at this; cases this
 have pairS : ∀ i j oi oj, i < j -> ops[i]? = some oi -> ops[j]? = some oj -> ∀ t, ((oi.dst = some t /\ (t ∈ oj.looksAt ops ∨ oj.dst = some t)) ∨ (oj.dst = some t /\ t ∈ oi.looksAt ops)) -> tb (L.getD j 0) i = true := fun i j oi oj hij hoi hoj t ht => by
  have hj : j < ops.size := (Array.getElem?_eq_some_iff.1 hoj).1
  unfold slOk allN at hsl
  rw [List.all_eq_true] at hsl
  have h1 := hsl j (by simp; exact hj)
  rw [hoj] at h1
  simp only [List.all_eq_true] at h1
  have h2 := h1 i (by simp; exact hij)
  rw [hoi] at h2
  simp only [Bool.or_eq_true] at h2
  rcases h2 with h2 | h2
  ·exact h2
  ·exfalso
   simp only [Oper.apart, Bool.and_eq_true] at h2
   obtain ⟨g1, g2⟩ := h2
   rcases ht with ⟨a1, a2 | a2⟩ | ⟨a1, a2⟩
   ·rw [a1] at g1
    simp only [Bool.and_eq_true, Bool.not_eq_true'] at g1
    have := g1.1
    rw [List.contains_iff_mem.2 a2] at this; cases this
   ·rw [a1] at g1
    simp only [Bool.and_eq_true] at g1
    have := g1.2
    rw [a2] at this; simp at this
   ·rw [a1] at g2
    simp only [Bool.not_eq_true'] at g2
    rw [List.contains_iff_mem.2 a2] at g2; cases g2
 have hDk : ∀ (S : Nat -> Bool) i, (∃ k, k < ops.size /\ S k = true /\ (st k).n <= i /\ i < (st (k + 1)).n) -> (st 0).n <= i /\ i < (st ops.size).n := fun S i ⟨k, h1, _, h2, h3⟩ => ⟨Nat.le_trans (hN k (by omega) 0 (Nat.zero_le _)) h2, Nat.lt_of_lt_of_le h3 (hN ops.size (Nat.le_refl _) (k + 1) (by omega))⟩
 let fH : Nat -> Nat -> Option AO := fun k i => hg (st k).H i
 let fS : Nat -> Nat -> Option S := fun k t => (st k).A.get t
 let hS : (Nat -> Bool) -> Heap := fun S => aft (tb (orF F ops.size)) (st 0).n (st ops.size).n (cmb affH fH S ops.size)
 let NS : (Nat -> Bool) -> Nat -> Prop := fun S i => ∃ k, k < ops.size /\ S k = true /\ (st k).n <= i /\ i < (st (k + 1)).n
 let J : (Nat -> Bool) -> Act -> World -> Prop := fun S a' w' => a'.tmps.size = nt /\ a'.defers = a.defers /\ ∃ σ', OutP σ D w (rst (tb (orF F ops.size)) (hg (st 0).H)) (hS S) (NS S) (fun i => tb (orF W ops.size) i = true) σ' w' /\
  ∀ t s, cmb affS fS S ops.size t = some s -> t < nt /\ RS σ' (fun i => D i ∨ NS S i) s (a'.eval (.tmp t))
 have hfind : ∀ m i, (st 0).n <= i -> i < (st m).n -> ∃ k, k < m /\ (st k).n <= i /\ i < (st (k + 1)).n := fun m => by
  induction m with
  | zero => intro i h1 h2; omega
  | succ m ih =>
   intro i h1 h2
   by_cases c : i < (st m).n
   ·obtain ⟨k, g1, g2⟩ := ih i h1 c
    exact ⟨k, by omega, g2⟩
   ·exact ⟨m, by omega, by omega, h2⟩
 have start : J (fun k => (Array.replicate ops.size false).getD k true) a w.drew := by
  have hno : ∀ k, k < ops.size -> (Array.replicate ops.size false).getD k true = false := fun k hk => by
   rw [Array.getD_eq_getD_getElem?, Array.getElem?_replicate, if_pos hk]; rfl
  have hns : ∀ i, ¬ NS (fun k => (Array.replicate ops.size false).getD k true) i := fun i ⟨k, h1, h2, _⟩ => by
   have h2' : (Array.replicate ops.size false).getD k true = true := h2
   rw [hno k h1] at h2'; cases h2'
  have hH0 : hS (fun k => (Array.replicate ops.size false).getD k true) = rst (tb (orF F ops.size)) (hg (st 0).H) := by
   funext i
   have e : cmb affH fH (fun k => (Array.replicate ops.size false).getD k true) ops.size i = hg (st 0).H i := cmb_eq (f := fH) (Nat.zero_le _) (fun k hk h => noH k hk i h) (fun k hk => by omega) (fun k _ hk _ => hno k hk)
   show aft (tb (orF F ops.size)) (st 0).n (st ops.size).n (cmb affH fH _ ops.size) i = _
   unfold aft rst
   rw [e]
   by_cases c : tb (orF F ops.size) i = true
   ·rw [if_pos (.inl c), if_pos c]
   ·rw [if_neg c]
    split
    ·rename_i h; exact hdom i (h.resolve_left c).1
    ·rfl
  refine ⟨hA.1, rfl, σ, ?_, fun t s e => ?_⟩
  ·rw [hH0]
   refine ⟨fun _ _ => rfl, ⟨fun i ob e => ?_, hs.inj⟩, (Tch.drew w).mono (fun _ _ h => h.elim), fun _ _ h => h, fun i h => (hns i h).elim⟩
   obtain ⟨h1, h2⟩ := hs.obj i ob e
   exact ⟨.inl h1, h2.ext rfl rfl (fun _ _ => rfl) (fun _ h => .inl h)⟩
  ·have e0 : cmb affS fS (fun k => (Array.replicate ops.size false).getD k true) ops.size t = (st 0).A.get t := cmb_eq (f := fS) (Nat.zero_le _) (fun k hk h => noS k hk t h) (fun k hk => by omega) (fun k _ hk _ => hno k hk)
   rw [e0] at e
   obtain ⟨h1, h2⟩ := hA.2 t s e
   exact ⟨h1, h2.ext (fun _ _ => rfl) (fun _ h => .inl h)⟩
 refine wp_region_any hmix (any_gen hless J (fun S i o a' w' ho hJ hSi hcl hdeps K hK => ?_) (fun S a' w' hJ hall => ?_) ops.size _ a _ (by simp) (fun i hi h => ?_) ?_ start)
 ·-- a step
  obtain ⟨hsz, hdf, σ', hout, hRA⟩ := hJ
  have hi : i < ops.size := (Array.getElem?_eq_some_iff.1 ho).1
  have hanci := anc_closed hbef hcl i hi hdeps
  have hancj : ∀ j, j < ops.size -> S j = true -> ∀ k, tb (L.getD j 0) k = true -> S k = true := fun j hj hSj => anc_closed hbef hcl j hj (hcl j hj hSj)
  have loH : ∀ x, (tb (F i) x = true ∨ affH i x = true) -> ∀ k, k < i -> affH k x = true -> S k = true := fun x hx k hk ha => hanci k (pairH k i hk hi x (.inl ⟨ha, hx⟩))
  have hiH : ∀ x, (tb (F i) x = true ∨ affH i x = true) -> ∀ k, i < k -> k < ops.size -> affH k x = true -> S k = false := fun x hx k hik hk ha => by
   cases e : S k with
   | false => rfl
   | true => have := hancj k hk e i (pairH i k hik hk x (.inr ⟨ha, hx⟩)); rw [hSi] at this; cases this
  have agreeH : ∀ x, (tb (F i) x = true ∨ affH i x = true) -> cmb affH fH S ops.size x = hg (st i).H x := fun x hx => cmb_eq (f := fH) (Nat.le_of_lt hi) (fun k hk h => noH k hk x h) (loH x hx) (fun k hik hk ha => by
   by_cases e : k = i
   ·rw [e]; exact hSi
   ·exact hiH x hx k (by omega) hk ha)
  have loS : ∀ t, (t ∈ o.looksAt ops ∨ o.dst = some t) -> ∀ k, k < i -> affS k t = true -> S k = true := fun t ht k hk ha => by
   obtain ⟨ok, hok⟩ : ∃ o, ops[k]? = some o := ⟨_, Array.getElem?_eq_getElem (by omega)⟩
   have hdk : ok.dst = some t := by simpa [affS, hok] using ha
   exact hanci k (pairS k i ok o hk hok ho t (.inl ⟨hdk, ht⟩))
  have hiS : ∀ t, (t ∈ o.looksAt ops ∨ o.dst = some t) -> ∀ k, i < k -> k < ops.size -> affS k t = true -> S k = false := fun t ht k hik hk ha => by
   obtain ⟨ok, hok⟩ : ∃ o, ops[k]? = some o := ⟨_, Array.getElem?_eq_getElem hk⟩
   have hdk : ok.dst = some t := by simpa [affS, hok] using ha
   cases e : S k with
   | false => rfl
   | true =>
    have := hancj k hk e i (pairS i k o ok hik ho hok t (ht.elim (fun h => .inr ⟨hdk, h⟩) (fun h => .inl ⟨h, .inr hdk⟩)))
    rw [hSi] at this; cases this
  have agreeS : ∀ t, (t ∈ o.looksAt ops ∨ o.dst = some t) -> cmb affS fS S ops.size t = (st i).A.get t := fun t ht => cmb_eq (f := fS) (Nat.le_of_lt hi) (fun k hk h => noS k hk t h) (loS t ht) (fun k hik hk ha => by
   by_cases e : k = i
   ·rw [e]; exact hSi
   ·exact hiS t ht k (by omega) hk ha)
  have fresh : ∀ x, (st i).n <= x -> x < (st (i + 1)).n -> ¬ (D x ∨ NS S x) := fun x h1 h2 h => by
   rcases h with h | ⟨k, g1, g2, g3, g4⟩
   ·exact hD x (Nat.le_trans (hN i (by omega) 0 (Nat.zero_le _)) h1) (Nat.lt_of_lt_of_le h2 (hN ops.size (Nat.le_refl _) (i + 1) (by omega))) h
   ·by_cases c : k < i
    ·have := hN i (by omega) (k + 1) (by omega); omega
    ·by_cases c2 : k = i
     ·subst c2; rw [hSi] at g2; cases g2
     ·have := hN k (by omega) (i + 1) (by omega); omega
  obtain ⟨s, h1, h2, h3⟩ := hstep i o ho
  have hsat : Sat σ' (fun i => D i ∨ NS S i) (rst (tb (F i)) (hg (st i).H)) w' := hout.sat.sub (fun x ob e => by
   obtain ⟨e1, e2⟩ := rst_some.1 e
   refine aft_some.2 ⟨.inl (orF_mem hi e1), ?_⟩
   rw [agreeH x (.inl e1)]; exact e2)
  refine h3 σ' _ w' a' K Q (fun t ht u hu => hRA t u (by rw [agreeS t (.inl ht)]; exact hu)) hsz hsat (hdomk i (by omega)) fresh (fun σ'' v w'' hv hst => hK _ _ ?_)
  have hNS : NS (fun k => S k || k == i) = fun x => NS S x ∨ ((st i).n <= x /\ x < (st (i + 1)).n) := by
   funext x
   apply propext
   constructor
   ·rintro ⟨k, g1, g2, g3⟩
    by_cases c : k = i
    ·subst c; exact .inr g3
    ·exact .inl ⟨k, g1, by simpa [c] using g2, g3⟩
   ·rintro (⟨k, g1, g2, g3⟩ | g)
    ·exact ⟨k, g1, by simp [g2], g3⟩
    ·exact ⟨i, hi, by simp, g⟩
  have hins : upd (tb (F i)) (st i).n (st (i + 1)).n (hS S) (aft (tb (F i)) (st i).n (st (i + 1)).n (hg (st (i + 1)).H)) = hS (fun k => S k || k == i) := by
   funext x
   show _ = aft (tb (orF F ops.size)) (st 0).n (st ops.size).n (cmb affH fH (fun k => S k || k == i) ops.size) x
   unfold upd
   by_cases c : tb (F i) x = true ∨ ((st i).n <= x /\ x < (st (i + 1)).n)
   ·rw [if_pos (by simpa using c)]
    unfold aft
    rw [if_pos c, if_pos (c.imp (orF_mem hi) (fun ⟨p, q⟩ => ⟨Nat.le_trans (hN i (by omega) 0 (Nat.zero_le _)) p, Nat.lt_of_lt_of_le q (hN ops.size (Nat.le_refl _) (i + 1) (by omega))⟩))]
    cases ha : affH i x with
    | true =>
     refine (cmb_eq (f := fH) (i := i + 1) (by omega) (fun k hk h => noH k hk x h) (fun k hk hak => ?_) (fun k hik hk hak => ?_)).symm
     ·by_cases e : k = i
      ·simp [e]
      ·rw [loH x (.inr ha) k (by omega) hak]; rfl
     ·rw [hiH x (.inr ha) k (by omega) hk hak]
      simp; omega
    | false =>
     have hFx : tb (F i) x = true := by
      rcases c with c | ⟨p, q⟩
      ·exact c
      ·exfalso
       simp only [affH, Bool.or_eq_false_iff] at ha
       have := ha.2
       rw [decide_eq_true p, decide_eq_true q] at this; cases this
     rw [cmb_other ha, agreeH x (.inl hFx), noH i hi x ha]
   ·rw [if_neg (by simpa using c)]
    have ha : affH i x = false := by
     simp only [affH, Bool.or_eq_false_iff]
     refine ⟨?_, ?_⟩
     ·cases e : tb (W i) x with
      | false => rfl
      | true =>
       cases e2 : decide (x < (st i).n) with
       | false => rfl
       | true => exact (c (.inl ((hinv i hi).sub x (of_decide_eq_true e2) e))).elim
     ·cases e : decide ((st i).n <= x) with
      | false => rfl
      | true =>
       cases e2 : decide (x < (st (i + 1)).n) with
       | false => rfl
       | true => exact (c (.inr ⟨of_decide_eq_true e, of_decide_eq_true e2⟩)).elim
    show aft (tb (orF F ops.size)) (st 0).n (st ops.size).n (cmb affH fH S ops.size) x = _
    unfold aft
    rw [cmb_other ha]
  have hWF : ∀ x, tb (W i) x = true -> (rst (tb (F i)) (hg (st i).H) x).isSome = true -> tb (F i) x = true := fun x _ h => by
   obtain ⟨y, hy⟩ := Option.isSome_iff_exists.1 h
   exact (rst_some.1 hy).1
  have hfr := frame hout.sat (g := rst (tb (F i)) (hg (st i).H)) (F := tb (F i)) (W := fun x => tb (W i) x && tb (F i) x) (fun x hx => by
    unfold rst
    rw [if_pos hx]
    show _ = aft (tb (orF F ops.size)) (st 0).n (st ops.size).n (cmb affH fH S ops.size) x
    unfold aft
    rw [if_pos (.inl (orF_mem hi hx)), agreeH x (.inl hx)]) (fun x hx => by unfold rst; rw [if_neg (by rw [hx]; simp)]) fresh
   (⟨hst.same, hst.sat, hst.tch.mono (fun k _ ⟨j, g1, g2, g3⟩ => ⟨j, by rw [g1, hWF j g1 g2]; rfl, g2, g3⟩), hst.old, fun x h1 h2 h3 => (hst.new x h1 h2 h3).imp id (fun ⟨j, g1, g2, g3, g4⟩ => ⟨j, by rw [g1, hWF j g1 g2]; rfl, g2, g3, g4⟩)⟩ : Out σ' (fun i => D i ∨ NS S i) w' (rst (tb (F i)) (hg (st i).H)) _ _ _ (fun x => tb (W i) x && tb (F i) x) σ'' w'') (fun x hx => by simp at hx; exact hx.2)
  rw [hins] at hfr
  have hD' : ∀ x, NS S x ∨ ((st i).n <= x /\ x < (st (i + 1)).n) -> ¬ D x := fun x hx hd => by
   rcases hx with hx | ⟨p, q⟩
   ·obtain ⟨p, q⟩ := hDk S x hx; exact hD x p q hd
   ·exact fresh x p q (.inl hd)
  have htr := OutP.trans hs hD' hout hfr.toP (fun x hx hy => fresh x hy.1 hy.2 (.inr hx))
  refine ⟨by cases o.dst <;> simp [Act.put, hsz], by cases o.dst <;> simp [Act.put, hdf], σ'', ?_, fun t u e => ?_⟩
  ·rw [hNS]
   have hw : ∀ x, (tb (orF W ops.size) x = true ∨ (tb (W i) x && tb (F i) x) = true) -> tb (orF W ops.size) x = true := fun x hx => hx.elim id (fun h => orF_mem hi (by simp at h; exact h.1))
   exact ⟨htr.same, htr.sat, htr.tch.mono (fun k _ ⟨j, g1, g2⟩ => ⟨j, hw j g1, g2⟩), htr.old, fun x hx hh => (htr.new x hx hh).imp id (fun ⟨j, g1, g2⟩ => ⟨j, hw j g1, g2⟩)⟩
  ·rw [hNS]
   by_cases c : o.dst = some t
   ·have ha : affS i t = true := by simp [affS, ho, c]
    have e2 : cmb affS fS (fun k => S k || k == i) ops.size t = (st (i + 1)).A.get t := cmb_eq (f := fS) (i := i + 1) (by omega) (fun k hk h => noS k hk t h) (fun k hk hak => by
      by_cases e : k = i
      ·simp [e]
      ·rw [loS t (.inr c) k (by omega) hak]; rfl) (fun k hik hk hak => by
      rw [hiS t (.inr c) k (by omega) hk hak]
      simp; omega)
    rw [e2, h1, if_pos c] at e
    cases e
    have hlt := h2 t c
    refine ⟨hlt, ?_⟩
    have hev : (a'.put o.dst v).eval (.tmp t) = v := by rw [c]; simp [Act.put, Act.eval, hsz, hlt]
    rw [hev]
    exact hv.ext (fun _ _ => rfl) (fun x hx => hx.elim (fun h => h.elim .inl (fun h => .inr (.inl h))) (fun h => .inr (.inr h)))
   ·have ha : affS i t = false := by simp [affS, ho, c]
    rw [cmb_other ha] at e
    obtain ⟨g1, g2⟩ := hRA t u e
    refine ⟨g1, ?_⟩
    have hev : (a'.put o.dst v).eval (.tmp t) = a'.eval (.tmp t) := by
     cases hd : o.dst with
     | none => rfl
     | some d =>
      have hne : d ≠ t := fun e => c (by rw [hd, e])
      simp [Act.put, Act.eval, Array.getElem?_setIfInBounds, hne]
    rw [hev]
    exact g2.ext (fun x hx => hst.same x (fun ⟨p, q⟩ => fresh x p q hx)) (fun x hx => hx.elim .inl (fun h => .inr (.inl h)))
 ·-- all are listed
  obtain ⟨hsz, hdf, σ', hout, hRA⟩ := hJ
  have hNS : NS S = fun x => (st 0).n <= x /\ x < (st ops.size).n := by
   funext x
   apply propext
   constructor
   ·exact hDk S x
   ·rintro ⟨p, q⟩
    obtain ⟨k, g1, g2⟩ := hfind ops.size x p q
    exact ⟨k, g1, hall k g1, g2⟩
  have hHm : hS S = aft (tb (orF F ops.size)) (st 0).n (st ops.size).n (hg (st ops.size).H) := by
   funext x
   show aft (tb (orF F ops.size)) (st 0).n (st ops.size).n (cmb affH fH S ops.size) x = _
   unfold aft
   rw [cmb_eq (f := fH) (i := ops.size) (Nat.le_refl _) (fun k hk h => noH k hk x h) (fun k hk _ => hall k hk) (fun k h1 h2 => by omega)]
  rw [hNS, hHm] at hout
  rw [hNS] at hRA
  refine hQ σ' a' w' ⟨hsz, fun t u e => hRA t u ?_⟩ hdf ⟨hout.same, hout.sat, hout.tch, hout.old, fun x h1 h2 h3 => hout.new x ⟨h1, h2⟩ h3⟩
  rw [cmb_eq (f := fS) (i := ops.size) (Nat.le_refl _) (fun k hk h => noS k hk t h) (fun k hk _ => hall k hk) (fun k h1 h2 => by omega)]
  exact e
 ·rw [Array.getD_eq_getD_getElem?, Array.getElem?_replicate, if_pos hi] at h; cases h
 ·have : (List.range ops.size).countP (fun i => !(Array.replicate ops.size false).getD i true) = (List.range ops.size).length := List.countP_eq_length.2 (fun i hi => by
   rw [Array.getD_eq_getD_getElem?, Array.getElem?_replicate, if_pos (List.mem_range.1 hi)]; rfl)
  rw [this, List.length_range]
end
end Ev
end Go.Proofs.YtafndmnbnmlklaaGreat
