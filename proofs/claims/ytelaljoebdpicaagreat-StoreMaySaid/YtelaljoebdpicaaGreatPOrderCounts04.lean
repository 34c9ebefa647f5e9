/- Part 4 of what the proof of OrderCounts rests on. No condition. -/
import Derived.OrdersHeld
import Derived.RegionTactic
import Derived.Test.YtelaljoebdpicaaGreatPOrderCounts03
namespace Go.Proofs.YtelaljoebdpicaaGreat
set_option maxRecDepth 100000
set_option maxHeartbeats 60000000
set_option linter.unusedVariables false
set_option linter.unusedSimpArgs false
set_option linter.unusedSectionVars false
section
open Go.RowKit Go.Maps
theorem iev_eq {a : Act} {d : Nat} {v : Value} (h : d < a.tmps.size) : (a.put (some d) v).eval (.tmp d) = v := by
 simp [Act.put, Act.eval, h]
theorem iev_ne {a : Act} {d k : Nat} {v : Value} (h : d ≠ k) : (a.put (some d) v).eval (.tmp k) = a.eval (.tmp k) := by
 simp [Act.put, Act.eval, Array.getElem?_setIfInBounds, h]
theorem isize_put {a : Act} {d : Option Nat} {v : Value} : (a.put d v).tmps.size = a.tmps.size := by cases d <;> simp [Act.put]
def putAll (a : Act) : List Nat -> List Value -> Act
 | d :: ds, v :: vs => putAll (a.put (some d) v) ds vs
 | _, _ => a
theorem put_put {a : Act} {d : Nat} {x y : Value} : (a.put (some d) x).put (some d) y = a.put (some d) y := by
 simp [Act.put]
theorem put_comm {a : Act} {d e : Nat} {x y : Value} (h : d ≠ e) : (a.put (some d) x).put (some e) y = (a.put (some e) y).put (some d) x := by
 simp only [Act.put]
 rw [Array.setIfInBounds_comm _ _ h]
theorem put_self {a : Act} {d : Nat} : a.put (some d) (a.eval (.tmp d)) = a := by
 simp only [Act.put, Act.eval]
 congr 1
 apply Array.ext
 ·simp
 ·intro i h1 h2
  rw [Array.getElem_setIfInBounds]
  split
  ·rename_i h; subst h; simp [Array.getD, h2]
  ·rfl
theorem putAll_out : ∀ (ds : List Nat) (vs : List Value) (a : Act) (d : Nat) (v : Value), d ∉ ds -> (putAll a ds vs).put (some d) v = putAll (a.put (some d) v) ds vs
 | [], vs, a, d, v, h => by cases vs <;> rfl
 | e :: ds, [], a, d, v, h => rfl
 | e :: ds, x :: vs, a, d, v, h => by
  rw [List.mem_cons, not_or] at h
  rw [putAll, putAll, putAll_out ds vs _ d v h.2, put_comm (fun e2 => h.1 e2.symm)]
theorem putAll_set : ∀ (ds : List Nat) (vs : List Value) (a : Act) (i : Nat) (d : Nat) (v : Value), ds.Nodup -> vs.length = ds.length -> ds[i]? = some d -> (putAll a ds vs).put (some d) v = putAll a ds (vs.set i v)
 | [], vs, a, i, d, v, _, _, h => by simp at h
 | e :: ds, [], a, i, d, v, _, hl, h => by simp at hl
 | e :: ds, x :: vs, a, 0, d, v, hn, hl, h => by
  simp only [List.getElem?_cons_zero, Option.some.injEq] at h
  subst h
  rw [List.nodup_cons] at hn
  rw [List.set_cons_zero, putAll, putAll, putAll_out _ _ _ _ _ hn.1, put_put]
 | e :: ds, x :: vs, a, i + 1, d, v, hn, hl, h => by
  rw [List.nodup_cons] at hn
  rw [List.getElem?_cons_succ] at h
  rw [List.set_cons_succ, putAll, putAll]
  exact putAll_set ds vs _ i d v hn.2 (by simpa using hl) h
theorem putAll_start : ∀ (ds : List Nat) (a : Act), putAll a ds (ds.map fun d => a.eval (.tmp d)) = a
 | [], a => rfl
 | d :: ds, a => by rw [List.map_cons, putAll, put_self]; exact putAll_start ds a
theorem putAll_ev : ∀ (ds : List Nat) (vs : List Value) (a : Act) (k : Nat), k ∉ ds -> (putAll a ds vs).eval (.tmp k) = a.eval (.tmp k)
 | [], vs, a, k, h => by cases vs <;> rfl
 | e :: ds, [], a, k, h => rfl
 | e :: ds, x :: vs, a, k, h => by
  rw [List.mem_cons, not_or] at h
  rw [putAll, putAll_ev ds vs _ k h.2, iev_ne (fun e2 => h.1 e2.symm)]
theorem putAll_size : ∀ (ds : List Nat) (vs : List Value) (a : Act), (putAll a ds vs).tmps.size = a.tmps.size
 | [], vs, a => by cases vs <;> rfl
 | e :: ds, [], a => rfl
 | e :: ds, x :: vs, a => by rw [putAll, putAll_size ds vs, isize_put]
theorem putAll_get {ds : List Nat} {vs : List Value} {a : Act} (i : Nat) {d : Nat} {u : Value} (hn : ds.Nodup) (hl : vs.length = ds.length) (hd : ds[i]? = some d) (hu : vs[i]? = some u) (hs : d < a.tmps.size) : (putAll a ds vs).eval (.tmp d) = u := by
 have e : vs.set i u = vs := by
  apply List.ext_getElem?
  intro j
  rw [List.getElem?_set]
  split
  ·rename_i h; subst h
   split
   ·exact hu.symm
   ·rename_i h2; rw [List.getElem?_eq_none (by omega)]
  ·rfl
 have := putAll_set ds vs a i d u hn hl hd
 rw [e] at this
 rw [<- this]
 exact iev_eq (by rw [putAll_size]; exact hs)
theorem frame_var {P : Program} {C : Code} {Q : Exit -> Act -> World -> Prop} {a : Act} {w : World} (n : Nat) (hn : a.tmps.size = n) (h : ∀ fr : Act, Hid (fr = a) -> fr.tmps.size = n -> Code.wp P C Q fr w) : Code.wp P C Q a w := h a rfl hn
def Fr (a0 : Act) (ds : List Nat) (a : Act) : Prop := ∃ vs : List Value, vs.length = ds.length /\ a = putAll a0 ds vs
theorem Fr.start (a0 : Act) (ds : List Nat) : Fr a0 ds a0 := ⟨_, by simp, (putAll_start ds a0).symm⟩
theorem Fr.put {a0 a : Act} {ds : List Nat} (h : Fr a0 ds a) (hn : ds.Nodup) {d : Option Nat} (hd : ∀ e, d = some e -> e ∈ ds) (v : Value) : Fr a0 ds (a.put d v) := by
 obtain ⟨vs, hl, rfl⟩ := h
 cases d with
 | none => exact ⟨vs, hl, rfl⟩
 | some e =>
  obtain ⟨i, hi, he⟩ := List.getElem_of_mem (hd e rfl)
  exact ⟨vs.set i v, by simpa using hl, putAll_set ds vs a0 i e v hn hl (by rw [List.getElem?_eq_getElem hi, he])⟩
theorem Fr.ev {a0 a : Act} {ds : List Nat} (h : Fr a0 ds a) {k : Nat} (hk : ds.contains k = false) {v : Value} (hv : a0.eval (.tmp k) = v) : a.eval (.tmp k) = v := by
 obtain ⟨vs, hl, rfl⟩ := h
 rw [putAll_ev ds vs a0 k (fun e => by rw [List.contains_iff_mem.2 e] at hk; cases hk)]
 exact hv
theorem Fr.size {a0 a : Act} {ds : List Nat} (h : Fr a0 ds a) : a.tmps.size = a0.tmps.size := by
 obtain ⟨vs, hl, rfl⟩ := h
 exact putAll_size _ _ _
section
variable {P : Program} {ops : Array Oper} {Q : Exit -> Act -> World -> Prop}
def slotV (ops : Array Oper) (a : Act) (j : Nat) : Value := match (ops[j]?).bind (·.dst) with | some d => a.eval (.tmp d) | none => undef
def lon (rows : List LRow) (i : Nat) : List Nat := ((rows[i]?).map (·.2.2)).getD []
def ldst (rows : List LRow) (i : Nat) : Option Nat := (rows[i]?).bind (·.1)
def ichk (rows : List LRow) (ds : List Nat) (anc need kill later : Nat -> List Nat) : Bool :=
 decide ds.Nodup && (List.range rows.length).all fun i =>
  (lon rows i).all (fun e => decide (e < i)) && (need i).all (fun k => (lon rows i).contains k) &&
  (match ldst rows i with | some d => ds.contains d | none => true) &&
  (match ldst rows i with | some d => (List.range rows.length).all (fun j => j == i || ldst rows j != some d) | none => true) &&
  (kill i).all (fun k => (List.range rows.length).all fun j => !(need j).contains k || j == i || (anc i).contains j) &&
  (later i).all (fun j => (anc j).contains i && decide (j < rows.length)) &&
  (anc i).all (fun k => (lon rows i).contains k || (lon rows i).any (fun m => (anc m).contains k))
structure ISpec (rows : List LRow) (ds : List Nat) (anc need kill later : Nat -> List Nat) : Prop where
 nodup : ds.Nodup
 less : ∀ i, i < rows.length -> ∀ e ∈ lon rows i, e < i
 needs : ∀ i, i < rows.length -> ∀ k ∈ need i, k ∈ lon rows i
 dst : ∀ i, i < rows.length -> ∀ d, ldst rows i = some d -> d ∈ ds
 other : ∀ i, i < rows.length -> ∀ d, ldst rows i = some d -> ∀ j, j < rows.length -> j ≠ i -> ldst rows j ≠ some d
 kills : ∀ i, i < rows.length -> ∀ k ∈ kill i, ∀ j, j < rows.length -> k ∈ need j -> j = i ∨ j ∈ anc i
 laters : ∀ i, i < rows.length -> ∀ j ∈ later i, i ∈ anc j /\ j < rows.length
 ancs : ∀ i, i < rows.length -> ∀ k ∈ anc i, k ∈ lon rows i ∨ ∃ m ∈ lon rows i, k ∈ anc m
theorem ichk_spec {rows : List LRow} {ds : List Nat} {anc need kill later : Nat -> List Nat} (h : ichk rows ds anc need kill later = true) : ISpec rows ds anc need kill later := by
 unfold ichk at h
 simp only [Bool.and_eq_true, List.all_eq_true, List.mem_range, decide_eq_true_eq, List.contains_iff_mem, Bool.or_eq_true, Bool.not_eq_true', beq_iff_eq, List.any_eq_true] at h
 obtain ⟨h0, h⟩ := h
 refine ⟨h0, fun i hi => (h i hi).1.1.1.1.1.1, fun i hi => (h i hi).1.1.1.1.1.2, fun i hi d hd => ?_, fun i hi d hd j hj hji => ?_, fun i hi k hk j hj hkj => ?_, fun i hi j hj => (h i hi).1.2 j hj, fun i hi => (h i hi).2⟩
 ·have := (h i hi).1.1.1.1.2
  rw [hd] at this
  simpa using this
 ·have := (h i hi).1.1.1.2
  rw [hd] at this
  have := List.all_eq_true.1 this j (List.mem_range.2 hj)
  simpa [hji] using this
 ·rcases (h i hi).1.1.2 k hk j hj with (h1 | h1) | h1
  ·exfalso
   have : (need j).contains k = true := List.contains_iff_mem.2 hkj
   rw [this] at h1; cases h1
  ·exact .inl h1
  ·exact .inr h1
def IStep (P : Program) (ops : Array Oper) (Q : Exit -> Act -> World -> Prop) (a0 : Act) (ds : List Nat) (C : World -> Prop) (R : Nat -> Value -> World -> Prop) (wd : List Nat) (need kill later : Nat -> List Nat) (i : Nat) : Prop :=
 ∀ o a w, ops[i]? = some o -> Fr a0 ds a -> C w -> (∀ k ∈ need i, R k (slotV ops a k) w) ->
  ∀ K : Act -> World -> Prop, (∀ v w', C w' -> R i (match o.dst with | some _ => v | none => undef) w' -> (∀ j ∈ wd, j ≠ i -> j ∉ kill i -> j ∉ later i -> ∀ x, R j x w -> R j x w') -> K (a.put o.dst v) w') ->
   if Region.wanted o (yielded ops a.tmps) = true then Oper.wp P o a w K Q else K (a.put o.dst undef) w
theorem any_inv (a0 : Act) (C : World -> Prop) (R : Nat -> Value -> World -> Prop) (wd : List Nat) (ds : List Nat) (rows : List LRow) (anc need kill later : Nat -> List Nat)
  (hrows : ops.toList.map (lrow ops) = rows) (hck : ichk rows ds anc need kill later = true) (hds : ∀ d ∈ ds, d < a0.tmps.size) (hpure : ∀ j, j ∉ wd -> ∀ x w w', R j x w -> R j x w')
  (hstep : ∀ i, i < rows.length -> IStep P ops Q a0 ds C R wd need kill later i)
  (hend : ∀ a w, Fr a0 ds a -> C w -> (∀ j, j < rows.length -> (∀ i, i < rows.length -> j ∉ kill i) -> R j (slotV ops a j) w) -> Q .normal a w) :
  ∀ (m : Nat) (listed : Array Bool) (a : Act) (w : World), listed.size = ops.size -> (∀ i, i < ops.size -> listed.getD i true = true -> ∀ e ∈ lon rows i, listed.getD e true = true) ->
   (List.range ops.size).countP (fun i => !listed.getD i true) = m ->
   Fr a0 ds a -> C w -> (∀ j, j < ops.size -> listed.getD j true = true -> (∀ i, i < ops.size -> listed.getD i true = true -> j ∉ kill i) -> R j (slotV ops a j) w) -> wpAny P .any ops Q m listed a w := by
 have S := ichk_spec hck
 have hlen : rows.length = ops.size := by rw [<- hrows]; simp
 have hrow : ∀ i o, ops[i]? = some o -> rows[i]? = some (lrow ops o) := fun i o ho => by rw [<- hrows, List.getElem?_map, Array.getElem?_toList, ho]; rfl
 have hready : ∀ (listed : Array Bool) i, listed.size = ops.size -> i < ops.size -> listed.getD i true = false -> (∀ e ∈ lon rows i, listed.getD e true = true) -> i ∈ Region.ready .any ops listed := by
  intro listed i hs hi h1 h2
  obtain ⟨o, ho⟩ : ∃ o, ops[i]? = some o := ⟨_, Array.getElem?_eq_getElem hi⟩
  unfold Region.ready
  rw [List.mem_filter]
  refine ⟨List.mem_range.2 hi, ?_⟩
  rw [h1, ho]
  simp only [Option.map_some, Option.getD_some, Bool.not_false, Bool.true_and, Array.all_eq_true_iff_forall_mem]
  intro e he
  cases hb : Region.binds .any e with
  | false => rfl
  | true =>
   have hm : e.on ∈ lon rows i := by unfold lon; rw [hrow i o ho]; exact lon_mem.2 ⟨e, he, hb, rfl⟩
   have h3 := h2 _ hm
   have h4 := S.less i (by omega) _ hm
   rw [Array.getD_eq_getD_getElem?, Array.getElem?_eq_getElem (by omega)] at h3 ⊢
   simpa using h3
 have hready2 : ∀ (listed : Array Bool) i, listed.size = ops.size -> i ∈ Region.ready .any ops listed -> i < ops.size /\ listed.getD i true = false /\ ∀ e ∈ lon rows i, listed.getD e true = true := by
  intro listed i hs hi
  unfold Region.ready at hi
  rw [List.mem_filter] at hi
  obtain ⟨h1, h2⟩ := hi
  have h1 := List.mem_range.1 h1
  obtain ⟨o, ho⟩ : ∃ o, ops[i]? = some o := ⟨_, Array.getElem?_eq_getElem h1⟩
  rw [ho] at h2
  simp only [Option.map_some, Option.getD_some, Bool.and_eq_true, Bool.not_eq_true', Array.all_eq_true_iff_forall_mem] at h2
  refine ⟨h1, h2.1, fun e he => ?_⟩
  have h5 := S.less i (by omega) e he
  unfold lon at he
  rw [hrow i o ho] at he
  obtain ⟨ed, hed, hb, rfl⟩ := lon_mem.1 he
  have h3 := h2.2 ed hed
  rw [hb] at h3
  rw [Array.getD_eq_getD_getElem?, Array.getElem?_eq_getElem (by omega)] at h3 ⊢
  simpa using h3
 have hanc : ∀ (listed : Array Bool), (∀ i, i < ops.size -> listed.getD i true = true -> ∀ e ∈ lon rows i, listed.getD e true = true) -> ∀ n i, i <= n -> i < ops.size -> listed.getD i true = true -> ∀ k ∈ anc i, listed.getD k true = true := by
  intro listed hcl n
  induction n with
  | zero =>
   intro i hi hio hl k hk
   rcases S.ancs i (by omega) k hk with h | ⟨m, hm, _⟩
   ·exact hcl i hio hl k h
   ·have := S.less i (by omega) m hm; omega
  | succ n ihn =>
   intro i hi hio hl k hk
   rcases S.ancs i (by omega) k hk with h | ⟨m, hm, hkm⟩
   ·exact hcl i hio hl k h
   ·have := S.less i (by omega) m hm
    exact ihn m (by omega) (by omega) (hcl i hio hl m hm) k hkm
 intro m
 induction m with
 | zero =>
  intro listed a w hs hcl hm hf hC hR
  rw [List.countP_eq_zero] at hm
  have hall : ∀ i, i < ops.size -> listed.getD i true = true := fun i hi => by simpa using hm i (List.mem_range.2 hi)
  have h0 : Region.ready .any ops listed = [] := by
   cases hr : Region.ready .any ops listed with
   | nil => rfl
   | cons x xs =>
    obtain ⟨g1, g2, _⟩ := hready2 listed x hs (by rw [hr]; exact List.mem_cons_self)
    rw [hall x g1] at g2; cases g2
  refine wpAny_done h0 ?_ _
  exact hend a w hf hC (fun j hj hk => hR j (by omega) (hall j (by omega)) (fun i hi _ => hk i (by omega)))
 | succ m ih =>
  intro listed a w hs hcl hm hf hC hR
  refine ⟨fun h0 => ?_, fun i hi => ?_⟩
  ·exfalso
   have hex : ∃ i, i < ops.size /\ listed.getD i true = false := by
    have hp : 0 < (List.range ops.size).countP (fun i => !listed.getD i true) := by omega
    obtain ⟨i, h1, h2⟩ := List.countP_pos_iff.1 hp
    exact ⟨i, List.mem_range.1 h1, by simpa using h2⟩
   have hmin : ∀ n i, i <= n -> i < ops.size -> listed.getD i true = false -> False := by
    intro n
    induction n with
    | zero =>
     intro i hi hio hl
     have := hready listed i hs hio hl (fun e he => by have := S.less i (by omega) e he; omega)
     rw [h0] at this; cases this
    | succ n ihn =>
     intro i hi hio hl
     have := hready listed i hs hio hl (fun e he => by
      have hlt := S.less i (by omega) e he
      cases hle : listed.getD e true with
      | true => rfl
      | false => exact (ihn e (by omega) (by omega) hle).elim)
     rw [h0] at this; cases this
   obtain ⟨i, h1, h2⟩ := hex
   exact hmin i i (Nat.le_refl _) h1 h2
  ·obtain ⟨h1, h2, h3⟩ := hready2 listed i hs hi
   obtain ⟨o, ho⟩ : ∃ o, ops[i]? = some o := ⟨_, Array.getElem?_eq_getElem h1⟩
   refine wpOp_step ho (fun K hK => ?_)
   have hget : ∀ j, j ≠ i -> (listed.setIfInBounds i true).getD j true = listed.getD j true := fun j hj => by
    rw [Array.getD_eq_getD_getElem?, Array.getD_eq_getD_getElem?, Array.getElem?_setIfInBounds_ne (fun e => hj e.symm)]
   have hgeti : (listed.setIfInBounds i true).getD i true = true := by
    rw [Array.getD_eq_getD_getElem?, Array.getElem?_setIfInBounds]; simp [hs, h1]
   have hld : ldst rows i = o.dst := by unfold ldst; rw [hrow i o ho]; rfl
   have hslot : ∀ v, slotV ops (a.put o.dst v) i = (match o.dst with | some _ => v | none => undef) := by
    intro v
    unfold slotV
    rw [ho]
    simp only [Option.bind_some]
    cases hd : o.dst with
    | none => rfl
    | some d =>
     simp only
     exact iev_eq (by rw [hf.size]; exact hds d (S.dst i (by omega) d (by rw [hld, hd])))
   have hsloj : ∀ v j, j < ops.size -> j ≠ i -> slotV ops (a.put o.dst v) j = slotV ops a j := by
    intro v j hj hji
    obtain ⟨oj, hoj⟩ : ∃ o, ops[j]? = some o := ⟨_, Array.getElem?_eq_getElem hj⟩
    unfold slotV
    rw [hoj]
    simp only [Option.bind_some]
    cases hd : o.dst with
    | none => cases oj.dst <;> rfl
    | some d =>
     cases hdj : oj.dst with
     | none => rfl
     | some dj =>
      simp only
      refine iev_ne (fun e => ?_)
      have := S.other i (by omega) d (by rw [hld, hd]) j (by omega) hji
      apply this
      unfold ldst
      rw [hrow j oj hoj]
      show oj.dst = some d
      rw [hdj, e]
   refine hstep i (by omega) o a w ho hf hC (fun k hk => ?_) K (fun v w' c1 c2 c3 => hK _ _ ?_)
   ·have hkl := h3 k (S.needs i (by omega) k hk)
    refine hR k (by have := S.less i (by omega) k (S.needs i (by omega) k hk); omega) hkl (fun j hj hlj hkj => ?_)
    rcases S.kills j (by omega) k hkj i (by omega) hk with e | e
    ·subst e; rw [h2] at hlj; cases hlj
    ·have := hanc listed hcl j j (Nat.le_refl _) hj hlj i e
     rw [h2] at this; cases this
   ·refine ih (listed.setIfInBounds i true) _ w' (by simpa using hs) ?_ ?_ (hf.put S.nodup (fun e he => S.dst i (by omega) e (by rw [hld, he])) v) c1 ?_
    ·intro j hj hlj e he
     by_cases hji : j = i
     ·subst hji
      have hne : e ≠ j := fun e2 => by have := S.less j (by omega) e he; omega
      rw [hget e hne]; exact h3 e he
     ·rw [hget j hji] at hlj
      by_cases hei : e = i
      ·subst hei; exact hgeti
      ·rw [hget e hei]; exact hcl j hj hlj e he
    ·have hmem : i ∈ List.range ops.size := List.mem_range.2 h1
     have key : ∀ (l : List Nat), l.Nodup -> i ∈ l -> l.countP (fun j => !listed.getD j true) = l.countP (fun j => !(listed.setIfInBounds i true).getD j true) + 1 := by
      intro l hn hil
      induction l with
      | nil => cases hil
      | cons x l ihl =>
       rw [List.nodup_cons] at hn
       rw [List.countP_cons, List.countP_cons]
       rcases List.mem_cons.1 hil with rfl | hil
       ·have hsame : l.countP (fun j => !listed.getD j true) = l.countP (fun j => !(listed.setIfInBounds i true).getD j true) := by
         apply List.countP_congr
         intro j hj
         have : j ≠ i := fun e => hn.1 (e ▸ hj)
         rw [hget j this]
        rw [hsame, h2, hgeti]
        simp
       ·have hxi : x ≠ i := fun e => hn.1 (e ▸ hil)
        rw [ihl hn.2 hil, hget x hxi]
        omega
     have := key _ List.nodup_range hmem
     omega
    ·intro j hj hlj hk
     by_cases hji : j = i
     ·subst hji; rw [hslot]; exact c2
     ·rw [hget j hji] at hlj
      rw [hsloj v j hj hji]
      have hRj := hR j hj hlj (fun i' hi' hli' => hk i' hi' (by
       by_cases e : i' = i
       ·subst e; exact hgeti
       ·rw [hget i' e]; exact hli'))
      by_cases hwd : j ∈ wd
      case neg => exact hpure j hwd _ _ _ hRj
      refine c3 j hwd hji (hk i h1 hgeti) (fun hlat => ?_) _ hRj
      have := hanc listed hcl j j (Nat.le_refl _) hj hlj i (S.laters i (by omega) j hlat).1
      rw [h2] at this; cases this
def Stb (f : Value -> World -> Prop) : Prop := ∀ x w w', Tch No w w' -> f x w -> f x w'
def Pur (f : Value -> World -> Prop) : Prop := ∀ x (w w' : World), f x w -> f x w'
theorem Pur.stb {f : Value -> World -> Prop} (h : Pur f) : Stb f := fun x w w' _ hx => h x w w' hx
theorem pur_eq (v : Value) : Pur (fun x _ => x = v) := fun x _ _ h => h
theorem pur_any : Pur (fun _ _ => True) := fun _ _ _ _ => trivial
def RL (l : List (Value -> World -> Prop)) (j : Nat) : Value -> World -> Prop := (l[j]?).getD (fun _ _ => True)
theorem rl_stb {l : List (Value -> World -> Prop)} (h : ∀ f ∈ l, Stb f) (j : Nat) : Stb (RL l j) := by
 unfold RL
 cases e : l[j]? with
 | none => exact (pur_any).stb
 | some f => exact h f (List.mem_of_getElem? e)
theorem rl_pur {l : List (Value -> World -> Prop)} {wd : List Nat} (h : ∀ j, j < l.length -> j ∈ wd ∨ Pur (RL l j)) (j : Nat) (hj : j ∉ wd) : Pur (RL l j) := by
 rcases Nat.lt_or_ge j l.length with hl | hl
 ·exact (h j hl).resolve_left hj
 ·unfold RL
  rw [List.getElem?_eq_none hl]
  exact pur_any
theorem all_lt0 {p : Nat -> Prop} : ∀ i, i < 0 -> p i := fun i h => absurd h (Nat.not_lt_zero _)
theorem all_lt1 {p : Nat -> Prop} {n : Nat} (h : ∀ i, i < n -> p i) (hn : p n) : ∀ i, i < n + 1 -> p i := fun i hi => by
 rcases Nat.lt_or_ge i n with h1 | h1
 ·exact h i h1
 ·obtain rfl : i = n := by omega
  exact hn
theorem all_mem0 {α : Type} {p : α -> Prop} : ∀ f ∈ ([] : List α), p f := fun f h => by cases h
theorem all_mem1 {α : Type} {p : α -> Prop} {a : α} {l : List α} (h1 : p a) (h : ∀ f ∈ l, p f) : ∀ f ∈ a :: l, p f := fun f hf => by
 rcases List.mem_cons.1 hf with rfl | hf
 ·exact h1
 ·exact h f hf
theorem vs_cons {vs : List Value} {n : Nat} (h : vs.length = n + 1) : ∃ u r, vs = u :: r /\ r.length = n := by
 cases vs with
 | nil => simp at h
 | cons u r => exact ⟨u, r, rfl, by simpa using h⟩
theorem vs_nil {vs : List Value} (h : vs.length = 0) : vs = [] := List.eq_nil_of_length_eq_zero h
theorem wp_region_inv {id : Nat} {l : List Oper} {a0 : Act} {w : World} (C : World -> Prop) (R : Nat -> Value -> World -> Prop) (wd : List Nat) (ds : List Nat) (rows : List LRow) (anc need kill later : Nat -> List Nat)
  (hm : P.follows .mixedOrders = true) (hrows : l.map (lrow l.toArray) = rows) (hck : ichk rows ds anc need kill later = true) (hds : ds.all (fun d => decide (d < a0.tmps.size)) = true) (hC : C w.drew) (hpure : ∀ j, j ∉ wd -> ∀ x w w', R j x w -> R j x w')
  (hstep : ∀ i, i < rows.length -> IStep P l.toArray Q a0 ds C R wd need kill later i)
  (hend : ∀ a w, Fr a0 ds a -> C w -> (∀ j, j < rows.length -> (∀ i, i < rows.length -> j ∉ kill i) -> R j (slotV l.toArray a j) w) -> Q .normal a w) : (Code.region id l.toArray true).wp P Q a0 w := by
 refine wp_region_any hm ?_
 have hlen : rows.length = l.length := by rw [<- hrows]; simp
 refine any_inv a0 C R wd ds rows anc need kill later (by simpa using hrows) hck (fun d hd => by simpa using List.all_eq_true.1 hds d hd) hpure hstep hend _ _ a0 w.drew (by simp) ?_ ?_ (Fr.start _ _) hC ?_
 ·intro i hi hl
  rw [Array.getD_eq_getD_getElem?, Array.getElem?_replicate, if_pos hi] at hl
  cases hl
 ·rw [List.countP_eq_length.2]
  ·simp
  ·intro i hi
   have hi := List.mem_range.1 hi
   rw [Array.getD_eq_getD_getElem?, Array.getElem?_replicate, if_pos hi]; rfl
 ·intro j hj hl
  rw [Array.getD_eq_getD_getElem?, Array.getElem?_replicate, if_pos hj] at hl
  cases hl
end
end
end Go.Proofs.YtelaljoebdpicaaGreat
