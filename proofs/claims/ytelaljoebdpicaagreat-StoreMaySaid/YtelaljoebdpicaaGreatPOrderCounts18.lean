/- Part 18 of what the proof of OrderCounts rests on. No condition. -/
import Derived.Shelf.SlicesE.Clone
import Derived.Shelf.SlicesG.CompactI
import Derived.Shelf.SlicesG.CompactS
import Derived.Shelf.Sort.Plain
import Derived.Shelf.SortM.Plain
import Derived.Shelf.SortM.SortNone
import Derived.Test.YtelaljoebdpicaaGreatPOrderCounts11
import Derived.Test.YtelaljoebdpicaaGreatPOrderCounts14
namespace Go.Proofs.YtelaljoebdpicaaGreat
set_option maxRecDepth 100000
set_option maxHeartbeats 60000000
set_option linter.unusedVariables false
set_option linter.unusedSimpArgs false
set_option linter.unusedSectionVars false
section
open Go.RowKit Go.Maps
section
variable {P : Program} {ops : Array Oper} {Q : Exit -> Act -> World -> Prop}
def Kept (a0 : Act) (keepd : List Nat) (a : Act) : Prop := ∀ d ∈ keepd, a.eval (.tmp d) = a0.eval (.tmp d)
def IStep2 (P : Program) (ops : Array Oper) (Q : Exit -> Act -> World -> Prop) (a0 : Act) (ds : List Nat) (kp : Act -> Prop) (C C' : World -> Prop) (R : Nat -> Value -> World -> Prop) (wd : List Nat) (need kill later : Nat -> List Nat) (i : Nat) : Prop :=
 ∀ o a w, ops[i]? = some o -> Fr a0 ds a -> kp a -> C w -> (∀ k ∈ need i, R k (slotV ops a k) w) ->
  ∀ K : Act -> World -> Prop, (∀ v w', C' w' -> R i (match o.dst with | some _ => v | none => undef) w' -> (∀ j ∈ wd, j ≠ i -> j ∉ kill i -> j ∉ later i -> ∀ x, R j x w -> R j x w') -> K (a.put o.dst v) w') ->
   if Region.wanted o (yielded ops a.tmps) = true then Oper.wp P o a w K Q else K (a.put o.dst undef) w
theorem istep2_of {a0 : Act} {ds : List Nat} {kp : Act -> Prop} {C : World -> Prop} {R : Nat -> Value -> World -> Prop} {wd : List Nat} {need kill later : Nat -> List Nat} {i : Nat} (h : IStep P ops Q a0 ds C R wd need kill later i) : IStep2 P ops Q a0 ds kp C C R wd need kill later i :=
 fun o a w h1 h2 _ h3 h4 => h o a w h1 h2 h3 h4
theorem any_inv2 (a0 : Act) (keepd : List Nat) (e0 : Nat) (C : Bool -> World -> Prop) (R : Nat -> Value -> World -> Prop) (wd : List Nat) (ds : List Nat) (rows : List LRow) (anc need kill later : Nat -> List Nat)
  (hrows : ops.toList.map (lrow ops) = rows) (hck : ichk rows ds anc need kill later = true) (hds : ∀ d ∈ ds, d < a0.tmps.size) (hpure : ∀ j, j ∉ wd -> ∀ x w w', R j x w -> R j x w')
  (he0 : e0 < rows.length) (hkd : ∀ i, i < rows.length -> i ≠ e0 -> e0 ∉ anc i -> ∀ d, ldst rows i = some d -> d ∉ keepd) (hstep1 : ∀ i, i < rows.length -> i ≠ e0 -> i ∉ anc e0 -> IStep P ops Q a0 ds (C true) R wd need kill later i)
  (hstep0 : ∀ i, i < rows.length -> i ≠ e0 -> e0 ∉ anc i -> IStep2 P ops Q a0 ds (Kept a0 keepd) (C false) (C false) R wd need kill later i)
  (hstepe : IStep2 P ops Q a0 ds (Kept a0 keepd) (C false) (C true) R wd need kill later e0)
  (hend : ∀ a w, Fr a0 ds a -> C true w -> (∀ j, j < rows.length -> (∀ i, i < rows.length -> j ∉ kill i) -> R j (slotV ops a j) w) -> Q .normal a w) :
  ∀ (m : Nat) (listed : Array Bool) (a : Act) (w : World), listed.size = ops.size -> (∀ i, i < ops.size -> listed.getD i true = true -> ∀ e ∈ lon rows i, listed.getD e true = true) ->
   (List.range ops.size).countP (fun i => !listed.getD i true) = m ->
   Fr a0 ds a -> (listed.getD e0 true = false -> Kept a0 keepd a) -> C (listed.getD e0 true) w -> (∀ j, j < ops.size -> listed.getD j true = true -> (∀ i, i < ops.size -> listed.getD i true = true -> j ∉ kill i) -> R j (slotV ops a j) w) -> wpAny P .any ops Q m listed a w := by
 have S := ichk_spec hck
 have hlen : rows.length = ops.size := by rw [<- hrows]; simp
 have hrow : ∀ i o, ops[i]? = some o -> rows[i]? = some (lrow ops o) := fun i o ho => by rw [<- hrows, List.getElem?_map, Array.getElem?_toList, ho]; rfl
 have hready : ∀ (listed : Array Bool) i, listed.size = ops.size -> i < ops.size -> listed.getD i true = false -> (∀ e ∈ lon rows i, listed.getD e true = true) -> i ∈ Region.ready .any ops listed := by
  intro listed i hs hi h1 h2
  obtain ⟨o, ho⟩ : ∃ o, ops[i]? = some o := ⟨_, Array.getElem?_eq_getElem hi⟩
  unfold Region.ready
  rw [List.mem_filter]
  refine ⟨List.mem_range.2 hi, ?_⟩
  rw [h1, ho]
  simp only [Option.map_some, Option.getD_some, Bool.not_false, Bool.true_and, Array.all_eq_true_iff_forall_mem]
  intro e he
  cases hb : Region.binds .any e with
  | false => rfl
  | true =>
   have hm : e.on ∈ lon rows i := by unfold lon; rw [hrow i o ho]; exact lon_mem.2 ⟨e, he, hb, rfl⟩
   have h3 := h2 _ hm
   have h4 := S.less i (by omega) _ hm
   rw [Array.getD_eq_getD_getElem?, Array.getElem?_eq_getElem (by omega)] at h3 ⊢
   simpa using h3
 have hready2 : ∀ (listed : Array Bool) i, listed.size = ops.size -> i ∈ Region.ready .any ops listed -> i < ops.size /\ listed.getD i true = false /\ ∀ e ∈ lon rows i, listed.getD e true = true := by
  intro listed i hs hi
  unfold Region.ready at hi
  rw [List.mem_filter] at hi
  obtain ⟨h1, h2⟩ := hi
  have h1 := List.mem_range.1 h1
  obtain ⟨o, ho⟩ : ∃ o, ops[i]? = some o := ⟨_, Array.getElem?_eq_getElem h1⟩
  rw [ho] at h2
  simp only [Option.map_some, Option.getD_some, Bool.and_eq_true, Bool.not_eq_true', Array.all_eq_true_iff_forall_mem] at h2
  refine ⟨h1, h2.1, fun e he => ?_⟩
  have h5 := S.less i (by omega) e he
  unfold lon at he
  rw [hrow i o ho] at he
  obtain ⟨ed, hed, hb, rfl⟩ := lon_mem.1 he
  have h3 := h2.2 ed hed
  rw [hb] at h3
  rw [Array.getD_eq_getD_getElem?, Array.getElem?_eq_getElem (by omega)] at h3 ⊢
  simpa using h3
 have hanc : ∀ (listed : Array Bool), (∀ i, i < ops.size -> listed.getD i true = true -> ∀ e ∈ lon rows i, listed.getD e true = true) -> ∀ n i, i <= n -> i < ops.size -> listed.getD i true = true -> ∀ k ∈ anc i, listed.getD k true = true := by
  intro listed hcl n
  induction n with
  | zero =>
   intro i hi hio hl k hk
   rcases S.ancs i (by omega) k hk with h | ⟨m, hm, _⟩
   ·exact hcl i hio hl k h
   ·have := S.less i (by omega) m hm; omega
  | succ n ihn =>
   intro i hi hio hl k hk
   rcases S.ancs i (by omega) k hk with h | ⟨m, hm, hkm⟩
   ·exact hcl i hio hl k h
   ·have := S.less i (by omega) m hm
    exact ihn m (by omega) (by omega) (hcl i hio hl m hm) k hkm
 intro m
 induction m with
 | zero =>
  intro listed a w hs hcl hm hf hkp hC hR
  rw [List.countP_eq_zero] at hm
  have hall : ∀ i, i < ops.size -> listed.getD i true = true := fun i hi => by simpa using hm i (List.mem_range.2 hi)
  have h0 : Region.ready .any ops listed = [] := by
   cases hr : Region.ready .any ops listed with
   | nil => rfl
   | cons x xs =>
    obtain ⟨g1, g2, _⟩ := hready2 listed x hs (by rw [hr]; exact List.mem_cons_self)
    rw [hall x g1] at g2; cases g2
  refine wpAny_done h0 ?_ _
  rw [hall e0 (by omega)] at hC
  exact hend a w hf hC (fun j hj hk => hR j (by omega) (hall j (by omega)) (fun i hi _ => hk i (by omega)))
 | succ m ih =>
  intro listed a w hs hcl hm hf hkp hC hR
  refine ⟨fun h0 => ?_, fun i hi => ?_⟩
  ·exfalso
   have hex : ∃ i, i < ops.size /\ listed.getD i true = false := by
    have hp : 0 < (List.range ops.size).countP (fun i => !listed.getD i true) := by omega
    obtain ⟨i, h1, h2⟩ := List.countP_pos_iff.1 hp
    exact ⟨i, List.mem_range.1 h1, by simpa using h2⟩
   have hmin : ∀ n i, i <= n -> i < ops.size -> listed.getD i true = false -> False := by
    intro n
    induction n with
    | zero =>
     intro i hi hio hl
     have := hready listed i hs hio hl (fun e he => by have := S.less i (by omega) e he; omega)
     rw [h0] at this; cases this
    | succ n ihn =>
     intro i hi hio hl
     have := hready listed i hs hio hl (fun e he => by
      have hlt := S.less i (by omega) e he
      cases hle : listed.getD e true with
      | true => rfl
      | false => exact (ihn e (by omega) (by omega) hle).elim)
     rw [h0] at this; cases this
   obtain ⟨i, h1, h2⟩ := hex
   exact hmin i i (Nat.le_refl _) h1 h2
  ·obtain ⟨h1, h2, h3⟩ := hready2 listed i hs hi
   obtain ⟨o, ho⟩ : ∃ o, ops[i]? = some o := ⟨_, Array.getElem?_eq_getElem h1⟩
   refine wpOp_step ho (fun K hK => ?_)
   have hget : ∀ j, j ≠ i -> (listed.setIfInBounds i true).getD j true = listed.getD j true := fun j hj => by
    rw [Array.getD_eq_getD_getElem?, Array.getD_eq_getD_getElem?, Array.getElem?_setIfInBounds_ne (fun e => hj e.symm)]
   have hgeti : (listed.setIfInBounds i true).getD i true = true := by
    rw [Array.getD_eq_getD_getElem?, Array.getElem?_setIfInBounds]; simp [hs, h1]
   have hld : ldst rows i = o.dst := by unfold ldst; rw [hrow i o ho]; rfl
   have hslot : ∀ v, slotV ops (a.put o.dst v) i = (match o.dst with | some _ => v | none => undef) := by
    intro v
    unfold slotV
    rw [ho]
    simp only [Option.bind_some]
    cases hd : o.dst with
    | none => rfl
    | some d =>
     simp only
     exact iev_eq (by rw [hf.size]; exact hds d (S.dst i (by omega) d (by rw [hld, hd])))
   have hsloj : ∀ v j, j < ops.size -> j ≠ i -> slotV ops (a.put o.dst v) j = slotV ops a j := by
    intro v j hj hji
    obtain ⟨oj, hoj⟩ : ∃ o, ops[j]? = some o := ⟨_, Array.getElem?_eq_getElem hj⟩
    unfold slotV
    rw [hoj]
    simp only [Option.bind_some]
    cases hd : o.dst with
    | none => cases oj.dst <;> rfl
    | some d =>
     cases hdj : oj.dst with
     | none => rfl
     | some dj =>
      simp only
      refine iev_ne (fun e => ?_)
      have := S.other i (by omega) d (by rw [hld, hd]) j (by omega) hji
      apply this
      unfold ldst
      rw [hrow j oj hoj]
      show oj.dst = some d
      rw [hdj, e]
   have hunl : i ≠ e0 -> listed.getD e0 true = false -> e0 ∉ anc i := fun hie hb hm => by
    have : listed.getD e0 true = true := by
     rcases S.ancs i (by omega) e0 hm with h | ⟨q, hq, hqm⟩
     ·exact h3 e0 h
     ·have hql := S.less i (by omega) q hq
      exact hanc listed hcl q q (Nat.le_refl _) (by omega) (h3 q hq) e0 hqm
    rw [hb] at this; cases this
   have hst : IStep2 P ops Q a0 ds (fun a => listed.getD e0 true = false -> Kept a0 keepd a) (C (listed.getD e0 true)) (C ((listed.setIfInBounds i true).getD e0 true)) R wd need kill later i := by
    by_cases hie : i = e0
    ·subst hie
     rw [hgeti, h2]
     exact fun o a w g1 g2 g3 g4 g5 => hstepe o a w g1 g2 (g3 rfl) g4 g5
    ·rw [hget e0 (fun e => hie e.symm)]
     cases hb : listed.getD e0 true with
     | true =>
      refine istep2_of (hstep1 i (by omega) hie (fun hm => ?_))
      have := hanc listed hcl e0 e0 (Nat.le_refl _) (by omega) hb i hm
      rw [h2] at this; cases this
     | false => exact fun o a w g1 g2 g3 g4 g5 => hstep0 i (by omega) hie (hunl hie hb) o a w g1 g2 (g3 rfl) g4 g5
   refine hst o a w ho hf hkp hC (fun k hk => ?_) K (fun v w' c1 c2 c3 => hK _ _ ?_)
   ·have hkl := h3 k (S.needs i (by omega) k hk)
    refine hR k (by have := S.less i (by omega) k (S.needs i (by omega) k hk); omega) hkl (fun j hj hlj hkj => ?_)
    rcases S.kills j (by omega) k hkj i (by omega) hk with e | e
    ·subst e; rw [h2] at hlj; cases hlj
    ·have := hanc listed hcl j j (Nat.le_refl _) hj hlj i e
     rw [h2] at this; cases this
   ·refine ih (listed.setIfInBounds i true) _ w' (by simpa using hs) ?_ ?_ (hf.put S.nodup (fun e he => S.dst i (by omega) e (by rw [hld, he])) v) (fun hb d hd => ?_) c1 ?_
    ·intro j hj hlj e he
     by_cases hji : j = i
     ·subst hji
      have hne : e ≠ j := fun e2 => by have := S.less j (by omega) e he; omega
      rw [hget e hne]; exact h3 e he
     ·rw [hget j hji] at hlj
      by_cases hei : e = i
      ·subst hei; exact hgeti
      ·rw [hget e hei]; exact hcl j hj hlj e he
    ·have hmem : i ∈ List.range ops.size := List.mem_range.2 h1
     have key : ∀ (l : List Nat), l.Nodup -> i ∈ l -> l.countP (fun j => !listed.getD j true) = l.countP (fun j => !(listed.setIfInBounds i true).getD j true) + 1 := by
      intro l hn hil
      induction l with
      | nil => cases hil
      | cons x l ihl =>
       rw [List.nodup_cons] at hn
       rw [List.countP_cons, List.countP_cons]
       rcases List.mem_cons.1 hil with rfl | hil
       ·have hsame : l.countP (fun j => !listed.getD j true) = l.countP (fun j => !(listed.setIfInBounds i true).getD j true) := by
         apply List.countP_congr
         intro j hj
         have : j ≠ i := fun e => hn.1 (e ▸ hj)
         rw [hget j this]
        rw [hsame, h2, hgeti]
        simp
       ·have hxi : x ≠ i := fun e => hn.1 (e ▸ hil)
        rw [ihl hn.2 hil, hget x hxi]
        omega
     have := key _ List.nodup_range hmem
     omega
    ·by_cases hie : i = e0
     ·subst hie; rw [hgeti] at hb; cases hb
     ·rw [hget e0 (fun e => hie e.symm)] at hb
      rw [<- hkp hb d hd]
      cases hdo : o.dst with
      | none => rfl
      | some d' => exact iev_ne (fun e => hkd i (by omega) hie (hunl hie hb) d' (by rw [hld, hdo]) (by rw [e]; exact hd))
    ·intro j hj hlj hk
     by_cases hji : j = i
     ·subst hji; rw [hslot]; exact c2
     ·rw [hget j hji] at hlj
      rw [hsloj v j hj hji]
      have hRj := hR j hj hlj (fun i' hi' hli' => hk i' hi' (by
       by_cases e : i' = i
       ·subst e; exact hgeti
       ·rw [hget i' e]; exact hli'))
      by_cases hwd : j ∈ wd
      case neg => exact hpure j hwd _ _ _ hRj
      refine c3 j hwd hji (hk i h1 hgeti) (fun hlat => ?_) _ hRj
      have := hanc listed hcl j j (Nat.le_refl _) hj hlj i (S.laters i (by omega) j hlat).1
      rw [h2] at this; cases this
theorem istep_w2 {a0 : Act} {ds : List Nat} {kp : Act -> Prop} {C C' : World -> Prop} {R : Nat -> Value -> World -> Prop} {wd : List Nat} {need kill later : Nat -> List Nat} {i : Nat} (o : Oper) (ho : ops[i]? = some o) (hw : ∀ a w, Fr a0 ds a -> C w -> (∀ k ∈ need i, R k (slotV ops a k) w) -> Region.wanted o (yielded ops a.tmps) = true)
  (h : ∀ a w, Fr a0 ds a -> kp a -> C w -> (∀ k ∈ need i, R k (slotV ops a k) w) -> ∀ K : Act -> World -> Prop, (∀ v w', C' w' -> R i (match o.dst with | some _ => v | none => undef) w' -> (∀ j ∈ wd, j ≠ i -> j ∉ kill i -> j ∉ later i -> ∀ x, R j x w -> R j x w') -> K (a.put o.dst v) w') -> Oper.wp P o a w K Q) : IStep2 P ops Q a0 ds kp C C' R wd need kill later i := by
 intro o' a w ho' hf hk hC hn K hK
 obtain rfl : o' = o := Option.some.inj (ho'.symm.trans ho)
 rw [if_pos (hw a w hf hC hn)]
 exact h a w hf hk hC hn K hK
def ppchk (rows : List LRow) (keepd : List Nat) (n : Nat) (anc : Nat -> List Nat) (e0 : Nat) (pre post : List Nat) : Bool :=
 (decide (e0 < n) && pre.all (fun i => match ldst rows i with | some d => !keepd.contains d | none => true)) && (List.range n).all fun i => i == e0 || (((anc i).contains e0 || pre.contains i) && ((anc e0).contains i || post.contains i))
theorem wp_region_inv2 {id : Nat} {l : List Oper} {a0 : Act} {w : World} (e0 : Nat) (C0 C1 : World -> Prop) (R : Nat -> Value -> World -> Prop) (wd : List Nat) (ds : List Nat) (rows : List LRow) (anc need kill later : Nat -> List Nat)
  (hm : P.follows .mixedOrders = true) (hrows : l.map (lrow l.toArray) = rows) (hck : ichk rows ds anc need kill later = true) (hds : ds.all (fun d => decide (d < a0.tmps.size)) = true) (hC : C0 w.drew) (pre post : List Nat) (keepd : List Nat) (hpp : ppchk rows keepd rows.length anc e0 pre post = true) (hpure : ∀ j, j ∉ wd -> ∀ x w w', R j x w -> R j x w')
  (hs0 : ∀ i, i < rows.length -> i ∈ pre -> IStep2 P l.toArray Q a0 ds (Kept a0 keepd) C0 C0 R wd need kill later i) (hs1 : ∀ i, i < rows.length -> i ∈ post -> IStep P l.toArray Q a0 ds C1 R wd need kill later i)
  (hstepe : IStep2 P l.toArray Q a0 ds (Kept a0 keepd) C0 C1 R wd need kill later e0)
  (hend : ∀ a w, Fr a0 ds a -> C1 w -> (∀ j, j < rows.length -> (∀ i, i < rows.length -> j ∉ kill i) -> R j (slotV l.toArray a j) w) -> Q .normal a w) : (Code.region id l.toArray true).wp P Q a0 w := by
 refine wp_region_any hm ?_
 have hlen : rows.length = l.length := by rw [<- hrows]; simp
 unfold ppchk at hpp
 simp only [Bool.and_eq_true, decide_eq_true_eq, List.all_eq_true, List.mem_range, Bool.or_eq_true, beq_iff_eq, List.contains_iff_mem] at hpp
 obtain ⟨⟨hp0, hpk⟩, hpp⟩ := hpp
 refine any_inv2 a0 keepd e0 (fun b => cond b C1 C0) R wd ds rows anc need kill later (by simpa using hrows) hck (fun d hd => by simpa using List.all_eq_true.1 hds d hd) hpure hp0 (fun i hi hie hm d hd => ?_) (fun i hi hie hm => hs1 i hi (((hpp i hi).resolve_left hie).2.resolve_left hm)) (fun i hi hie hm => hs0 i hi (((hpp i hi).resolve_left hie).1.resolve_left hm)) hstepe hend _ _ a0 w.drew (by simp) ?_ ?_ (Fr.start _ _) (fun _ d _ => rfl) (by rw [Array.getD_eq_getD_getElem?, Array.getElem?_replicate, if_pos (by rw [List.size_toArray]; omega)]; exact hC) ?_
 ·have := hpk i (((hpp i hi).resolve_left hie).1.resolve_left hm)
  rw [hd] at this
  simpa using this
 ·intro i hi hl
  rw [Array.getD_eq_getD_getElem?, Array.getElem?_replicate, if_pos hi] at hl
  cases hl
 ·rw [List.countP_eq_length.2]
  ·simp
  ·intro i hi
   have hi := List.mem_range.1 hi
   rw [Array.getD_eq_getD_getElem?, Array.getElem?_replicate, if_pos hi]; rfl
 ·intro j hj hl
  rw [Array.getD_eq_getD_getElem?, Array.getElem?_replicate, if_pos hj] at hl
  cases hl
end
end
section
open Go.Shelf
def ShM.clone_ren : Go.Shelf.Ren := ⟨fun | 41 => 86 | n => n, fun | 22 => 22 | 23 => 50 | 4 => 4 | n => n, fun | n => n⟩
theorem ShM.clone : Go.Proofs.SlLaysE0.n41 Tryz.prog ShM.clone_ren := {
 mixed := by kernel_rfl
 f41 := ⟨Tryz.f86.name, by decide, Tryz.func86.trans (congrArg some (by kernel_rfl))⟩
 t4 := Tryz.underlying4
 a4 := Tryz.isAgg4
 z4 := Tryz.sizeOf4
 v4 := Tryz.zeroValue4
 t22 := Tryz.underlying22
 a22 := Tryz.isAgg22
 z22 := Tryz.sizeOf22
 v22 := Tryz.zeroValue22 }
def ShB.clone_ren : Go.Shelf.Ren := ⟨fun | 41 => 153 | n => n, fun | 22 => 23 | 23 => 74 | 4 => 4 | n => n, fun | n => n⟩
theorem ShB.clone : Go.Proofs.SlLaysE0.n41 Tryz.prog ShB.clone_ren := {
 mixed := by kernel_rfl
 f41 := ⟨Tryz.f153.name, by decide, Tryz.func153.trans (congrArg some (by kernel_rfl))⟩
 t4 := Tryz.underlying4
 a4 := Tryz.isAgg4
 z4 := Tryz.sizeOf4
 v4 := Tryz.zeroValue4
 t22 := Tryz.underlying23
 a22 := Tryz.isAgg23
 z22 := Tryz.sizeOf23
 v22 := Tryz.zeroValue23 }
def ShE.clone_ren : Go.Shelf.Ren := ⟨fun | 41 => 190 | n => n, fun | 22 => 24 | 23 => 57 | 4 => 4 | n => n, fun | n => n⟩
theorem ShE.clone : Go.Proofs.SlLaysE0.n41 Tryz.prog ShE.clone_ren := {
 mixed := by kernel_rfl
 f41 := ⟨Tryz.f190.name, by decide, Tryz.func190.trans (congrArg some (by kernel_rfl))⟩
 t4 := Tryz.underlying4
 a4 := Tryz.isAgg4
 z4 := Tryz.sizeOf4
 v4 := Tryz.zeroValue4
 t22 := Tryz.underlying24
 a22 := Tryz.isAgg24
 z22 := Tryz.sizeOf24
 v22 := Tryz.zeroValue24 }
def ShP.clone_ren : Go.Shelf.Ren := ⟨fun | 41 => 196 | n => n, fun | 22 => 25 | 23 => 76 | 4 => 4 | n => n, fun | n => n⟩
theorem ShP.clone : Go.Proofs.SlLaysE0.n41 Tryz.prog ShP.clone_ren := {
 mixed := by kernel_rfl
 f41 := ⟨Tryz.f196.name, by decide, Tryz.func196.trans (congrArg some (by kernel_rfl))⟩
 t4 := Tryz.underlying4
 a4 := Tryz.isAgg4
 z4 := Tryz.sizeOf4
 v4 := Tryz.zeroValue4
 t22 := Tryz.underlying25
 a22 := Tryz.isAgg25
 z22 := Tryz.sizeOf25
 v22 := Tryz.zeroValue25 }
def ShU.clone_ren : Go.Shelf.Ren := ⟨fun | 41 => 154 | n => n, fun | 22 => 35 | 23 => 45 | 4 => 4 | n => n, fun | n => n⟩
theorem ShU.clone : Go.Proofs.SlLaysE0.n41 Tryz.prog ShU.clone_ren := {
 mixed := by kernel_rfl
 f41 := ⟨Tryz.f154.name, by decide, Tryz.func154.trans (congrArg some (by kernel_rfl))⟩
 t4 := Tryz.underlying4
 a4 := Tryz.isAgg4
 z4 := Tryz.sizeOf4
 v4 := Tryz.zeroValue4
 t22 := Tryz.underlying35
 a22 := Tryz.isAgg35
 z22 := Tryz.sizeOf35
 v22 := Tryz.zeroValue35 }
def ShI.clone_ren : Go.Shelf.Ren := ⟨fun | 41 => 157 | n => n, fun | 22 => 34 | 23 => 3 | 4 => 4 | n => n, fun | n => n⟩
theorem ShI.clone : Go.Proofs.SlLaysE0.n41 Tryz.prog ShI.clone_ren := {
 mixed := by kernel_rfl
 f41 := ⟨Tryz.f157.name, by decide, Tryz.func157.trans (congrArg some (by kernel_rfl))⟩
 t4 := Tryz.underlying4
 a4 := Tryz.isAgg4
 z4 := Tryz.sizeOf4
 v4 := Tryz.zeroValue4
 t22 := Tryz.underlying34
 a22 := Tryz.isAgg34
 z22 := Tryz.sizeOf34
 v22 := Tryz.zeroValue34 }
def ShS.clone_ren : Go.Shelf.Ren := ⟨fun | 41 => 131 | n => n, fun | 22 => 59 | 23 => 9 | 4 => 4 | n => n, fun | n => n⟩
theorem ShS.clone : Go.Proofs.SlLaysE0.n41 Tryz.prog ShS.clone_ren := {
 mixed := by kernel_rfl
 f41 := ⟨Tryz.f131.name, by decide, Tryz.func131.trans (congrArg some (by kernel_rfl))⟩
 t4 := Tryz.underlying4
 a4 := Tryz.isAgg4
 z4 := Tryz.sizeOf4
 v4 := Tryz.zeroValue4
 t22 := Tryz.underlying59
 a22 := Tryz.isAgg59
 z22 := Tryz.sizeOf59
 v22 := Tryz.zeroValue59 }
def ShS.compact_ren : Go.Shelf.Ren := ⟨fun | 44 => 95 | n => n, fun | 25 => 59 | 26 => 9 | 3 => 3 | 4 => 4 | 0 => 0 | n => n, fun | n => n⟩
theorem ShS.compact : Go.Proofs.SlLaysN.n44 Tryz.prog ShS.compact_ren := {
 mixed := by kernel_rfl
 f44 := ⟨Tryz.f95.name, by decide, Tryz.func95.trans (congrArg some (by kernel_rfl))⟩
 t0 := Tryz.underlying0
 a0 := Tryz.isAgg0
 z0 := Tryz.sizeOf0
 v0 := Tryz.zeroValue0
 t3 := Tryz.underlying3
 a3 := Tryz.isAgg3
 z3 := Tryz.sizeOf3
 v3 := Tryz.zeroValue3
 t4 := Tryz.underlying4
 a4 := Tryz.isAgg4
 z4 := Tryz.sizeOf4
 v4 := Tryz.zeroValue4
 t25 := Tryz.underlying59
 a25 := Tryz.isAgg59
 z25 := Tryz.sizeOf59
 v25 := Tryz.zeroValue59
 t26 := Tryz.underlying9
 a26 := Tryz.isAgg9
 z26 := Tryz.sizeOf9
 v26 := Tryz.zeroValue9
 i26 := by kernel_rfl }
def ShL.compact_ren : Go.Shelf.Ren := ⟨fun | 43 => 101 | n => n, fun | 22 => 64 | 23 => 2 | 3 => 3 | 4 => 4 | 0 => 0 | n => n, fun | n => n⟩
theorem ShL.compact : Go.Proofs.SlLaysN.n43 Tryz.prog ShL.compact_ren := {
 mixed := by kernel_rfl
 f43 := ⟨Tryz.f101.name, by decide, Tryz.func101.trans (congrArg some (by kernel_rfl))⟩
 t0 := Tryz.underlying0
 a0 := Tryz.isAgg0
 z0 := Tryz.sizeOf0
 v0 := Tryz.zeroValue0
 t3 := Tryz.underlying3
 a3 := Tryz.isAgg3
 z3 := Tryz.sizeOf3
 v3 := Tryz.zeroValue3
 t4 := Tryz.underlying4
 a4 := Tryz.isAgg4
 z4 := Tryz.sizeOf4
 v4 := Tryz.zeroValue4
 t22 := Tryz.underlying64
 a22 := Tryz.isAgg64
 z22 := Tryz.sizeOf64
 v22 := Tryz.zeroValue64
 t23 := Tryz.underlying2
 a23 := Tryz.isAgg2
 z23 := Tryz.sizeOf2
 v23 := Tryz.zeroValue2
 i23 := by kernel_rfl }
def ShS.sortM_ren : Go.Shelf.Ren := ⟨fun | 6 => 94 | 8 => 164 | 9 => 163 | 19 => 210 | 20 => 211 | 21 => 201 | 22 => 202 | 23 => 203 | 24 => 204 | 25 => 205 | 26 => 206 | 27 => 207 | 28 => 208 | 29 => 209 | 36 => 229 | 31 => 230 | 32 => 231 | 37 => 232 | 38 => 233 | 39 => 234 | 41 => 243 | n => n, fun | 27 => 59 | 29 => 9 | 3 => 3 | 32 => 174 | 26 => 59 | 0 => 0 | 44 => 219 | 46 => 183 | 4 => 4 | 36 => 212 | 35 => 211 | 41 => 100 | 5 => 5 | 9 => 9 | 53 => 230 | 57 => 234 | 63 => 240 | 64 => 241 | n => n, fun | n => n⟩
theorem ShS.sortM : Go.Proofs.SlLaysM.n6 Tryz.prog ShS.sortM_ren := {
 mixed := by kernel_rfl
 f6 := ⟨Tryz.f94.name, by decide, Tryz.func94.trans (congrArg some (by kernel_rfl))⟩
 f8 := Tryz.func164.trans (congrArg some (by kernel_rfl))
 f9 := ⟨Tryz.f163.name, by decide, Tryz.func163.trans (congrArg some (by kernel_rfl))⟩
 f19 := Tryz.func210.trans (congrArg some (by kernel_rfl))
 f20 := Tryz.func211.trans (congrArg some (by kernel_rfl))
 f21 := ⟨Tryz.f201.name, by decide, Tryz.func201.trans (congrArg some (by kernel_rfl))⟩
 f22 := ⟨Tryz.f202.name, by decide, Tryz.func202.trans (congrArg some (by kernel_rfl))⟩
 f23 := ⟨Tryz.f203.name, by decide, Tryz.func203.trans (congrArg some (by kernel_rfl))⟩
 f24 := ⟨Tryz.f204.name, by decide, Tryz.func204.trans (congrArg some (by kernel_rfl))⟩
 f25 := ⟨Tryz.f205.name, by decide, Tryz.func205.trans (congrArg some (by kernel_rfl))⟩
 f26 := ⟨Tryz.f206.name, by decide, Tryz.func206.trans (congrArg some (by kernel_rfl))⟩
 f27 := ⟨Tryz.f207.name, by decide, Tryz.func207.trans (congrArg some (by kernel_rfl))⟩
 f28 := ⟨Tryz.f208.name, by decide, Tryz.func208.trans (congrArg some (by kernel_rfl))⟩
 f29 := ⟨Tryz.f209.name, by decide, Tryz.func209.trans (congrArg some (by kernel_rfl))⟩
 f31 := Tryz.func230.trans (congrArg some (by kernel_rfl))
 f32 := Tryz.func231.trans (congrArg some (by kernel_rfl))
 f36 := ⟨Tryz.f229.name, by decide, Tryz.func229.trans (congrArg some (by kernel_rfl))⟩
 f37 := ⟨Tryz.f232.name, by decide, Tryz.func232.trans (congrArg some (by kernel_rfl))⟩
 f38 := ⟨Tryz.f233.name, by decide, Tryz.func233.trans (congrArg some (by kernel_rfl))⟩
 f39 := ⟨Tryz.f234.name, by decide, Tryz.func234.trans (congrArg some (by kernel_rfl))⟩
 f41 := ⟨Tryz.f243.name, by decide, Tryz.func243.trans (congrArg some (by kernel_rfl))⟩
 t0 := Tryz.underlying0
 a0 := Tryz.isAgg0
 z0 := Tryz.sizeOf0
 v0 := Tryz.zeroValue0
 t3 := Tryz.underlying3
 a3 := Tryz.isAgg3
 z3 := Tryz.sizeOf3
 v3 := Tryz.zeroValue3
 t4 := Tryz.underlying4
 a4 := Tryz.isAgg4
 z4 := Tryz.sizeOf4
 v4 := Tryz.zeroValue4
 t5 := Tryz.underlying5
 a5 := Tryz.isAgg5
 z5 := Tryz.sizeOf5
 v5 := Tryz.zeroValue5
 t9 := Tryz.underlying9
 a9 := Tryz.isAgg9
 z9 := Tryz.sizeOf9
 v9 := Tryz.zeroValue9
 t26 := Tryz.underlying59
 a26 := Tryz.isAgg59
 z26 := Tryz.sizeOf59
 v26 := Tryz.zeroValue59
 t27 := Tryz.underlying59
 a27 := Tryz.isAgg59
 z27 := Tryz.sizeOf59
 v27 := Tryz.zeroValue59
 t29 := Tryz.underlying9
 a29 := Tryz.isAgg9
 z29 := Tryz.sizeOf9
 v29 := Tryz.zeroValue9
 t32 := Tryz.underlying174
 a32 := Tryz.isAgg174
 z32 := Tryz.sizeOf174
 v32 := Tryz.zeroValue174
 t35 := Tryz.underlying211
 a35 := Tryz.isAgg211
 z35 := Tryz.sizeOf211
 v35 := Tryz.zeroValue211
 t36 := Tryz.underlying212
 a36 := Tryz.isAgg212
 z36 := Tryz.sizeOf212
 v36 := Tryz.zeroValue212
 t41 := Tryz.underlying100
 a41 := Tryz.isAgg100
 z41 := Tryz.sizeOf100
 v41 := Tryz.zeroValue100
 t44 := Tryz.underlying219
 a44 := Tryz.isAgg219
 z44 := Tryz.sizeOf219
 v44 := Tryz.zeroValue219
 t46 := Tryz.underlying183
 a46 := Tryz.isAgg183
 z46 := Tryz.sizeOf183
 v46 := Tryz.zeroValue183
 t53 := Tryz.underlying230
 a53 := Tryz.isAgg230
 z53 := Tryz.sizeOf230
 v53 := Tryz.zeroValue230
 t57 := Tryz.underlying234
 a57 := Tryz.isAgg234
 z57 := Tryz.sizeOf234
 v57 := Tryz.zeroValue234
 t63 := Tryz.underlying240
 a63 := Tryz.isAgg240
 z63 := Tryz.sizeOf240
 v63 := Tryz.zeroValue240
 t64 := Tryz.underlying241
 a64 := Tryz.isAgg241
 z64 := Tryz.sizeOf241
 v64 := Tryz.zeroValue241 }
end
section
open Go.RowKit Go.Maps Go.Shelf
theorem clone_gen {ρ : Ren} (L : SlLaysE0.n41 Tryz.prog ρ) {t : TypeId} {size bytes : Nat} (E : ElT t (ρ.t 23) size bytes) (hz : ∀ w, (Go.sizeOf (ρ.t 23)).run Tryz.prog w = .ok size w) (v : Value) (n : Nat) (cs : List Value) (w : World) (h : CellsAt w v n size cs) (h1 : Ones cs) (hn : n <= 100000000) :
  Calls Tryz.prog (ρ.f 41) #[v] w fun e w' => ∃ a cap, e = .returned (.slice a n cap) /\ OwnN w (ρ.t 23) size n cs (.slice a n cap) w' /\ Tch No w w' /\ (a = none ↔ v = .slice none 0 0) := by
 obtain ⟨i0, z, hi0, hz0, hz1, hz2, hzs⟩ := E.info
 have hb := E.byt
 rcases h.2 with ⟨rfl, rfl⟩ | ⟨b, o, c, rfl, _, _, _, hc⟩
 ·obtain rfl : cs = [] := List.eq_nil_of_length_eq_zero (by simpa using h.1)
  refine (AnyE.slices_Clone_nil L 0 0 w).mono ?_
  rintro e w' ⟨rfl, rfl⟩
  exact ⟨none, 0, rfl, ⟨own_nil _ _ _, fun b hb => by simp [Value.ownBlock] at hb⟩, Tch.refl _ _, by simp⟩
 ·have hby : n * bytes <= 140737488355328 := by
   have : n * bytes <= 100000000 * 1000 := Nat.mul_le_mul hn hb
   omega
  refine (AnyE.slices_Clone L i0 z size bytes hi0 hz0 hz1 hz2 hzs E.pos hz b o n c cs w h.1 (by simp only [maxLen]; omega) hby hc h1).mono ?_
  rintro e w' ⟨v', rfl, hown, hnil, hbl⟩
  rcases hown.2 with ⟨h0, _⟩ | ⟨g, cap, cur, rfl, h3, h4⟩
  ·exact absurd h0 (by rintro rfl; exact hnil rfl)
  ·refine ⟨some ⟨g, 0, none⟩, cap, rfl, ⟨⟨hown.1, .inr ⟨g, cap, cur, rfl, Nat.zero_le _, h4⟩⟩, fun b hb => ?_⟩, Tch.ofBelow hbl, by simp⟩
   simp only [Value.ownBlock, Option.some.injEq] at hb
   omega
theorem clone_msg (v : Value) (l : List MsgM) (w : World) (h : IsMsgs w v l) (h1 : Ones (l.flatMap encMsg)) (hn : l.length <= 100000000) :
  Calls Tryz.prog 86 #[v] w fun e w' => ∃ a cap, e = .returned (.slice a l.length cap) /\ OwnN w 50 6 l.length (l.flatMap encMsg) (.slice a l.length cap) w' /\ Tch No w w' /\ (a = none ↔ v = .slice none 0 0) :=
 clone_gen ShM.clone eltMsg Tryz.sizeOf50 v _ _ w h h1 hn
end
end Go.Proofs.YtelaljoebdpicaaGreat
