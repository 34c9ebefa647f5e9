/- Part 10 of what the proof of StoreIds rests on. No condition. -/
import Derived.Shelf.SlicesE.Clone
import Derived.Shelf.SlicesG.CompactI
import Derived.Shelf.SlicesG.CompactS
import Derived.Shelf.SortM.Plain
import Derived.Shelf.SortM.SortNone
import Derived.Test.YtafndmnbnmlklaaGreatPStoreIds07
import Derived.Test.YtafndmnbnmlklaaGreatPStoreIds08
namespace Go.Proofs.YtafndmnbnmlklaaGreat
set_option maxRecDepth 100000
set_option maxHeartbeats 60000000
set_option linter.unusedVariables false
set_option linter.unusedSimpArgs false
set_option linter.unusedSectionVars false
section
open Go.RowKit Go.Maps
section
variable {P : Program} {ops : Array Oper} {Q : Exit -> Act -> World -> Prop}
def Kept (a0 : Act) (keepd : List Nat) (a : Act) : Prop := ∀ d ∈ keepd, a.eval (.tmp d) = a0.eval (.tmp d)
def IStep2 (P : Program) (ops : Array Oper) (Q : Exit -> Act -> World -> Prop) (a0 : Act) (ds : List Nat) (kp : Act -> Prop) (C C' : World -> Prop) (R : Nat -> Value -> World -> Prop) (wd : List Nat) (need kill later : Nat -> List Nat) (i : Nat) : Prop :=
 ∀ o a w, ops[i]? = some o -> Fr a0 ds a -> kp a -> C w -> (∀ k ∈ need i, R k (slotV ops a k) w) ->
  ∀ K : Act -> World -> Prop, (∀ v w', C' w' -> R i (match o.dst with | some _ => v | none => undef) w' -> (∀ j ∈ wd, j ≠ i -> j ∉ kill i -> j ∉ later i -> ∀ x, R j x w -> R j x w') -> K (a.put o.dst v) w') ->
   if Region.wanted o (yielded ops a.tmps) = true then Oper.wp P o a w K Q else K (a.put o.dst undef) w
theorem istep2_of {a0 : Act} {ds : List Nat} {kp : Act -> Prop} {C : World -> Prop} {R : Nat -> Value -> World -> Prop} {wd : List Nat} {need kill later : Nat -> List Nat} {i : Nat} (h : IStep P ops Q a0 ds C R wd need kill later i) : IStep2 P ops Q a0 ds kp C C R wd need kill later i :=
 fun o a w h1 h2 _ h3 h4 => h o a w h1 h2 h3 h4
theorem any_inv2 (a0 : Act) (keepd : List Nat) (e0 : Nat) (C : Bool -> World -> Prop) (R : Nat -> Value -> World -> Prop) (wd : List Nat) (ds : List Nat) (rows : List LRow) (anc need kill later : Nat -> List Nat)
  (hrows : ops.toList.map (lrow ops) = rows) (hck : ichk rows ds anc need kill later = true) (hds : ∀ d ∈ ds, d < a0.tmps.size) (hpure : ∀ j, j ∉ wd -> ∀ x w w', R j x w -> R j x w')
  (he0 : e0 < rows.length) (hkd : ∀ i, i < rows.length -> i ≠ e0 -> e0 ∉ anc i -> ∀ d, ldst rows i = some d -> d ∉ keepd) (hstep1 : ∀ i, i < rows.length -> i ≠ e0 -> i ∉ anc e0 -> IStep P ops Q a0 ds (C true) R wd need kill later i)
  (hstep0 : ∀ i, i < rows.length -> i ≠ e0 -> e0 ∉ anc i -> IStep2 P ops Q a0 ds (Kept a0 keepd) (C false) (C false) R wd need kill later i)
  (hstepe : IStep2 P ops Q a0 ds (Kept a0 keepd) (C false) (C true) R wd need kill later e0)
  (hend : ∀ a w, Fr a0 ds a -> C true w -> (∀ j, j < rows.length -> (∀ i, i < rows.length -> j ∉ kill i) -> R j (slotV ops a j) w) -> Q .normal a w) :
  ∀ (m : Nat) (listed : Array Bool) (a : Act) (w : World), listed.size = ops.size -> (∀ i, i < ops.size -> listed.getD i true = true -> ∀ e ∈ lon rows i, listed.getD e true = true) ->
   (List.range ops.size).countP (fun i => !listed.getD i true) = m ->
   Fr a0 ds a -> (listed.getD e0 true = false -> Kept a0 keepd a) -> C (listed.getD e0 true) w -> (∀ j, j < ops.size -> listed.getD j true = true -> (∀ i, i < ops.size -> listed.getD i true = true -> j ∉ kill i) -> R j (slotV ops a j) w) -> wpAny P .any ops Q m listed a w := by
 have S := ichk_spec hck
 have hlen : rows.length = ops.size := by rw [<- hrows]; simp
 have hrow : ∀ i o, ops[i]? = some o -> rows[i]? = some (lrow ops o) := fun i o ho => by rw [<- hrows, List.getElem?_map, Array.getElem?_toList, ho]; rfl
 have hready : ∀ (listed : Array Bool) i, listed.size = ops.size -> i < ops.size -> listed.getD i true = false -> (∀ e ∈ lon rows i, listed.getD e true = true) -> i ∈ Region.ready .any ops listed := by
  intro listed i hs hi h1 h2
  obtain ⟨o, ho⟩ : ∃ o, ops[i]? = some o := ⟨_, Array.getElem?_eq_getElem hi⟩
  unfold Region.ready
  rw [List.mem_filter]
  refine ⟨List.mem_range.2 hi, ?_⟩
  rw [h1, ho]
  simp only [Option.map_some, Option.getD_some, Bool.not_false, Bool.true_and, Array.all_eq_true_iff_forall_mem]
  intro e he
  cases hb : Region.binds .any e with
  | false => rfl
  | true =>
   have hm : e.on ∈ lon rows i := by unfold lon; rw [hrow i o ho]; exact lon_mem.2 ⟨e, he, hb, rfl⟩
   have h3 := h2 _ hm
   have h4 := S.less i (by omega) _ hm
   rw [Array.getD_eq_getD_getElem?, Array.getElem?_eq_getElem (by omega)] at h3 ⊢
   simpa using h3
 have hready2 : ∀ (listed : Array Bool) i, listed.size = ops.size -> i ∈ Region.ready .any ops listed -> i < ops.size /\ listed.getD i true = false /\ ∀ e ∈ lon rows i, listed.getD e true = true := by
  intro listed i hs hi
  unfold Region.ready at hi
  rw [List.mem_filter] at hi
  obtain ⟨h1, h2⟩ := hi
  have h1 := List.mem_range.1 h1
  obtain ⟨o, ho⟩ : ∃ o, ops[i]? = some o := ⟨_, Array.getElem?_eq_getElem h1⟩
  rw [ho] at h2
  simp only [Option.map_some, Option.getD_some, Bool.and_eq_true, Bool.not_eq_true', Array.all_eq_true_iff_forall_mem] at h2
  refine ⟨h1, h2.1, fun e he => ?_⟩
  have h5 := S.less i (by omega) e he
  unfold lon at he
  rw [hrow i o ho] at he
  obtain ⟨ed, hed, hb, rfl⟩ := lon_mem.1 he
  have h3 := h2.2 ed hed
  rw [hb] at h3
  rw [Array.getD_eq_getD_getElem?, Array.getElem?_eq_getElem (by omega)] at h3 ⊢
  simpa using h3
 have hanc : ∀ (listed : Array Bool), (∀ i, i < ops.size -> listed.getD i true = true -> ∀ e ∈ lon rows i, listed.getD e true = true) -> ∀ n i, i <= n -> i < ops.size -> listed.getD i true = true -> ∀ k ∈ anc i, listed.getD k true = true := by
  intro listed hcl n
  induction n with
  | zero =>
   intro i hi hio hl k hk
   rcases S.ancs i (by omega) k hk with h | ⟨m, hm, _⟩
   ·exact hcl i hio hl k h
   ·have := S.less i (by omega) m hm; omega
  | succ n ihn =>
   intro i hi hio hl k hk
   rcases S.ancs i (by omega) k hk with h | ⟨m, hm, hkm⟩
   ·exact hcl i hio hl k h
   ·have := S.less i (by omega) m hm
    exact ihn m (by omega) (by omega) (hcl i hio hl m hm) k hkm
 intro m
 induction m with
 | zero =>
  intro listed a w hs hcl hm hf hkp hC hR
  rw [List.countP_eq_zero] at hm
  have hall : ∀ i, i < ops.size -> listed.getD i true = true := fun i hi => by simpa using hm i (List.mem_range.2 hi)
  have h0 : Region.ready .any ops listed = [] := by
   cases hr : Region.ready .any ops listed with
   | nil => rfl
   | cons x xs =>
    obtain ⟨g1, g2, _⟩ := hready2 listed x hs (by rw [hr]; exact List.mem_cons_self)
    rw [hall x g1] at g2; cases g2
  refine wpAny_done h0 ?_ _
  rw [hall e0 (by omega)] at hC
  exact hend a w hf hC (fun j hj hk => hR j (by omega) (hall j (by omega)) (fun i hi _ => hk i (by omega)))
 | succ m ih =>
  intro listed a w hs hcl hm hf hkp hC hR
  refine ⟨fun h0 => ?_, fun i hi => ?_⟩
  ·exfalso
   have hex : ∃ i, i < ops.size /\ listed.getD i true = false := by
    have hp : 0 < (List.range ops.size).countP (fun i => !listed.getD i true) := by omega
    obtain ⟨i, h1, h2⟩ := List.countP_pos_iff.1 hp
    exact ⟨i, List.mem_range.1 h1, by simpa using h2⟩
   have hmin : ∀ n i, i <= n -> i < ops.size -> listed.getD i true = false -> False := by
    intro n
    induction n with
    | zero =>
     intro i hi hio hl
     have := hready listed i hs hio hl (fun e he => by have := S.less i (by omega) e he; omega)
     rw [h0] at this; cases this
    | succ n ihn =>
     intro i hi hio hl
     have := hready listed i hs hio hl (fun e he => by
      have hlt := S.less i (by omega) e he
      cases hle : listed.getD e true with
      | true => rfl
      | false => exact (ihn e (by omega) (by omega) hle).elim)
     rw [h0] at this; cases this
   obtain ⟨i, h1, h2⟩ := hex
   exact hmin i i (Nat.le_refl _) h1 h2
  ·obtain ⟨h1, h2, h3⟩ := hready2 listed i hs hi
   obtain ⟨o, ho⟩ : ∃ o, ops[i]? = some o := ⟨_, Array.getElem?_eq_getElem h1⟩
   refine wpOp_step ho (fun K hK => ?_)
   have hget : ∀ j, j ≠ i -> (listed.setIfInBounds i true).getD j true = listed.getD j true := fun j hj => by
    rw [Array.getD_eq_getD_getElem?, Array.getD_eq_getD_getElem?, Array.getElem?_setIfInBounds_ne (fun e => hj e.symm)]
   have hgeti : (listed.setIfInBounds i true).getD i true = true := by
    rw [Array.getD_eq_getD_getElem?, Array.getElem?_setIfInBounds]; simp [hs, h1]
   have hld : ldst rows i = o.dst := by unfold ldst; rw [hrow i o ho]; rfl
   have hslot : ∀ v, slotV ops (a.put o.dst v) i = (match o.dst with | some _ => v | none => undef) := by
    intro v
    unfold slotV
    rw [ho]
    simp only [Option.bind_some]
    cases hd : o.dst with
    | none => rfl
    | some d =>
     simp only
     exact iev_eq (by rw [hf.size]; exact hds d (S.dst i (by omega) d (by rw [hld, hd])))
   have hsloj : ∀ v j, j < ops.size -> j ≠ i -> slotV ops (a.put o.dst v) j = slotV ops a j := by
    intro v j hj hji
    obtain ⟨oj, hoj⟩ : ∃ o, ops[j]? = some o := ⟨_, Array.getElem?_eq_getElem hj⟩
    unfold slotV
    rw [hoj]
    simp only [Option.bind_some]
    cases hd : o.dst with
    | none => cases oj.dst <;> rfl
    | some d =>
     cases hdj : oj.dst with
     | none => rfl
     | some dj =>
      simp only
      refine iev_ne (fun e => ?_)
      have := S.other i (by omega) d (by rw [hld, hd]) j (by omega) hji
      apply this
      unfold ldst
      rw [hrow j oj hoj]
      show oj.dst = some d
      rw [hdj, e]
   have hunl : i ≠ e0 -> listed.getD e0 true = false -> e0 ∉ anc i := fun hie hb hm => by
    have : listed.getD e0 true = true := by
     rcases S.ancs i (by omega) e0 hm with h | ⟨q, hq, hqm⟩
     ·exact h3 e0 h
     ·have hql := S.less i (by omega) q hq
      exact hanc listed hcl q q (Nat.le_refl _) (by omega) (h3 q hq) e0 hqm
    rw [hb] at this; cases this
   have hst : IStep2 P ops Q a0 ds (fun a => listed.getD e0 true = false -> Kept a0 keepd a) (C (listed.getD e0 true)) (C ((listed.setIfInBounds i true).getD e0 true)) R wd need kill later i := by
    by_cases hie : i = e0
    ·subst hie
     rw [hgeti, h2]
     exact fun o a w g1 g2 g3 g4 g5 => hstepe o a w g1 g2 (g3 rfl) g4 g5
    ·rw [hget e0 (fun e => hie e.symm)]
     cases hb : listed.getD e0 true with
     | true =>
      refine istep2_of (hstep1 i (by omega) hie (fun hm => ?_))
      have := hanc listed hcl e0 e0 (Nat.le_refl _) (by omega) hb i hm
      rw [h2] at this; cases this
     | false => exact fun o a w g1 g2 g3 g4 g5 => hstep0 i (by omega) hie (hunl hie hb) o a w g1 g2 (g3 rfl) g4 g5
   refine hst o a w ho hf hkp hC (fun k hk => ?_) K (fun v w' c1 c2 c3 => hK _ _ ?_)
   ·have hkl := h3 k (S.needs i (by omega) k hk)
    refine hR k (by have := S.less i (by omega) k (S.needs i (by omega) k hk); omega) hkl (fun j hj hlj hkj => ?_)
    rcases S.kills j (by omega) k hkj i (by omega) hk with e | e
    ·subst e; rw [h2] at hlj; cases hlj
    ·have := hanc listed hcl j j (Nat.le_refl _) hj hlj i e
     rw [h2] at this; cases this
   ·refine ih (listed.setIfInBounds i true) _ w' (by simpa using hs) ?_ ?_ (hf.put S.nodup (fun e he => S.dst i (by omega) e (by rw [hld, he])) v) (fun hb d hd => ?_) c1 ?_
    ·intro j hj hlj e he
     by_cases hji : j = i
     ·subst hji
      have hne : e ≠ j := fun e2 => by have := S.less j (by omega) e he; omega
      rw [hget e hne]; exact h3 e he
     ·rw [hget j hji] at hlj
      by_cases hei : e = i
      ·subst hei; exact hgeti
      ·rw [hget e hei]; exact hcl j hj hlj e he
    ·have hmem : i ∈ List.range ops.size := List.mem_range.2 h1
     have key : ∀ (l : List Nat), l.Nodup -> i ∈ l -> l.countP (fun j => !listed.getD j true) = l.countP (fun j => !(listed.setIfInBounds i true).getD j true) + 1 := by
      intro l hn hil
      induction l with
      | nil => cases hil
      | cons x l ihl =>
       rw [List.nodup_cons] at hn
       rw [List.countP_cons, List.countP_cons]
       rcases List.mem_cons.1 hil with rfl | hil
       ·have hsame : l.countP (fun j => !listed.getD j true) = l.countP (fun j => !(listed.setIfInBounds i true).getD j true) := by
         apply List.countP_congr
         intro j hj
         have : j ≠ i := fun e => hn.1 (e ▸ hj)
         rw [hget j this]
        rw [hsame, h2, hgeti]
        simp
       ·have hxi : x ≠ i := fun e => hn.1 (e ▸ hil)
        rw [ihl hn.2 hil, hget x hxi]
        omega
     have := key _ List.nodup_range hmem
     omega
    ·by_cases hie : i = e0
     ·subst hie; rw [hgeti] at hb; cases hb
     ·rw [hget e0 (fun e => hie e.symm)] at hb
      rw [<- hkp hb d hd]
      cases hdo : o.dst with
      | none => rfl
      | some d' => exact iev_ne (fun e => hkd i (by omega) hie (hunl hie hb) d' (by rw [hld, hdo]) (by rw [e]; exact hd))
    ·intro j hj hlj hk
     by_cases hji : j = i
     ·subst hji; rw [hslot]; exact c2
     ·rw [hget j hji] at hlj
      rw [hsloj v j hj hji]
      have hRj := hR j hj hlj (fun i' hi' hli' => hk i' hi' (by
       by_cases e : i' = i
       ·subst e; exact hgeti
       ·rw [hget i' e]; exact hli'))
      by_cases hwd : j ∈ wd
      case neg => exact hpure j hwd _ _ _ hRj
      refine c3 j hwd hji (hk i h1 hgeti) (fun hlat => ?_) _ hRj
      have := hanc listed hcl j j (Nat.le_refl _) hj hlj i (S.laters i (by omega) j hlat).1
      rw [h2] at this; cases this
theorem istep_w2 {a0 : Act} {ds : List Nat} {kp : Act -> Prop} {C C' : World -> Prop} {R : Nat -> Value -> World -> Prop} {wd : List Nat} {need kill later : Nat -> List Nat} {i : Nat} (o : Oper) (ho : ops[i]? = some o) (hw : ∀ a w, Fr a0 ds a -> C w -> (∀ k ∈ need i, R k (slotV ops a k) w) -> Region.wanted o (yielded ops a.tmps) = true)
  (h : ∀ a w, Fr a0 ds a -> kp a -> C w -> (∀ k ∈ need i, R k (slotV ops a k) w) -> ∀ K : Act -> World -> Prop, (∀ v w', C' w' -> R i (match o.dst with | some _ => v | none => undef) w' -> (∀ j ∈ wd, j ≠ i -> j ∉ kill i -> j ∉ later i -> ∀ x, R j x w -> R j x w') -> K (a.put o.dst v) w') -> Oper.wp P o a w K Q) : IStep2 P ops Q a0 ds kp C C' R wd need kill later i := by
 intro o' a w ho' hf hk hC hn K hK
 obtain rfl : o' = o := Option.some.inj (ho'.symm.trans ho)
 rw [if_pos (hw a w hf hC hn)]
 exact h a w hf hk hC hn K hK
def ppchk (rows : List LRow) (keepd : List Nat) (n : Nat) (anc : Nat -> List Nat) (e0 : Nat) (pre post : List Nat) : Bool :=
 (decide (e0 < n) && pre.all (fun i => match ldst rows i with | some d => !keepd.contains d | none => true)) && (List.range n).all fun i => i == e0 || (((anc i).contains e0 || pre.contains i) && ((anc e0).contains i || post.contains i))
theorem wp_region_inv2 {id : Nat} {l : List Oper} {a0 : Act} {w : World} (e0 : Nat) (C0 C1 : World -> Prop) (R : Nat -> Value -> World -> Prop) (wd : List Nat) (ds : List Nat) (rows : List LRow) (anc need kill later : Nat -> List Nat)
  (hm : P.follows .mixedOrders = true) (hrows : l.map (lrow l.toArray) = rows) (hck : ichk rows ds anc need kill later = true) (hds : ds.all (fun d => decide (d < a0.tmps.size)) = true) (hC : C0 w.drew) (pre post : List Nat) (keepd : List Nat) (hpp : ppchk rows keepd rows.length anc e0 pre post = true) (hpure : ∀ j, j ∉ wd -> ∀ x w w', R j x w -> R j x w')
  (hs0 : ∀ i, i < rows.length -> i ∈ pre -> IStep2 P l.toArray Q a0 ds (Kept a0 keepd) C0 C0 R wd need kill later i) (hs1 : ∀ i, i < rows.length -> i ∈ post -> IStep P l.toArray Q a0 ds C1 R wd need kill later i)
  (hstepe : IStep2 P l.toArray Q a0 ds (Kept a0 keepd) C0 C1 R wd need kill later e0)
  (hend : ∀ a w, Fr a0 ds a -> C1 w -> (∀ j, j < rows.length -> (∀ i, i < rows.length -> j ∉ kill i) -> R j (slotV l.toArray a j) w) -> Q .normal a w) : (Code.region id l.toArray true).wp P Q a0 w := by
 refine wp_region_any hm ?_
 have hlen : rows.length = l.length := by rw [<- hrows]; simp
 unfold ppchk at hpp
 simp only [Bool.and_eq_true, decide_eq_true_eq, List.all_eq_true, List.mem_range, Bool.or_eq_true, beq_iff_eq, List.contains_iff_mem] at hpp
 obtain ⟨⟨hp0, hpk⟩, hpp⟩ := hpp
 refine any_inv2 a0 keepd e0 (fun b => cond b C1 C0) R wd ds rows anc need kill later (by simpa using hrows) hck (fun d hd => by simpa using List.all_eq_true.1 hds d hd) hpure hp0 (fun i hi hie hm d hd => ?_) (fun i hi hie hm => hs1 i hi (((hpp i hi).resolve_left hie).2.resolve_left hm)) (fun i hi hie hm => hs0 i hi (((hpp i hi).resolve_left hie).1.resolve_left hm)) hstepe hend _ _ a0 w.drew (by simp) ?_ ?_ (Fr.start _ _) (fun _ d _ => rfl) (by rw [Array.getD_eq_getD_getElem?, Array.getElem?_replicate, if_pos (by rw [List.size_toArray]; omega)]; exact hC) ?_
 ·have := hpk i (((hpp i hi).resolve_left hie).1.resolve_left hm)
  rw [hd] at this
  simpa using this
 ·intro i hi hl
  rw [Array.getD_eq_getD_getElem?, Array.getElem?_replicate, if_pos hi] at hl
  cases hl
 ·rw [List.countP_eq_length.2]
  ·simp
  ·intro i hi
   have hi := List.mem_range.1 hi
   rw [Array.getD_eq_getD_getElem?, Array.getElem?_replicate, if_pos hi]; rfl
 ·intro j hj hl
  rw [Array.getD_eq_getD_getElem?, Array.getElem?_replicate, if_pos hj] at hl
  cases hl
end
end
section
open Go.Shelf
def ShM.clone_ren : Go.Shelf.Ren := ⟨fun | 41 => 91 | n => n, fun | 22 => 24 | 23 => 50 | 4 => 4 | n => n, fun | n => n⟩
theorem ShM.clone : Go.Proofs.SlLaysE0.n41 Tryz.prog ShM.clone_ren := {
 mixed := by kernel_rfl
 f41 := ⟨Tryz.f91.name, by decide, Tryz.func91.trans (congrArg some (by kernel_rfl))⟩
 t4 := Tryz.underlying4
 a4 := Tryz.isAgg4
 z4 := Tryz.sizeOf4
 v4 := Tryz.zeroValue4
 t22 := Tryz.underlying24
 a22 := Tryz.isAgg24
 z22 := Tryz.sizeOf24
 v22 := Tryz.zeroValue24 }
def ShB.clone_ren : Go.Shelf.Ren := ⟨fun | 41 => 176 | n => n, fun | 22 => 25 | 23 => 95 | 4 => 4 | n => n, fun | n => n⟩
theorem ShB.clone : Go.Proofs.SlLaysE0.n41 Tryz.prog ShB.clone_ren := {
 mixed := by kernel_rfl
 f41 := ⟨Tryz.f176.name, by decide, Tryz.func176.trans (congrArg some (by kernel_rfl))⟩
 t4 := Tryz.underlying4
 a4 := Tryz.isAgg4
 z4 := Tryz.sizeOf4
 v4 := Tryz.zeroValue4
 t22 := Tryz.underlying25
 a22 := Tryz.isAgg25
 z22 := Tryz.sizeOf25
 v22 := Tryz.zeroValue25 }
def ShE.clone_ren : Go.Shelf.Ren := ⟨fun | 41 => 224 | n => n, fun | 22 => 26 | 23 => 71 | 4 => 4 | n => n, fun | n => n⟩
theorem ShE.clone : Go.Proofs.SlLaysE0.n41 Tryz.prog ShE.clone_ren := {
 mixed := by kernel_rfl
 f41 := ⟨Tryz.f224.name, by decide, Tryz.func224.trans (congrArg some (by kernel_rfl))⟩
 t4 := Tryz.underlying4
 a4 := Tryz.isAgg4
 z4 := Tryz.sizeOf4
 v4 := Tryz.zeroValue4
 t22 := Tryz.underlying26
 a22 := Tryz.isAgg26
 z22 := Tryz.sizeOf26
 v22 := Tryz.zeroValue26 }
def ShP.clone_ren : Go.Shelf.Ren := ⟨fun | 41 => 230 | n => n, fun | 22 => 27 | 23 => 75 | 4 => 4 | n => n, fun | n => n⟩
theorem ShP.clone : Go.Proofs.SlLaysE0.n41 Tryz.prog ShP.clone_ren := {
 mixed := by kernel_rfl
 f41 := ⟨Tryz.f230.name, by decide, Tryz.func230.trans (congrArg some (by kernel_rfl))⟩
 t4 := Tryz.underlying4
 a4 := Tryz.isAgg4
 z4 := Tryz.sizeOf4
 v4 := Tryz.zeroValue4
 t22 := Tryz.underlying27
 a22 := Tryz.isAgg27
 z22 := Tryz.sizeOf27
 v22 := Tryz.zeroValue27 }
def ShU.clone_ren : Go.Shelf.Ren := ⟨fun | 41 => 177 | n => n, fun | 22 => 32 | 23 => 45 | 4 => 4 | n => n, fun | n => n⟩
theorem ShU.clone : Go.Proofs.SlLaysE0.n41 Tryz.prog ShU.clone_ren := {
 mixed := by kernel_rfl
 f41 := ⟨Tryz.f177.name, by decide, Tryz.func177.trans (congrArg some (by kernel_rfl))⟩
 t4 := Tryz.underlying4
 a4 := Tryz.isAgg4
 z4 := Tryz.sizeOf4
 v4 := Tryz.zeroValue4
 t22 := Tryz.underlying32
 a22 := Tryz.isAgg32
 z22 := Tryz.sizeOf32
 v22 := Tryz.zeroValue32 }
def ShI.clone_ren : Go.Shelf.Ren := ⟨fun | 41 => 180 | n => n, fun | 22 => 31 | 23 => 3 | 4 => 4 | n => n, fun | n => n⟩
theorem ShI.clone : Go.Proofs.SlLaysE0.n41 Tryz.prog ShI.clone_ren := {
 mixed := by kernel_rfl
 f41 := ⟨Tryz.f180.name, by decide, Tryz.func180.trans (congrArg some (by kernel_rfl))⟩
 t4 := Tryz.underlying4
 a4 := Tryz.isAgg4
 z4 := Tryz.sizeOf4
 v4 := Tryz.zeroValue4
 t22 := Tryz.underlying31
 a22 := Tryz.isAgg31
 z22 := Tryz.sizeOf31
 v22 := Tryz.zeroValue31 }
def ShS.clone_ren : Go.Shelf.Ren := ⟨fun | 41 => 155 | n => n, fun | 22 => 82 | 23 => 9 | 4 => 4 | n => n, fun | n => n⟩
theorem ShS.clone : Go.Proofs.SlLaysE0.n41 Tryz.prog ShS.clone_ren := {
 mixed := by kernel_rfl
 f41 := ⟨Tryz.f155.name, by decide, Tryz.func155.trans (congrArg some (by kernel_rfl))⟩
 t4 := Tryz.underlying4
 a4 := Tryz.isAgg4
 z4 := Tryz.sizeOf4
 v4 := Tryz.zeroValue4
 t22 := Tryz.underlying82
 a22 := Tryz.isAgg82
 z22 := Tryz.sizeOf82
 v22 := Tryz.zeroValue82 }
end
section
open Go.RowKit Go.Maps Go.Shelf
theorem clone_gen {ρ : Ren} (L : SlLaysE0.n41 Tryz.prog ρ) {t : TypeId} {size bytes : Nat} (E : ElT t (ρ.t 23) size bytes) (hz : ∀ w, (Go.sizeOf (ρ.t 23)).run Tryz.prog w = .ok size w) (v : Value) (n : Nat) (cs : List Value) (w : World) (h : CellsAt w v n size cs) (h1 : Ones cs) (hn : n <= 100000000) :
  Calls Tryz.prog (ρ.f 41) #[v] w fun e w' => ∃ a cap, e = .returned (.slice a n cap) /\ OwnN w (ρ.t 23) size n cs (.slice a n cap) w' /\ Tch No w w' /\ (a = none ↔ v = .slice none 0 0) := by
 obtain ⟨i0, z, hi0, hz0, hz1, hz2, hzs⟩ := E.info
 have hb := E.byt
 rcases h.2 with ⟨rfl, rfl⟩ | ⟨b, o, c, rfl, _, _, _, hc⟩
 ·obtain rfl : cs = [] := List.eq_nil_of_length_eq_zero (by simpa using h.1)
  refine (AnyE.slices_Clone_nil L 0 0 w).mono ?_
  rintro e w' ⟨rfl, rfl⟩
  exact ⟨none, 0, rfl, ⟨own_nil _ _ _, fun b hb => by simp [Value.ownBlock] at hb⟩, Tch.refl _ _, by simp⟩
 ·have hby : n * bytes <= 140737488355328 := by
   have : n * bytes <= 100000000 * 1000 := Nat.mul_le_mul hn hb
   omega
  refine (AnyE.slices_Clone L i0 z size bytes hi0 hz0 hz1 hz2 hzs E.pos hz b o n c cs w h.1 (by simp only [maxLen]; omega) hby hc h1).mono ?_
  rintro e w' ⟨v', rfl, hown, hnil, hbl⟩
  rcases hown.2 with ⟨h0, _⟩ | ⟨g, cap, cur, rfl, h3, h4⟩
  ·exact absurd h0 (by rintro rfl; exact hnil rfl)
  ·refine ⟨some ⟨g, 0, none⟩, cap, rfl, ⟨⟨hown.1, .inr ⟨g, cap, cur, rfl, Nat.zero_le _, h4⟩⟩, fun b hb => ?_⟩, Tch.ofBelow hbl, by simp⟩
   simp only [Value.ownBlock, Option.some.injEq] at hb
   omega
theorem clone_msg (v : Value) (l : List MsgM) (w : World) (h : IsMsgs w v l) (h1 : Ones (l.flatMap encMsg)) (hn : l.length <= 100000000) :
  Calls Tryz.prog 91 #[v] w fun e w' => ∃ a cap, e = .returned (.slice a l.length cap) /\ OwnN w 50 6 l.length (l.flatMap encMsg) (.slice a l.length cap) w' /\ Tch No w w' /\ (a = none ↔ v = .slice none 0 0) :=
 clone_gen ShM.clone eltMsg Tryz.sizeOf50 v _ _ w h h1 hn
theorem clone_end (v : Value) (l : List EndM) (w : World) (h : IsEnds w v l) (h1 : Ones (l.flatMap encEnd)) (hn : l.length <= 100000000) :
  Calls Tryz.prog 224 #[v] w fun e w' => ∃ a cap, e = .returned (.slice a l.length cap) /\ OwnN w 71 2 l.length (l.flatMap encEnd) (.slice a l.length cap) w' /\ Tch No w w' /\ (a = none ↔ v = .slice none 0 0) :=
 clone_gen ShE.clone eltEnd Tryz.sizeOf71 v _ _ w h h1 hn
theorem clone_put (v : Value) (l : List PutM) (w : World) (h : IsPuts w v l) (h1 : Ones (l.flatMap encPut)) (hn : l.length <= 100000000) :
  Calls Tryz.prog 177 #[v] w fun e w' => ∃ a cap, e = .returned (.slice a l.length cap) /\ OwnN w 45 2 l.length (l.flatMap encPut) (.slice a l.length cap) w' /\ Tch No w w' /\ (a = none ↔ v = .slice none 0 0) :=
 clone_gen ShU.clone eltPut Tryz.sizeOf45 v _ _ w h h1 hn
theorem clone_br (v : Value) (n : Nat) (cs : List Value) (w : World) (h : CellsAt w v n 2 cs) (h1 : Ones cs) (hn : n <= 100000000) :
  Calls Tryz.prog 176 #[v] w fun e w' => ∃ a cap, e = .returned (.slice a n cap) /\ OwnN w 95 2 n cs (.slice a n cap) w' /\ Tch No w w' /\ (a = none ↔ v = .slice none 0 0) :=
 clone_gen ShB.clone eltBr Tryz.sizeOf95 v _ _ w h h1 hn
theorem clone_pend (v : Value) (n : Nat) (cs : List Value) (w : World) (h : CellsAt w v n 2 cs) (h1 : Ones cs) (hn : n <= 100000000) :
  Calls Tryz.prog 230 #[v] w fun e w' => ∃ a cap, e = .returned (.slice a n cap) /\ OwnN w 75 2 n cs (.slice a n cap) w' /\ Tch No w w' /\ (a = none ↔ v = .slice none 0 0) :=
 clone_gen ShP.clone eltPend Tryz.sizeOf75 v _ _ w h h1 hn
theorem clone_int (v : Value) (l : List Int) (w : World) (h : IsInts w v l) (hn : l.length <= 100000000) :
  Calls Tryz.prog 180 #[v] w fun e w' => ∃ a cap, e = .returned (.slice a l.length cap) /\ OwnN w 3 1 l.length (l.map (fun x => .int .i64 x)) (.slice a l.length cap) w' /\ Tch No w w' /\ (a = none ↔ v = .slice none 0 0) :=
 clone_gen ShI.clone eltInt Tryz.sizeOf3 v _ _ w h (fun u hu => by obtain ⟨x, _, rfl⟩ := List.mem_map.1 hu; rfl) hn
end
section
open Go.RowKit Go.Maps
def FirstAt (p : Nat -> Bool) (n : Nat) (r : Int) : Prop := (r = -1 /\ ∀ i, i < n -> p i = false) ∨ ∃ k : Nat, k < n /\ r = (k : Int) /\ p k = true /\ ∀ i, i < k -> p i = false
theorem idx_br (g : Nat) (lb : Array Value) (eg : ∀ args w, (callFunc g args).run Tryz.prog w = .ok (.enter g args) w) (p : Nat -> Bool) (f0 : Nat -> Int) (f1 : Nat -> Value) (o1 : ∀ i, (f1 i).oneCell' = true) (cs : List Value) (n : Nat) (v : Value) (w : World) (h : CellsAt w v n 2 cs)
  (hcs : ∀ i, i < n -> cs[i * 2 + 0]? = some (.int .i64 (f0 i)) /\ cs[i * 2 + 1]? = some (f1 i)) (hp : ∀ k, k < n -> ∀ W, Tch No w W -> Calls Tryz.prog g (#[.agg #[.int .i64 (f0 k), f1 k]] ++ lb) W fun e w' => e = .returned (.bool (p k)) /\ Tch No W w') :
  Calls Tryz.prog 245 #[v, .func (.func g) #[] lb] w fun e w' => (∃ r : Int, e = .returned (.int .i64 r) /\ FirstAt p n r) /\ Tch No w w' := by
 obtain ⟨a, c, rfl, hc1, hc2⟩ := CellsAt.shape h
 have H := Lib.hid h
 have HS := Lib.hid hcs
 have HP := Lib.hid hp
 have O1 := Lib.hid o1
 have hml : n <= 9223372036854775807 := by unfold maxLen at hc2; omega
 clear h hcs hp hc1 hc2 o1
 go_enter Tryz.func245, Tryz.ntmps245
 go_wp2_with fail
 go_loopg [8] n (fun kx sx wr => ∃ k : Nat, sx = .int .i64 k /\ k <= n /\ n - k <= kx /\ Hid (Tch No w wr) /\ Hid (∀ i, i < k -> p i = false))
 case atStart => exact ⟨0, rfl, Nat.zero_le _, by omega, Tch.refl _ _, fun i h => absurd h (Nat.not_lt_zero _)⟩
 case round =>
  obtain ⟨k, rfl, hk, hgk, TT, I⟩ := hrel
  by_cases hlt : k < n
  ·have hb : ∃ b o, a = some ⟨b, o, none⟩ /\ wr.cell? ⟨b, o + k * 2, none⟩ = some (.int .i64 (f0 k)) /\ wr.cell? ⟨b, o + k * 2 + 1, none⟩ = some (f1 k) := by
    rcases H.out.2 with ⟨_, h0⟩ | ⟨b, o, cap2, h1, _, _, _, h5⟩
    ·omega
    ·injection h1 with h1 _ _
     obtain ⟨g0, g1⟩ := HS.out k hlt
     exact ⟨b, o, h1, TT.out.cell (by first | simpa [Nat.add_assoc] using h5 _ _ g0 | simpa using h5 _ _ g0) (fun h => h), TT.out.cell (by first | simpa [Nat.add_assoc] using h5 _ _ g1 | simpa using h5 _ _ g1) (fun h => h)⟩
   obtain ⟨b, o, rfl, e0, e1⟩ := hb
   have HF := HP.out k hlt wr TT.out
   obtain ⟨x0, hx0⟩ : ∃ z, f0 k = z := ⟨_, rfl⟩
   obtain ⟨x1, hx1⟩ : ∃ z, f1 k = z := ⟨_, rfl⟩
   have oc1 : x1.cells = #[x1] := by rw [<- hx1]; exact one_cells (O1.out k)
   rw [hx0, hx1] at HF
   rw [hx0] at e0
   rw [hx1] at e1
   clear hx0 hx1
   have HG := Lib.hid HF
   clear HF
   by_cases hit : p k = true
   ·rw [hit] at HG
    have HA : Hid (FirstAt p n (k : Int)) := .inr ⟨k, hlt, rfl, hit, I.out⟩
    clear hit
    go_wp2_with fail
    refine HG.out.mono ?_
    rintro e w3 ⟨rfl, T3⟩
    go_wp2_with fail
    go_ret
    exact ⟨⟨_, rfl, HA.out⟩, TT.out.trans0 T3⟩
   ·have hd : p k = false := by simpa using hit
    have HI : Hid (∀ i, i < k + 1 -> p i = false) := fun i h1 => by
     by_cases e : i = k
     ·subst e; exact hd
     ·exact I.out i (by omega)
    rw [hd] at HG
    clear hit hd
    go_wp2_with fail
    refine HG.out.mono ?_
    rintro e w3 ⟨rfl, T3⟩
    go_wp2_with fail
    go_roundg (n - (k + 1))
    case measure => omega
    case rel => exact ⟨k + 1, by go_num, by omega, by omega, TT.out.trans0 T3, HI.out⟩
  ·obtain rfl : k = n := by omega
   have HA : Hid (FirstAt p k (-1)) := .inl ⟨rfl, I.out⟩
   clear hlt
   go_wp2_with fail
   go_ret
   exact ⟨⟨_, rfl, HA.out⟩, TT.out⟩
theorem idx_pend (g : Nat) (lb : Array Value) (eg : ∀ args w, (callFunc g args).run Tryz.prog w = .ok (.enter g args) w) (p : Nat -> Bool) (f0 : Nat -> Int) (f1 : Nat -> Value) (o1 : ∀ i, (f1 i).oneCell' = true) (cs : List Value) (n : Nat) (v : Value) (w : World) (h : CellsAt w v n 2 cs)
  (hcs : ∀ i, i < n -> cs[i * 2 + 0]? = some (.int .i64 (f0 i)) /\ cs[i * 2 + 1]? = some (f1 i)) (hp : ∀ k, k < n -> ∀ W, Tch No w W -> Calls Tryz.prog g (#[.agg #[.int .i64 (f0 k), f1 k]] ++ lb) W fun e w' => e = .returned (.bool (p k)) /\ Tch No W w') :
  Calls Tryz.prog 246 #[v, .func (.func g) #[] lb] w fun e w' => (∃ r : Int, e = .returned (.int .i64 r) /\ FirstAt p n r) /\ Tch No w w' := by
 obtain ⟨a, c, rfl, hc1, hc2⟩ := CellsAt.shape h
 have H := Lib.hid h
 have HS := Lib.hid hcs
 have HP := Lib.hid hp
 have O1 := Lib.hid o1
 have hml : n <= 9223372036854775807 := by unfold maxLen at hc2; omega
 clear h hcs hp hc1 hc2 o1
 go_enter Tryz.func246, Tryz.ntmps246
 go_wp2_with fail
 go_loopg [8] n (fun kx sx wr => ∃ k : Nat, sx = .int .i64 k /\ k <= n /\ n - k <= kx /\ Hid (Tch No w wr) /\ Hid (∀ i, i < k -> p i = false))
 case atStart => exact ⟨0, rfl, Nat.zero_le _, by omega, Tch.refl _ _, fun i h => absurd h (Nat.not_lt_zero _)⟩
 case round =>
  obtain ⟨k, rfl, hk, hgk, TT, I⟩ := hrel
  by_cases hlt : k < n
  ·have hb : ∃ b o, a = some ⟨b, o, none⟩ /\ wr.cell? ⟨b, o + k * 2, none⟩ = some (.int .i64 (f0 k)) /\ wr.cell? ⟨b, o + k * 2 + 1, none⟩ = some (f1 k) := by
    rcases H.out.2 with ⟨_, h0⟩ | ⟨b, o, cap2, h1, _, _, _, h5⟩
    ·omega
    ·injection h1 with h1 _ _
     obtain ⟨g0, g1⟩ := HS.out k hlt
     exact ⟨b, o, h1, TT.out.cell (by first | simpa [Nat.add_assoc] using h5 _ _ g0 | simpa using h5 _ _ g0) (fun h => h), TT.out.cell (by first | simpa [Nat.add_assoc] using h5 _ _ g1 | simpa using h5 _ _ g1) (fun h => h)⟩
   obtain ⟨b, o, rfl, e0, e1⟩ := hb
   have HF := HP.out k hlt wr TT.out
   obtain ⟨x0, hx0⟩ : ∃ z, f0 k = z := ⟨_, rfl⟩
   obtain ⟨x1, hx1⟩ : ∃ z, f1 k = z := ⟨_, rfl⟩
   have oc1 : x1.cells = #[x1] := by rw [<- hx1]; exact one_cells (O1.out k)
   rw [hx0, hx1] at HF
   rw [hx0] at e0
   rw [hx1] at e1
   clear hx0 hx1
   have HG := Lib.hid HF
   clear HF
   by_cases hit : p k = true
   ·rw [hit] at HG
    have HA : Hid (FirstAt p n (k : Int)) := .inr ⟨k, hlt, rfl, hit, I.out⟩
    clear hit
    go_wp2_with fail
    refine HG.out.mono ?_
    rintro e w3 ⟨rfl, T3⟩
    go_wp2_with fail
    go_ret
    exact ⟨⟨_, rfl, HA.out⟩, TT.out.trans0 T3⟩
   ·have hd : p k = false := by simpa using hit
    have HI : Hid (∀ i, i < k + 1 -> p i = false) := fun i h1 => by
     by_cases e : i = k
     ·subst e; exact hd
     ·exact I.out i (by omega)
    rw [hd] at HG
    clear hit hd
    go_wp2_with fail
    refine HG.out.mono ?_
    rintro e w3 ⟨rfl, T3⟩
    go_wp2_with fail
    go_roundg (n - (k + 1))
    case measure => omega
    case rel => exact ⟨k + 1, by go_num, by omega, by omega, TT.out.trans0 T3, HI.out⟩
  ·obtain rfl : k = n := by omega
   have HA : Hid (FirstAt p k (-1)) := .inl ⟨rfl, I.out⟩
   clear hlt
   go_wp2_with fail
   go_ret
   exact ⟨⟨_, rfl, HA.out⟩, TT.out⟩
theorem idx_int (g : Nat) (lb : Array Value) (eg : ∀ args w, (callFunc g args).run Tryz.prog w = .ok (.enter g args) w) (p : Nat -> Bool) (f0 : Nat -> Int) (cs : List Value) (n : Nat) (v : Value) (w : World) (h : CellsAt w v n 1 cs)
  (hcs : ∀ i, i < n -> cs[i * 1 + 0]? = some (.int .i64 (f0 i))) (hp : ∀ k, k < n -> ∀ W, Tch No w W -> Calls Tryz.prog g (#[.int .i64 (f0 k)] ++ lb) W fun e w' => e = .returned (.bool (p k)) /\ Tch No W w') :
  Calls Tryz.prog 231 #[v, .func (.func g) #[] lb] w fun e w' => (∃ r : Int, e = .returned (.int .i64 r) /\ FirstAt p n r) /\ Tch No w w' := by
 obtain ⟨a, c, rfl, hc1, hc2⟩ := CellsAt.shape h
 have H := Lib.hid h
 have HS := Lib.hid hcs
 have HP := Lib.hid hp
 have hml : n <= 9223372036854775807 := by unfold maxLen at hc2; omega
 clear h hcs hp hc1 hc2 
 go_enter Tryz.func231, Tryz.ntmps231
 go_wp2_with fail
 go_loopg [8] n (fun kx sx wr => ∃ k : Nat, sx = .int .i64 k /\ k <= n /\ n - k <= kx /\ Hid (Tch No w wr) /\ Hid (∀ i, i < k -> p i = false))
 case atStart => exact ⟨0, rfl, Nat.zero_le _, by omega, Tch.refl _ _, fun i h => absurd h (Nat.not_lt_zero _)⟩
 case round =>
  obtain ⟨k, rfl, hk, hgk, TT, I⟩ := hrel
  by_cases hlt : k < n
  ·have hb : ∃ b o, a = some ⟨b, o, none⟩ /\ wr.cell? ⟨b, o + k, none⟩ = some (.int .i64 (f0 k)) := by
    rcases H.out.2 with ⟨_, h0⟩ | ⟨b, o, cap2, h1, _, _, _, h5⟩
    ·omega
    ·injection h1 with h1 _ _
     have g0 := HS.out k hlt
     exact ⟨b, o, h1, TT.out.cell (by first | simpa [Nat.add_assoc] using h5 _ _ g0 | simpa using h5 _ _ g0) (fun h => h)⟩
   obtain ⟨b, o, rfl, e0⟩ := hb
   have HF := HP.out k hlt wr TT.out
   obtain ⟨x0, hx0⟩ : ∃ z, f0 k = z := ⟨_, rfl⟩
   rw [hx0] at HF
   rw [hx0] at e0
   clear hx0
   have HG := Lib.hid HF
   clear HF
   by_cases hit : p k = true
   ·rw [hit] at HG
    have HA : Hid (FirstAt p n (k : Int)) := .inr ⟨k, hlt, rfl, hit, I.out⟩
    clear hit
    go_wp2_with fail
    refine HG.out.mono ?_
    rintro e w3 ⟨rfl, T3⟩
    go_wp2_with fail
    go_ret
    exact ⟨⟨_, rfl, HA.out⟩, TT.out.trans0 T3⟩
   ·have hd : p k = false := by simpa using hit
    have HI : Hid (∀ i, i < k + 1 -> p i = false) := fun i h1 => by
     by_cases e : i = k
     ·subst e; exact hd
     ·exact I.out i (by omega)
    rw [hd] at HG
    clear hit hd
    go_wp2_with fail
    refine HG.out.mono ?_
    rintro e w3 ⟨rfl, T3⟩
    go_wp2_with fail
    go_roundg (n - (k + 1))
    case measure => omega
    case rel => exact ⟨k + 1, by go_num, by omega, by omega, TT.out.trans0 T3, HI.out⟩
  ·obtain rfl : k = n := by omega
   have HA : Hid (FirstAt p k (-1)) := .inl ⟨rfl, I.out⟩
   clear hlt
   go_wp2_with fail
   go_ret
   exact ⟨⟨_, rfl, HA.out⟩, TT.out⟩
end
section
open Go.RowKit Go.Maps
theorem without1_any (i1 t : Int) (y : Value) (hy : y.oneCell' = true) (ib : Nat) (w : World) (hc : w.cell? ⟨ib, 0, none⟩ = some (.int .i64 t)) :
  Calls Tryz.prog 233 #[.agg #[.int .i64 i1, y], .pointer (some ⟨ib, 0, none⟩)] w fun e w' => e = .returned (.bool (i1 == t)) /\ Tch No w w' := by
 have hc2 := cal hc
 have hyc := one_cells hy
 go_enter Tryz.func233, Tryz.ntmps233
 go_wp2_with fail
 go_ret
 exact ⟨rfl, Tch.alloc _ _⟩
theorem end1_any (i1 t : Int) (y : Value) (hy : y.oneCell' = true) (ib : Nat) (w : World) (hc : w.cell? ⟨ib, 0, none⟩ = some (.int .i64 t)) :
  Calls Tryz.prog 226 #[.agg #[.int .i64 i1, y], .pointer (some ⟨ib, 0, none⟩)] w fun e w' => e = .returned (.bool (i1 == t)) /\ Tch No w w' := by
 have hc2 := cal hc
 have hyc := one_cells hy
 go_enter Tryz.func226, Tryz.ntmps226
 go_wp2_with fail
 go_ret
 exact ⟨rfl, Tch.alloc _ _⟩
end
section
open Go.RowKit Go.Maps
theorem zc_len (cs : Array Value) (n : Nat) : (Builtin.zeroCells cs n).toList.length = n * cs.size := by simp [Builtin.zeroCells]
theorem zc_one (cs : Array Value) (n : Nat) (h : ∀ i (hi : i < cs.size), cs[i].oneCell' = true) (hp : 0 < cs.size) : ∀ u ∈ (Builtin.zeroCells cs n).toList, u.oneCell' = true := by
 intro u hu
 unfold Builtin.zeroCells at hu
 rw [Array.toList_map] at hu
 obtain ⟨i, _, rfl⟩ := List.mem_map.1 hu
 have hm := Nat.mod_lt i hp
 rw [getElem!_pos cs (i % cs.size) hm]
 exact h _ hm
theorem run_clear_many (w : World) (t e ty : TypeId) (z : Value) (ht : Tryz.prog.underlying t = some (.slice e)) (hv : ∀ w, (zeroValue e).run Tryz.prog w = .ok z w) (b o n c : Nat) (hn : 0 < n) (zs : List Value) (hzs : (Builtin.zeroCells z.cells n).toList = zs) (h1 : ∀ u ∈ zs, u.oneCell' = true)
  (hc : ∀ j, j < zs.length -> (w.cell? ⟨b, o + j, none⟩).isSome = true) (hf : ∀ j, j < zs.length -> w.frozen? ⟨b, o + j, none⟩ = false) :
  (Builtin.clear_ #[t] ty #[.slice (some ⟨b, o, none⟩) n c]).run Tryz.prog w = .ok (.tuple #[]) (w.setCells b o zs) := by
 have hst := run_storeCells_cells (P := Tryz.prog) b o zs 0 w (by simpa using hc) (by simpa using hf) h1
 simp only [Nat.add_zero] at hst
 obtain ⟨m, rfl⟩ : ∃ m, n = m + 1 := ⟨n - 1, by omega⟩
 simp [Builtin.clear_, run_underlying ht, hv, hzs, hst]
end
end Go.Proofs.YtafndmnbnmlklaaGreat
