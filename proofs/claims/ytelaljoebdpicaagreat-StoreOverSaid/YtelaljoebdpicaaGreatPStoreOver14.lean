/- Part 14 of what the proof of StoreOver rests on. No condition. -/
import Derived.Laws.IdiomCopy
import Derived.Shelf.SlicesE.Clone
import Derived.Shelf.SlicesG.CompactI
import Derived.Shelf.SlicesG.CompactS
import Derived.Shelf.Sort.Plain
import Derived.Shelf.SortM.Plain
import Derived.Shelf.SortM.SortNone
import Derived.Test.YtelaljoebdpicaaGreatPStoreOver07
import Derived.Test.YtelaljoebdpicaaGreatPStoreOver10
namespace Go.Proofs.YtelaljoebdpicaaGreat
set_option maxRecDepth 100000
set_option maxHeartbeats 60000000
set_option linter.unusedVariables false
set_option linter.unusedSimpArgs false
set_option linter.unusedSectionVars false
section
open Go.RowKit Go.Maps
section
variable {P : Program} {ops : Array Oper} {Q : Exit -> Act -> World -> Prop}
def Kept (a0 : Act) (keepd : List Nat) (a : Act) : Prop := ∀ d ∈ keepd, a.eval (.tmp d) = a0.eval (.tmp d)
def IStep2 (P : Program) (ops : Array Oper) (Q : Exit -> Act -> World -> Prop) (a0 : Act) (ds : List Nat) (kp : Act -> Prop) (C C' : World -> Prop) (R : Nat -> Value -> World -> Prop) (wd : List Nat) (need kill later : Nat -> List Nat) (i : Nat) : Prop :=
 ∀ o a w, ops[i]? = some o -> Fr a0 ds a -> kp a -> C w -> (∀ k ∈ need i, R k (slotV ops a k) w) ->
  ∀ K : Act -> World -> Prop, (∀ v w', C' w' -> R i (match o.dst with | some _ => v | none => undef) w' -> (∀ j ∈ wd, j ≠ i -> j ∉ kill i -> j ∉ later i -> ∀ x, R j x w -> R j x w') -> K (a.put o.dst v) w') ->
   if Region.wanted o (yielded ops a.tmps) = true then Oper.wp P o a w K Q else K (a.put o.dst undef) w
theorem istep2_of {a0 : Act} {ds : List Nat} {kp : Act -> Prop} {C : World -> Prop} {R : Nat -> Value -> World -> Prop} {wd : List Nat} {need kill later : Nat -> List Nat} {i : Nat} (h : IStep P ops Q a0 ds C R wd need kill later i) : IStep2 P ops Q a0 ds kp C C R wd need kill later i :=
 fun o a w h1 h2 _ h3 h4 => h o a w h1 h2 h3 h4
theorem any_inv2 (a0 : Act) (keepd : List Nat) (e0 : Nat) (C : Bool -> World -> Prop) (R : Nat -> Value -> World -> Prop) (wd : List Nat) (ds : List Nat) (rows : List LRow) (anc need kill later : Nat -> List Nat)
  (hrows : ops.toList.map (lrow ops) = rows) (hck : ichk rows ds anc need kill later = true) (hds : ∀ d ∈ ds, d < a0.tmps.size) (hpure : ∀ j, j ∉ wd -> ∀ x w w', R j x w -> R j x w')
  (he0 : e0 < rows.length) (hkd : ∀ i, i < rows.length -> i ≠ e0 -> e0 ∉ anc i -> ∀ d, ldst rows i = some d -> d ∉ keepd) (hstep1 : ∀ i, i < rows.length -> i ≠ e0 -> i ∉ anc e0 -> IStep P ops Q a0 ds (C true) R wd need kill later i)
  (hstep0 : ∀ i, i < rows.length -> i ≠ e0 -> e0 ∉ anc i -> IStep2 P ops Q a0 ds (Kept a0 keepd) (C false) (C false) R wd need kill later i)
  (hstepe : IStep2 P ops Q a0 ds (Kept a0 keepd) (C false) (C true) R wd need kill later e0)
  (hend : ∀ a w, Fr a0 ds a -> C true w -> (∀ j, j < rows.length -> (∀ i, i < rows.length -> j ∉ kill i) -> R j (slotV ops a j) w) -> Q .normal a w) :
  ∀ (m : Nat) (listed : Array Bool) (a : Act) (w : World), listed.size = ops.size -> (∀ i, i < ops.size -> listed.getD i true = true -> ∀ e ∈ lon rows i, listed.getD e true = true) ->
   (List.range ops.size).countP (fun i => !listed.getD i true) = m ->
   Fr a0 ds a -> (listed.getD e0 true = false -> Kept a0 keepd a) -> C (listed.getD e0 true) w -> (∀ j, j < ops.size -> listed.getD j true = true -> (∀ i, i < ops.size -> listed.getD i true = true -> j ∉ kill i) -> R j (slotV ops a j) w) -> wpAny P .any ops Q m listed a w := by
 have S := ichk_spec hck
 have hlen : rows.length = ops.size := by rw [<- hrows]; simp
 have hrow : ∀ i o, ops[i]? = some o -> rows[i]? = some (lrow ops o) := fun i o ho => by rw [<- hrows, List.getElem?_map, Array.getElem?_toList, ho]; rfl
 have hready : ∀ (listed : Array Bool) i, listed.size = ops.size -> i < ops.size -> listed.getD i true = false -> (∀ e ∈ lon rows i, listed.getD e true = true) -> i ∈ Region.ready .any ops listed := by
  intro listed i hs hi h1 h2
  obtain ⟨o, ho⟩ : ∃ o, ops[i]? = some o := ⟨_, Array.getElem?_eq_getElem hi⟩
  unfold Region.ready
  rw [List.mem_filter]
  refine ⟨List.mem_range.2 hi, ?_⟩
  rw [h1, ho]
  simp only [Option.map_some, Option.getD_some, Bool.not_false, Bool.true_and, Array.all_eq_true_iff_forall_mem]
  intro e he
  cases hb : Region.binds .any e with
  | false => rfl
  | true =>
   have hm : e.on ∈ lon rows i := by unfold lon; rw [hrow i o ho]; exact lon_mem.2 ⟨e, he, hb, rfl⟩
   have h3 := h2 _ hm
   have h4 := S.less i (by omega) _ hm
   rw [Array.getD_eq_getD_getElem?, Array.getElem?_eq_getElem (by omega)] at h3 ⊢
   simpa using h3
 have hready2 : ∀ (listed : Array Bool) i, listed.size = ops.size -> i ∈ Region.ready .any ops listed -> i < ops.size /\ listed.getD i true = false /\ ∀ e ∈ lon rows i, listed.getD e true = true := by
  intro listed i hs hi
  unfold Region.ready at hi
  rw [List.mem_filter] at hi
  obtain ⟨h1, h2⟩ := hi
  have h1 := List.mem_range.1 h1
  obtain ⟨o, ho⟩ : ∃ o, ops[i]? = some o := ⟨_, Array.getElem?_eq_getElem h1⟩
  rw [ho] at h2
  simp only [Option.map_some, Option.getD_some, Bool.and_eq_true, Bool.not_eq_true', Array.all_eq_true_iff_forall_mem] at h2
  refine ⟨h1, h2.1, fun e he => ?_⟩
  have h5 := S.less i (by omega) e he
  unfold lon at he
  rw [hrow i o ho] at he
  obtain ⟨ed, hed, hb, rfl⟩ := lon_mem.1 he
  have h3 := h2.2 ed hed
  rw [hb] at h3
  rw [Array.getD_eq_getD_getElem?, Array.getElem?_eq_getElem (by omega)] at h3 ⊢
  simpa using h3
 have hanc : ∀ (listed : Array Bool), (∀ i, i < ops.size -> listed.getD i true = true -> ∀ e ∈ lon rows i, listed.getD e true = true) -> ∀ n i, i <= n -> i < ops.size -> listed.getD i true = true -> ∀ k ∈ anc i, listed.getD k true = true := by
  intro listed hcl n
  induction n with
  | zero =>
   intro i hi hio hl k hk
   rcases S.ancs i (by omega) k hk with h | ⟨m, hm, _⟩
   ·exact hcl i hio hl k h
   ·have := S.less i (by omega) m hm; omega
  | succ n ihn =>
   intro i hi hio hl k hk
   rcases S.ancs i (by omega) k hk with h | ⟨m, hm, hkm⟩
   ·exact hcl i hio hl k h
   ·have := S.less i (by omega) m hm
    exact ihn m (by omega) (by omega) (hcl i hio hl m hm) k hkm
 intro m
 induction m with
 | zero =>
  intro listed a w hs hcl hm hf hkp hC hR
  rw [List.countP_eq_zero] at hm
  have hall : ∀ i, i < ops.size -> listed.getD i true = true := fun i hi => by simpa using hm i (List.mem_range.2 hi)
  have h0 : Region.ready .any ops listed = [] := by
   cases hr : Region.ready .any ops listed with
   | nil => rfl
   | cons x xs =>
    obtain ⟨g1, g2, _⟩ := hready2 listed x hs (by rw [hr]; exact List.mem_cons_self)
    rw [hall x g1] at g2; cases g2
  refine wpAny_done h0 ?_ _
  rw [hall e0 (by omega)] at hC
  exact hend a w hf hC (fun j hj hk => hR j (by omega) (hall j (by omega)) (fun i hi _ => hk i (by omega)))
 | succ m ih =>
  intro listed a w hs hcl hm hf hkp hC hR
  refine ⟨fun h0 => ?_, fun i hi => ?_⟩
  ·exfalso
   have hex : ∃ i, i < ops.size /\ listed.getD i true = false := by
    have hp : 0 < (List.range ops.size).countP (fun i => !listed.getD i true) := by omega
    obtain ⟨i, h1, h2⟩ := List.countP_pos_iff.1 hp
    exact ⟨i, List.mem_range.1 h1, by simpa using h2⟩
   have hmin : ∀ n i, i <= n -> i < ops.size -> listed.getD i true = false -> False := by
    intro n
    induction n with
    | zero =>
     intro i hi hio hl
     have := hready listed i hs hio hl (fun e he => by have := S.less i (by omega) e he; omega)
     rw [h0] at this; cases this
    | succ n ihn =>
     intro i hi hio hl
     have := hready listed i hs hio hl (fun e he => by
      have hlt := S.less i (by omega) e he
      cases hle : listed.getD e true with
      | true => rfl
      | false => exact (ihn e (by omega) (by omega) hle).elim)
     rw [h0] at this; cases this
   obtain ⟨i, h1, h2⟩ := hex
   exact hmin i i (Nat.le_refl _) h1 h2
  ·obtain ⟨h1, h2, h3⟩ := hready2 listed i hs hi
   obtain ⟨o, ho⟩ : ∃ o, ops[i]? = some o := ⟨_, Array.getElem?_eq_getElem h1⟩
   refine wpOp_step ho (fun K hK => ?_)
   have hget : ∀ j, j ≠ i -> (listed.setIfInBounds i true).getD j true = listed.getD j true := fun j hj => by
    rw [Array.getD_eq_getD_getElem?, Array.getD_eq_getD_getElem?, Array.getElem?_setIfInBounds_ne (fun e => hj e.symm)]
   have hgeti : (listed.setIfInBounds i true).getD i true = true := by
    rw [Array.getD_eq_getD_getElem?, Array.getElem?_setIfInBounds]; simp [hs, h1]
   have hld : ldst rows i = o.dst := by unfold ldst; rw [hrow i o ho]; rfl
   have hslot : ∀ v, slotV ops (a.put o.dst v) i = (match o.dst with | some _ => v | none => undef) := by
    intro v
    unfold slotV
    rw [ho]
    simp only [Option.bind_some]
    cases hd : o.dst with
    | none => rfl
    | some d =>
     simp only
     exact iev_eq (by rw [hf.size]; exact hds d (S.dst i (by omega) d (by rw [hld, hd])))
   have hsloj : ∀ v j, j < ops.size -> j ≠ i -> slotV ops (a.put o.dst v) j = slotV ops a j := by
    intro v j hj hji
    obtain ⟨oj, hoj⟩ : ∃ o, ops[j]? = some o := ⟨_, Array.getElem?_eq_getElem hj⟩
    unfold slotV
    rw [hoj]
    simp only [Option.bind_some]
    cases hd : o.dst with
    | none => cases oj.dst <;> rfl
    | some d =>
     cases hdj : oj.dst with
     | none => rfl
     | some dj =>
      simp only
      refine iev_ne (fun e => ?_)
      have := S.other i (by omega) d (by rw [hld, hd]) j (by omega) hji
      apply this
      unfold ldst
      rw [hrow j oj hoj]
      show oj.dst = some d
      rw [hdj, e]
   have hunl : i ≠ e0 -> listed.getD e0 true = false -> e0 ∉ anc i := fun hie hb hm => by
    have : listed.getD e0 true = true := by
     rcases S.ancs i (by omega) e0 hm with h | ⟨q, hq, hqm⟩
     ·exact h3 e0 h
     ·have hql := S.less i (by omega) q hq
      exact hanc listed hcl q q (Nat.le_refl _) (by omega) (h3 q hq) e0 hqm
    rw [hb] at this; cases this
   have hst : IStep2 P ops Q a0 ds (fun a => listed.getD e0 true = false -> Kept a0 keepd a) (C (listed.getD e0 true)) (C ((listed.setIfInBounds i true).getD e0 true)) R wd need kill later i := by
    by_cases hie : i = e0
    ·subst hie
     rw [hgeti, h2]
     exact fun o a w g1 g2 g3 g4 g5 => hstepe o a w g1 g2 (g3 rfl) g4 g5
    ·rw [hget e0 (fun e => hie e.symm)]
     cases hb : listed.getD e0 true with
     | true =>
      refine istep2_of (hstep1 i (by omega) hie (fun hm => ?_))
      have := hanc listed hcl e0 e0 (Nat.le_refl _) (by omega) hb i hm
      rw [h2] at this; cases this
     | false => exact fun o a w g1 g2 g3 g4 g5 => hstep0 i (by omega) hie (hunl hie hb) o a w g1 g2 (g3 rfl) g4 g5
   refine hst o a w ho hf hkp hC (fun k hk => ?_) K (fun v w' c1 c2 c3 => hK _ _ ?_)
   ·have hkl := h3 k (S.needs i (by omega) k hk)
    refine hR k (by have := S.less i (by omega) k (S.needs i (by omega) k hk); omega) hkl (fun j hj hlj hkj => ?_)
    rcases S.kills j (by omega) k hkj i (by omega) hk with e | e
    ·subst e; rw [h2] at hlj; cases hlj
    ·have := hanc listed hcl j j (Nat.le_refl _) hj hlj i e
     rw [h2] at this; cases this
   ·refine ih (listed.setIfInBounds i true) _ w' (by simpa using hs) ?_ ?_ (hf.put S.nodup (fun e he => S.dst i (by omega) e (by rw [hld, he])) v) (fun hb d hd => ?_) c1 ?_
    ·intro j hj hlj e he
     by_cases hji : j = i
     ·subst hji
      have hne : e ≠ j := fun e2 => by have := S.less j (by omega) e he; omega
      rw [hget e hne]; exact h3 e he
     ·rw [hget j hji] at hlj
      by_cases hei : e = i
      ·subst hei; exact hgeti
      ·rw [hget e hei]; exact hcl j hj hlj e he
    ·have hmem : i ∈ List.range ops.size := List.mem_range.2 h1
     have key : ∀ (l : List Nat), l.Nodup -> i ∈ l -> l.countP (fun j => !listed.getD j true) = l.countP (fun j => !(listed.setIfInBounds i true).getD j true) + 1 := by
      intro l hn hil
      induction l with
      | nil => cases hil
      | cons x l ihl =>
       rw [List.nodup_cons] at hn
       rw [List.countP_cons, List.countP_cons]
       rcases List.mem_cons.1 hil with rfl | hil
       ·have hsame : l.countP (fun j => !listed.getD j true) = l.countP (fun j => !(listed.setIfInBounds i true).getD j true) := by
         apply List.countP_congr
         intro j hj
         have : j ≠ i := fun e => hn.1 (e ▸ hj)
         rw [hget j this]
        rw [hsame, h2, hgeti]
        simp
       ·have hxi : x ≠ i := fun e => hn.1 (e ▸ hil)
        rw [ihl hn.2 hil, hget x hxi]
        omega
     have := key _ List.nodup_range hmem
     omega
    ·by_cases hie : i = e0
     ·subst hie; rw [hgeti] at hb; cases hb
     ·rw [hget e0 (fun e => hie e.symm)] at hb
      rw [<- hkp hb d hd]
      cases hdo : o.dst with
      | none => rfl
      | some d' => exact iev_ne (fun e => hkd i (by omega) hie (hunl hie hb) d' (by rw [hld, hdo]) (by rw [e]; exact hd))
    ·intro j hj hlj hk
     by_cases hji : j = i
     ·subst hji; rw [hslot]; exact c2
     ·rw [hget j hji] at hlj
      rw [hsloj v j hj hji]
      have hRj := hR j hj hlj (fun i' hi' hli' => hk i' hi' (by
       by_cases e : i' = i
       ·subst e; exact hgeti
       ·rw [hget i' e]; exact hli'))
      by_cases hwd : j ∈ wd
      case neg => exact hpure j hwd _ _ _ hRj
      refine c3 j hwd hji (hk i h1 hgeti) (fun hlat => ?_) _ hRj
      have := hanc listed hcl j j (Nat.le_refl _) hj hlj i (S.laters i (by omega) j hlat).1
      rw [h2] at this; cases this
theorem istep_w2 {a0 : Act} {ds : List Nat} {kp : Act -> Prop} {C C' : World -> Prop} {R : Nat -> Value -> World -> Prop} {wd : List Nat} {need kill later : Nat -> List Nat} {i : Nat} (o : Oper) (ho : ops[i]? = some o) (hw : ∀ a w, Fr a0 ds a -> C w -> (∀ k ∈ need i, R k (slotV ops a k) w) -> Region.wanted o (yielded ops a.tmps) = true)
  (h : ∀ a w, Fr a0 ds a -> kp a -> C w -> (∀ k ∈ need i, R k (slotV ops a k) w) -> ∀ K : Act -> World -> Prop, (∀ v w', C' w' -> R i (match o.dst with | some _ => v | none => undef) w' -> (∀ j ∈ wd, j ≠ i -> j ∉ kill i -> j ∉ later i -> ∀ x, R j x w -> R j x w') -> K (a.put o.dst v) w') -> Oper.wp P o a w K Q) : IStep2 P ops Q a0 ds kp C C' R wd need kill later i := by
 intro o' a w ho' hf hk hC hn K hK
 obtain rfl : o' = o := Option.some.inj (ho'.symm.trans ho)
 rw [if_pos (hw a w hf hC hn)]
 exact h a w hf hk hC hn K hK
def ppchk (rows : List LRow) (keepd : List Nat) (n : Nat) (anc : Nat -> List Nat) (e0 : Nat) (pre post : List Nat) : Bool :=
 (decide (e0 < n) && pre.all (fun i => match ldst rows i with | some d => !keepd.contains d | none => true)) && (List.range n).all fun i => i == e0 || (((anc i).contains e0 || pre.contains i) && ((anc e0).contains i || post.contains i))
theorem wp_region_inv2 {id : Nat} {l : List Oper} {a0 : Act} {w : World} (e0 : Nat) (C0 C1 : World -> Prop) (R : Nat -> Value -> World -> Prop) (wd : List Nat) (ds : List Nat) (rows : List LRow) (anc need kill later : Nat -> List Nat)
  (hm : P.follows .mixedOrders = true) (hrows : l.map (lrow l.toArray) = rows) (hck : ichk rows ds anc need kill later = true) (hds : ds.all (fun d => decide (d < a0.tmps.size)) = true) (hC : C0 w.drew) (pre post : List Nat) (keepd : List Nat) (hpp : ppchk rows keepd rows.length anc e0 pre post = true) (hpure : ∀ j, j ∉ wd -> ∀ x w w', R j x w -> R j x w')
  (hs0 : ∀ i, i < rows.length -> i ∈ pre -> IStep2 P l.toArray Q a0 ds (Kept a0 keepd) C0 C0 R wd need kill later i) (hs1 : ∀ i, i < rows.length -> i ∈ post -> IStep P l.toArray Q a0 ds C1 R wd need kill later i)
  (hstepe : IStep2 P l.toArray Q a0 ds (Kept a0 keepd) C0 C1 R wd need kill later e0)
  (hend : ∀ a w, Fr a0 ds a -> C1 w -> (∀ j, j < rows.length -> (∀ i, i < rows.length -> j ∉ kill i) -> R j (slotV l.toArray a j) w) -> Q .normal a w) : (Code.region id l.toArray true).wp P Q a0 w := by
 refine wp_region_any hm ?_
 have hlen : rows.length = l.length := by rw [<- hrows]; simp
 unfold ppchk at hpp
 simp only [Bool.and_eq_true, decide_eq_true_eq, List.all_eq_true, List.mem_range, Bool.or_eq_true, beq_iff_eq, List.contains_iff_mem] at hpp
 obtain ⟨⟨hp0, hpk⟩, hpp⟩ := hpp
 refine any_inv2 a0 keepd e0 (fun b => cond b C1 C0) R wd ds rows anc need kill later (by simpa using hrows) hck (fun d hd => by simpa using List.all_eq_true.1 hds d hd) hpure hp0 (fun i hi hie hm d hd => ?_) (fun i hi hie hm => hs1 i hi (((hpp i hi).resolve_left hie).2.resolve_left hm)) (fun i hi hie hm => hs0 i hi (((hpp i hi).resolve_left hie).1.resolve_left hm)) hstepe hend _ _ a0 w.drew (by simp) ?_ ?_ (Fr.start _ _) (fun _ d _ => rfl) (by rw [Array.getD_eq_getD_getElem?, Array.getElem?_replicate, if_pos (by rw [List.size_toArray]; omega)]; exact hC) ?_
 ·have := hpk i (((hpp i hi).resolve_left hie).1.resolve_left hm)
  rw [hd] at this
  simpa using this
 ·intro i hi hl
  rw [Array.getD_eq_getD_getElem?, Array.getElem?_replicate, if_pos hi] at hl
  cases hl
 ·rw [List.countP_eq_length.2]
  ·simp
  ·intro i hi
   have hi := List.mem_range.1 hi
   rw [Array.getD_eq_getD_getElem?, Array.getElem?_replicate, if_pos hi]; rfl
 ·intro j hj hl
  rw [Array.getD_eq_getD_getElem?, Array.getElem?_replicate, if_pos hj] at hl
  cases hl
end
end
section
open Go.Shelf
end
section
open Go.RowKit Go.Maps
theorem blk_sets {b : Nat} {e : TypeId} : ∀ (vs : List Value) (o : Nat) (w : World) (cur : Array Value), w.heap[b]? = some (.cells cur e (0, 0)) -> o + vs.length <= cur.size ->
  ∃ cur' : Array Value, (w.setCells b o vs).heap[b]? = some (.cells cur' e (0, 0)) /\ cur'.size = cur.size /\ ∀ t, cur'[t]? = if o <= t /\ t < o + vs.length then vs[t - o]? else cur[t]?
 | [], o, w, cur, h, _ => ⟨cur, h, rfl, fun t => by rw [if_neg (by simp only [List.length_nil]; omega)]⟩
 | v :: r, o, w, cur, h, hl => by
  simp only [List.length_cons] at hl
  obtain ⟨cur', h1, h2, h3⟩ := blk_sets r (o + 1) (w.setCell ⟨b, o, none⟩ v) _ (blk_set h o v) (by rw [Array.size_setIfInBounds]; omega)
  refine ⟨cur', h1, by rw [h2, Array.size_setIfInBounds], fun t => ?_⟩
  rw [h3, List.length_cons]
  by_cases h4 : o + 1 <= t /\ t < o + 1 + r.length
  ·rw [if_pos h4, if_pos (by omega), show t - o = (t - (o + 1)) + 1 by omega, List.getElem?_cons_succ]
  ·rw [if_neg h4, Array.getElem?_setIfInBounds]
   by_cases h5 : o = t
   ·subst h5
    rw [if_pos rfl, if_pos (by omega), if_pos (by omega)]
    simp
   ·rw [if_neg h5, if_neg (by omega)]
theorem Tch.setCells {F : Nat -> Prop} {b : Nat} (hF : F b) : ∀ (vs : List Value) (o : Nat) (w : World), Tch F w (w.setCells b o vs)
 | [], _, w => Tch.refl F w
 | v :: r, o, w => (Tch.setCell (F := F) w ⟨b, o, none⟩ v (fun _ => hF)).trans (Tch.setCells hF r (o + 1) _) (fun _ _ h => h)
theorem own_mk {w : World} {e : TypeId} {size g n cap : Nat} {cur : Array Value} {xs : List Value} (hx : xs.length = n * size) (hg : w.heap[g]? = some (.cells cur e (0, 0))) (h1 : n <= cap) (h2 : cap <= maxLen) (h3 : cur.size = cap * size)
  (h : ∀ t, t < n * size -> cur[t]? = xs[t]?) : w.ownsRow 0 e size (.slice (some ⟨g, 0, none⟩) n cap) n xs := by
 refine ⟨hx, .inr ⟨g, cap, cur, rfl, Nat.zero_le _, hg, h1, h2, h3, ?_⟩⟩
 apply List.ext_getElem?
 intro t
 rw [List.getElem?_take]
 split
 ·rename_i ht
  rw [<- h t ht]
  simp
 ·rename_i ht
  rw [List.getElem?_eq_none (by omega)]
theorem own_get {w : World} {e : TypeId} {size n cap : Nat} {a : Addr} {xs : List Value} (h : w.ownsRow 0 e size (.slice (some a) n cap) n xs) :
  ∃ g cur, a = ⟨g, 0, none⟩ /\ w.heap[g]? = some (.cells cur e (0, 0)) /\ n <= cap /\ cap <= maxLen /\ cur.size = cap * size /\ xs.length = n * size /\ ∀ t, t < n * size -> cur[t]? = xs[t]? := by
 rcases h.2 with ⟨h1, _⟩ | ⟨g, cap', cur, h1, _, h3, h4, h5, h6, h7⟩
 ·cases h1
 ·injection h1 with h1 _ h2
  injection h1 with h1
  subst h1; subst h2
  refine ⟨g, cur, rfl, h3, h4, h5, h6, h.1, fun t ht => ?_⟩
  rw [<- h7, List.getElem?_take, if_pos ht]
  simp
section
variable {α : Type}
def keptM (p : α -> Bool) (l : List α) : List α := l.filter (fun x => !p x)
theorem keptM_app (p : α -> Bool) (a b : List α) : keptM p (a ++ b) = keptM p a ++ keptM p b := List.filter_append ..
theorem keptM_le (p : α -> Bool) (l : List α) : (keptM p l).length <= l.length := List.length_filter_le ..
theorem take_succ_app {l : List α} {j : Nat} (h : j < l.length) : l.take (j + 1) = l.take j ++ [l[j]] := by simp
structure DInv (enc : α -> List Value) (m : Nat) (p : α -> Bool) (l : List α) (C j i : Nat) (cur : Array Value) : Prop where
 sz : cur.size = C * m
 len : i = (keptM p (l.take j)).length
 low : ∀ t, t < i * m -> cur[t]? = ((keptM p (l.take j)).flatMap enc)[t]?
 high : ∀ t, j * m <= t -> t < l.length * m -> cur[t]? = (l.flatMap enc)[t]?
theorem keptM_all {p : α -> Bool} {l : List α} (h : ∀ x ∈ l, p x = false) : keptM p l = l := by
 unfold keptM
 rw [List.filter_eq_self]
 intro x hx
 rw [h x hx]; rfl
variable {enc : α -> List Value} {m : Nat} {p : α -> Bool} {l : List α} {C j i : Nat} {cur : Array Value}
theorem DInv.ij (h : DInv enc m p l C j i cur) (hj : j <= l.length) : i <= j := by
 rw [h.len]
 refine Nat.le_trans (keptM_le _ _) ?_
 rw [List.length_take]; omega
theorem DInv.start (he : ∀ x, (enc x).length = m) {k : Nat} (hk : k < l.length) (h1 : p l[k] = true) (h2 : ∀ i (hi : i < l.length), i < k -> p l[i] = false) (hs : cur.size = C * m) (hc : ∀ t, t < l.length * m -> cur[t]? = (l.flatMap enc)[t]?) :
  DInv enc m p l C (k + 1) k cur := by
 have e1 : keptM p (l.take k) = l.take k := keptM_all (fun x hx => by
  obtain ⟨i, hi, rfl⟩ := List.getElem_of_mem hx
  rw [List.length_take] at hi
  rw [List.getElem_take]
  exact h2 i (by omega) (by omega))
 have e2 : keptM p (l.take (k + 1)) = l.take k := by
  rw [take_succ_app hk, keptM_app, e1]
  simp [keptM, h1]
 have hm : k * m <= l.length * m := Nat.mul_le_mul_right _ (by omega)
 refine ⟨hs, by rw [e2, List.length_take]; omega, fun t ht => ?_, fun t _ ht => hc t ht⟩
 rw [e2, hc t (by omega), <- flat_take he, List.getElem?_take, if_pos ht]
theorem DInv.skip (h : DInv enc m p l C j i cur) (hj : j < l.length) (hp : p l[j] = true) : DInv enc m p l C (j + 1) i cur := by
 have e : keptM p (l.take (j + 1)) = keptM p (l.take j) := by
  rw [take_succ_app hj, keptM_app]
  simp [keptM, hp]
 refine ⟨h.sz, by rw [e]; exact h.len, fun t ht => by rw [e]; exact h.low t ht, fun t h1 h2 => h.high t ?_ h2⟩
 rw [Nat.succ_mul] at h1; omega
theorem DInv.keep (he : ∀ x, (enc x).length = m) (h : DInv enc m p l C j i cur) (hj : j < l.length) (hp : p l[j] = false) {cur' : Array Value} (hs : cur'.size = cur.size)
  (hc : ∀ t, cur'[t]? = if i * m <= t /\ t < i * m + m then (enc l[j])[t - i * m]? else cur[t]?) : DInv enc m p l C (j + 1) (i + 1) cur' := by
 have e : keptM p (l.take (j + 1)) = keptM p (l.take j) ++ [l[j]] := by
  rw [take_succ_app hj, keptM_app]
  simp [keptM, hp]
 have hi := h.ij (by omega)
 have hm : i * m <= j * m := Nat.mul_le_mul_right _ hi
 have hfl := flat_len enc m he (keptM p (l.take j))
 rw [<- h.len] at hfl
 refine ⟨by rw [hs]; exact h.sz, by rw [e, List.length_append, <- h.len]; rfl, fun t ht => ?_, fun t h1 h2 => ?_⟩
 ·rw [Nat.succ_mul] at ht
  rw [e, List.flatMap_append, hc t]
  by_cases h3 : i * m <= t
  ·rw [if_pos ⟨h3, ht⟩, List.getElem?_append_right (by omega), hfl]
   simp
  ·rw [if_neg (by omega), List.getElem?_append_left (by omega)]
   exact h.low t (by omega)
 ·rw [Nat.succ_mul] at h1
  rw [hc t, if_neg (by omega)]
  exact h.high t (by omega) h2
theorem DInv.done (he : ∀ x, (enc x).length = m) (h : DInv enc m p l C l.length i cur) {w : World} {e : TypeId} {g : Nat} (hn : l.length <= C) (hC : C <= maxLen) {cur' : Array Value} (hg : w.heap[g]? = some (.cells cur' e (0, 0))) (hs : cur'.size = cur.size)
  (hc : ∀ t, t < i * m -> cur'[t]? = cur[t]?) : w.ownsRow 0 e m (.slice (some ⟨g, 0, none⟩) i C) (keptM p l).length ((keptM p l).flatMap enc) := by
 have e1 : l.take l.length = l := List.take_length
 have hl := h.len
 rw [e1] at hl
 have hi := h.ij (Nat.le_refl _)
 have := own_mk (e := e) (w := w) (size := m) (g := g) (n := i) (cap := C) (cur := cur') (xs := (keptM p l).flatMap enc) (by rw [flat_len enc m he, hl]) hg (by omega) hC (by rw [hs]; exact h.sz) (fun t ht => by
  rw [hc t ht, h.low t ht, e1])
 rwa [<- hl]
end
theorem run_copy_many (w : World) {t e : TypeId} {size bytes : Nat} (E : ElT t e size bytes) (ty : TypeId) (b o dLen dCap : Nat) (a : Addr) (sLen sCap : Nat) (cs : List Value) (hn : cs.length = Nat.min sLen dLen * size)
  (hsrc : ∀ j v, cs[j]? = some v -> w.cell? (a.add j) = some v) (hc : ∀ j, j < cs.length -> (w.cell? ⟨b, o + j, none⟩).isSome = true) (hf : ∀ j, j < cs.length -> w.frozen? ⟨b, o + j, none⟩ = false) (h1 : Ones cs) :
  (Builtin.copy_ #[t, t] ty #[.slice (some ⟨b, o, none⟩) dLen dCap, .slice (some a) sLen sCap]).run Tryz.prog w = .ok (goInt (Nat.min sLen dLen)) (w.setCells b o cs) := by
 obtain ⟨i0, z, hi0, hz0, hz1, hz2, hzs⟩ := E.info
 have hl := run_loadCells_list (P := Tryz.prog) w a cs hsrc
 have hst := run_storeCells_cells (P := Tryz.prog) b o cs 0 w (by simpa using hc) (by simpa using hf) h1
 simp only [Nat.add_zero] at hst
 rw [hn] at hl
 simp [Builtin.copy_, run_underlying E.und, Builtin.lenOf, Builtin.firstCells, sizeOf, typeInfo, hi0, hz1, hl, hst]
end
end Go.Proofs.YtelaljoebdpicaaGreat
