/- Part 25 of what the proof of OrderRoom rests on. No condition. -/
import Derived.Test.YtfedhcnmdmhppaaGreatPOrderRoom12
namespace Go.Proofs.YtfedhcnmdmhppaaGreat
set_option maxRecDepth 100000
set_option maxHeartbeats 60000000
set_option linter.unusedVariables false
set_option linter.unusedSimpArgs false
section
open Go.RowKit Go.Maps
section
variable {P : Program} {ops : Array Oper} {Q : Exit -> Act -> World -> Prop}
theorem any_inv5 (a0 : Act) (eL : Nat) (es : List Nat) (C : Nat -> World -> Prop) (R : Nat -> Value -> World -> Prop) (wd : List Nat) (ds : List Nat) (rows : List LRow) (anc need kill later : Nat -> List Nat)
  (hrows : ops.toList.map (lrow ops) = rows) (hck : ichk rows ds anc need kill later = true) (hds : ∀ d ∈ ds, d < a0.tmps.size) (hpure : ∀ j, j ∉ wd -> ∀ x w w', R j x w -> R j x w')
  (hL : eL < rows.length) (hLa : ∀ j, j < rows.length -> j ≠ eL -> j ∈ anc eL) (hes : ∀ e ∈ es, e < rows.length) (hesL : ∀ e ∈ es, e ≠ eL) (hch : ∀ p r, es = p ++ r -> ∀ e ∈ p, ∀ f ∈ r, e ∈ anc f)
  (hstep : ∀ i, i < rows.length -> i ≠ eL -> i ∉ es -> ∀ p r, es = p ++ r -> (∀ e ∈ p, i ∉ anc e) -> (∀ e ∈ r.head?, e ∉ anc i) -> IStep P ops Q a0 ds (C p.length) R wd need kill later i)
  (hstepe : ∀ p e r, es = p ++ e :: r -> IStep2 P ops Q a0 ds (fun _ => True) (C p.length) (C (p.length + 1)) R wd need kill later e)
  (hend : ∀ o a w, ops[eL]? = some o -> Fr a0 ds a -> C es.length w -> (∀ j, j < rows.length -> j ≠ eL -> (∀ i, i < rows.length -> i ≠ eL -> j ∉ kill i) -> R j (slotV ops a j) w) -> ∀ K : Act -> World -> Prop, (∀ v w', Q .normal (a.put o.dst v) w' -> K (a.put o.dst v) w') -> if Region.wanted o (yielded ops a.tmps) = true then Oper.wp P o a w K Q else K (a.put o.dst undef) w) :
  ∀ (m : Nat) (listed : Array Bool) (a : Act) (w : World), listed.getD eL true = false -> listed.size = ops.size -> (∀ i, i < ops.size -> listed.getD i true = true -> ∀ e ∈ lon rows i, listed.getD e true = true) ->
   (List.range ops.size).countP (fun i => !listed.getD i true) = m ->
   Fr a0 ds a -> C (stg es listed) w -> (∀ j, j < ops.size -> listed.getD j true = true -> (∀ i, i < ops.size -> listed.getD i true = true -> j ∉ kill i) -> R j (slotV ops a j) w) -> wpAny P .any ops Q m listed a w := by
 have S := ichk_spec hck
 have hlen : rows.length = ops.size := by rw [<- hrows]; simp
 have hrow : ∀ i o, ops[i]? = some o -> rows[i]? = some (lrow ops o) := fun i o ho => by rw [<- hrows, List.getElem?_map, Array.getElem?_toList, ho]; rfl
 have hready : ∀ (listed : Array Bool) i, listed.size = ops.size -> i < ops.size -> listed.getD i true = false -> (∀ e ∈ lon rows i, listed.getD e true = true) -> i ∈ Region.ready .any ops listed := by
  intro listed i hs hi h1 h2
  obtain ⟨o, ho⟩ : ∃ o, ops[i]? = some o := ⟨_, Array.getElem?_eq_getElem hi⟩
  unfold Region.ready
  rw [List.mem_filter]
  refine ⟨List.mem_range.2 hi, ?_⟩
  rw [h1, ho]
  simp only [Option.map_some, Option.getD_some, Bool.not_false, Bool.true_and, Array.all_eq_true_iff_forall_mem]
  intro e he
  cases hb : Region.binds .any e with
  | false => rfl
  | true =>
   have hm : e.on ∈ lon rows i := by unfold lon; rw [hrow i o ho]; exact lon_mem.2 ⟨e, he, hb, rfl⟩
   have h3 := h2 _ hm
   have h4 := S.less i (by omega) _ hm
   rw [Array.getD_eq_getD_getElem?, Array.getElem?_eq_getElem (by omega)] at h3 ⊢
   simpa using h3
 have hready2 : ∀ (listed : Array Bool) i, listed.size = ops.size -> i ∈ Region.ready .any ops listed -> i < ops.size /\ listed.getD i true = false /\ ∀ e ∈ lon rows i, listed.getD e true = true := by
  intro listed i hs hi
  unfold Region.ready at hi
  rw [List.mem_filter] at hi
  obtain ⟨h1, h2⟩ := hi
  have h1 := List.mem_range.1 h1
  obtain ⟨o, ho⟩ : ∃ o, ops[i]? = some o := ⟨_, Array.getElem?_eq_getElem h1⟩
  rw [ho] at h2
  simp only [Option.map_some, Option.getD_some, Bool.and_eq_true, Bool.not_eq_true', Array.all_eq_true_iff_forall_mem] at h2
  refine ⟨h1, h2.1, fun e he => ?_⟩
  have h5 := S.less i (by omega) e he
  unfold lon at he
  rw [hrow i o ho] at he
  obtain ⟨ed, hed, hb, rfl⟩ := lon_mem.1 he
  have h3 := h2.2 ed hed
  rw [hb] at h3
  rw [Array.getD_eq_getD_getElem?, Array.getElem?_eq_getElem (by omega)] at h3 ⊢
  simpa using h3
 have hanc : ∀ (listed : Array Bool), (∀ i, i < ops.size -> listed.getD i true = true -> ∀ e ∈ lon rows i, listed.getD e true = true) -> ∀ n i, i <= n -> i < ops.size -> listed.getD i true = true -> ∀ k ∈ anc i, listed.getD k true = true := by
  intro listed hcl n
  induction n with
  | zero =>
   intro i hi hio hl k hk
   rcases S.ancs i (by omega) k hk with h | ⟨m, hm, _⟩
   ·exact hcl i hio hl k h
   ·have := S.less i (by omega) m hm; omega
  | succ n ihn =>
   intro i hi hio hl k hk
   rcases S.ancs i (by omega) k hk with h | ⟨m, hm, hkm⟩
   ·exact hcl i hio hl k h
   ·have := S.less i (by omega) m hm
    exact ihn m (by omega) (by omega) (hcl i hio hl m hm) k hkm
 have hdone : ∀ (l2 : Array Bool), l2.size = ops.size -> (∀ i, i < ops.size -> l2.getD i true = true) -> Region.ready .any ops l2 = [] := by
  intro l2 hs2 hall
  cases hr : Region.ready .any ops l2 with
  | nil => rfl
  | cons x xs =>
   obtain ⟨g1, g2, _⟩ := hready2 l2 x hs2 (by rw [hr]; exact List.mem_cons_self)
   rw [hall x g1] at g2; cases g2
 intro m
 induction m with
 | zero =>
  intro listed a w hLf hs hcl hm hf hC hR
  rw [List.countP_eq_zero] at hm
  have := hm eL (List.mem_range.2 (by omega))
  rw [hLf] at this
  exact (this rfl).elim
 | succ m ih =>
  intro listed a w hLf hs hcl hm hf hC hR
  refine ⟨fun h0 => ?_, fun i hi => ?_⟩
  ·exfalso
   have hex : ∃ i, i < ops.size /\ listed.getD i true = false := by
    have hp : 0 < (List.range ops.size).countP (fun i => !listed.getD i true) := by omega
    obtain ⟨i, h1, h2⟩ := List.countP_pos_iff.1 hp
    exact ⟨i, List.mem_range.1 h1, by simpa using h2⟩
   have hmin : ∀ n i, i <= n -> i < ops.size -> listed.getD i true = false -> False := by
    intro n
    induction n with
    | zero =>
     intro i hi hio hl
     have := hready listed i hs hio hl (fun e he => by have := S.less i (by omega) e he; omega)
     rw [h0] at this; cases this
    | succ n ihn =>
     intro i hi hio hl
     have := hready listed i hs hio hl (fun e he => by
      have hlt := S.less i (by omega) e he
      cases hle : listed.getD e true with
      | true => rfl
      | false => exact (ihn e (by omega) (by omega) hle).elim)
     rw [h0] at this; cases this
   obtain ⟨i, h1, h2⟩ := hex
   exact hmin i i (Nat.le_refl _) h1 h2
  ·obtain ⟨h1, h2, h3⟩ := hready2 listed i hs hi
   obtain ⟨o, ho⟩ : ∃ o, ops[i]? = some o := ⟨_, Array.getElem?_eq_getElem h1⟩
   refine wpOp_step ho (fun K hK => ?_)
   have hget : ∀ j, j ≠ i -> (listed.setIfInBounds i true).getD j true = listed.getD j true := fun j hj => by
    rw [Array.getD_eq_getD_getElem?, Array.getD_eq_getD_getElem?, Array.getElem?_setIfInBounds_ne (fun e => hj e.symm)]
   have hgeti : (listed.setIfInBounds i true).getD i true = true := by
    rw [Array.getD_eq_getD_getElem?, Array.getElem?_setIfInBounds]; simp [hs, h1]
   have hld : ldst rows i = o.dst := by unfold ldst; rw [hrow i o ho]; rfl
   have hslot : ∀ v, slotV ops (a.put o.dst v) i = (match o.dst with | some _ => v | none => undef) := by
    intro v
    unfold slotV
    rw [ho]
    simp only [Option.bind_some]
    cases hd : o.dst with
    | none => rfl
    | some d =>
     simp only
     exact iev_eq (by rw [hf.size]; exact hds d (S.dst i (by omega) d (by rw [hld, hd])))
   have hsloj : ∀ v j, j < ops.size -> j ≠ i -> slotV ops (a.put o.dst v) j = slotV ops a j := by
    intro v j hj hji
    obtain ⟨oj, hoj⟩ : ∃ o, ops[j]? = some o := ⟨_, Array.getElem?_eq_getElem hj⟩
    unfold slotV
    rw [hoj]
    simp only [Option.bind_some]
    cases hd : o.dst with
    | none => cases oj.dst <;> rfl
    | some d =>
     cases hdj : oj.dst with
     | none => rfl
     | some dj =>
      simp only
      refine iev_ne (fun e => ?_)
      have := S.other i (by omega) d (by rw [hld, hd]) j (by omega) hji
      apply this
      unfold ldst
      rw [hrow j oj hoj]
      show oj.dst = some d
      rw [hdj, e]
   have hlow : ∀ e, e < ops.size -> listed.getD e true = true -> i ∉ anc e := fun e he hl hm => by
    have := hanc listed hcl e e (Nat.le_refl _) he hl i hm
    rw [h2] at this; cases this
   have hup : ∀ e ∈ anc i, listed.getD e true = true := fun e hm => by
    rcases S.ancs i (by omega) e hm with h | ⟨q, hq, hqm⟩
    ·exact h3 e h
    ·have hql := S.less i (by omega) q hq
     exact hanc listed hcl q q (Nat.le_refl _) (by omega) (h3 q hq) e hqm
   by_cases hiL : i = eL
   ·subst hiL
    have hal : ∀ j, j < ops.size -> j ≠ i -> listed.getD j true = true := fun j hj hji => hup j (hLa j (by omega) hji)
    have hst : stg es listed = es.length := stg_all (fun e he => hal e (by have := hes e he; omega) (hesL e he))
    rw [hst] at hC
    refine hend o a w ho hf hC (fun j hj hji hk => hR j (by omega) (hal j (by omega) hji) (fun q hq hlq => hk q (by omega) (fun e => by subst e; rw [h2] at hlq; cases hlq))) K (fun v w' hq => hK _ _ ?_)
    refine wpAny_done (hdone _ (by simpa using hs) (fun j hj => ?_)) hq _
    by_cases hji : j = i
    ·subst hji; exact hgeti
    ·rw [hget j hji]; exact hal j hj hji
   obtain ⟨p, r, hpr, hp1, hp2, hp3⟩ := stg_split es listed
   have hst : IStep2 P ops Q a0 ds (fun _ => True) (C (stg es listed)) (C (stg es (listed.setIfInBounds i true))) R wd need kill later i := by
    by_cases hie : i ∈ es
    ·have hir : i ∈ r := by
      rw [hpr] at hie
      rcases List.mem_append.1 hie with h | h
      ·have := hp2 i h; rw [h2] at this; cases this
      ·exact h
     cases r with
     | nil => cases hir
     | cons f r' =>
      have hf1 := hp3 f rfl
      have hif : i = f := by
       rcases List.mem_cons.1 hir with h | h
       ·exact h
       ·have hm := hch (p ++ [f]) r' (by rw [hpr]; simp) f (by simp) i h
        have := hup f hm
        rw [hf1] at this; cases this
      subst hif
      have hnew : stg es (listed.setIfInBounds i true) = p.length + 1 := by
       rw [hpr]
       refine stg_next (fun e he => ?_) hgeti (fun f' hf' => ?_)
       ·by_cases e' : e = i
        ·subst e'; exact hgeti
        ·rw [hget e e']; exact hp2 e he
       ·cases r' with
        | nil => cases hf'
        | cons g r'' =>
         have hgf : g = f' := by simpa using hf'
         subst hgf
         have hm := hch (p ++ [i]) (g :: r'') (by rw [hpr]; simp) i (by simp) g (by simp)
         have hne : g ≠ i := fun e => by
          have h1' := S.less
          subst e
          exact anc_irr S (by omega) hm
         rw [hget g hne]
         cases hl : listed.getD g true with
         | false => rfl
         | true =>
          have := hanc listed hcl g g (Nat.le_refl _) (by have := hes g (by rw [hpr]; simp); omega) hl i hm
          rw [h2] at this; cases this
      rw [hp1, hnew]
      exact hstepe p i r' hpr
    ·have hsame : stg es (listed.setIfInBounds i true) = stg es listed := stg_congr (fun e he => hget e (fun h => hie (h ▸ he)))
     rw [hsame, hp1]
     exact istep2_of (hstep i (by omega) hiL hie p r hpr (fun e he => hlow e (by have := hes e (by rw [hpr]; exact List.mem_append_left _ he); omega) (hp2 e he)) (fun e he hm => by
      have g1 := hp3 e he
      have g2 := hup e hm
      rw [g1] at g2; cases g2))
   refine hst o a w ho hf trivial hC (fun k hk => ?_) K (fun v w' c1 c2 c3 => hK _ _ ?_)
   ·have hkl := h3 k (S.needs i (by omega) k hk)
    refine hR k (by have := S.less i (by omega) k (S.needs i (by omega) k hk); omega) hkl (fun j hj hlj hkj => ?_)
    rcases S.kills j (by omega) k hkj i (by omega) hk with e | e
    ·subst e; rw [h2] at hlj; cases hlj
    ·have := hanc listed hcl j j (Nat.le_refl _) hj hlj i e
     rw [h2] at this; cases this
   ·refine ih (listed.setIfInBounds i true) _ w' (by rw [hget eL (fun e => hiL e.symm)]; exact hLf) (by simpa using hs) ?_ ?_ (hf.put S.nodup (fun e he => S.dst i (by omega) e (by rw [hld, he])) v) c1 ?_
    ·intro j hj hlj e he
     by_cases hji : j = i
     ·subst hji
      have hne : e ≠ j := fun e2 => by have := S.less j (by omega) e he; omega
      rw [hget e hne]; exact h3 e he
     ·rw [hget j hji] at hlj
      by_cases hei : e = i
      ·subst hei; exact hgeti
      ·rw [hget e hei]; exact hcl j hj hlj e he
    ·have hmem : i ∈ List.range ops.size := List.mem_range.2 h1
     have key : ∀ (l : List Nat), l.Nodup -> i ∈ l -> l.countP (fun j => !listed.getD j true) = l.countP (fun j => !(listed.setIfInBounds i true).getD j true) + 1 := by
      intro l hn hil
      induction l with
      | nil => cases hil
      | cons x l ihl =>
       rw [List.nodup_cons] at hn
       rw [List.countP_cons, List.countP_cons]
       rcases List.mem_cons.1 hil with rfl | hil
       ·have hsame : l.countP (fun j => !listed.getD j true) = l.countP (fun j => !(listed.setIfInBounds i true).getD j true) := by
         apply List.countP_congr
         intro j hj
         have : j ≠ i := fun e => hn.1 (e ▸ hj)
         rw [hget j this]
        rw [hsame, h2, hgeti]
        simp
       ·have hxi : x ≠ i := fun e => hn.1 (e ▸ hil)
        rw [ihl hn.2 hil, hget x hxi]
        omega
     have := key _ List.nodup_range hmem
     omega
    ·intro j hj hlj hk
     by_cases hji : j = i
     ·subst hji; rw [hslot]; exact c2
     ·rw [hget j hji] at hlj
      rw [hsloj v j hj hji]
      have hRj := hR j hj hlj (fun i' hi' hli' => hk i' hi' (by
       by_cases e : i' = i
       ·subst e; exact hgeti
       ·rw [hget i' e]; exact hli'))
      by_cases hwd : j ∈ wd
      case neg => exact hpure j hwd _ _ _ hRj
      refine c3 j hwd hji (hk i h1 hgeti) (fun hlat => ?_) _ hRj
      have := hanc listed hcl j j (Nat.le_refl _) hj hlj i (S.laters i (by omega) j hlat).1
      rw [h2] at this; cases this
theorem last_by {a0 : Act} {ds : List Nat} {eL : Nat} {Cn : World -> Prop} {RR : Act -> World -> Prop} (o : Oper) (ho : ops[eL]? = some o) (hg : o.guard = none)
  (h : ∀ a w, Fr a0 ds a -> Cn w -> RR a w -> ∀ K : Act -> World -> Prop, (∀ v w', Q .normal (a.put o.dst v) w' -> K (a.put o.dst v) w') -> Oper.wp P o a w K Q) :
  ∀ o' a w, ops[eL]? = some o' -> Fr a0 ds a -> Cn w -> RR a w -> ∀ K : Act -> World -> Prop, (∀ v w', Q .normal (a.put o'.dst v) w' -> K (a.put o'.dst v) w') -> if Region.wanted o' (yielded ops a.tmps) = true then Oper.wp P o' a w K Q else K (a.put o'.dst undef) w := by
 intro o' a w ho' hf hC hR K hK
 obtain rfl : o' = o := Option.some.inj (ho'.symm.trans ho)
 rw [if_pos (iwanted_no hg)]
 exact h a w hf hC hR K hK
def lastchk (n : Nat) (anc : Nat -> List Nat) (es : List Nat) (eL : Nat) : Bool :=
 decide (eL < n) && ((List.range n).all fun j => j == eL || (anc eL).contains j) && es.all (fun e => e != eL)
theorem lastchk_spec {n : Nat} {anc : Nat -> List Nat} {es : List Nat} {eL : Nat} (h : lastchk n anc es eL = true) : eL < n /\ (∀ j, j < n -> j ≠ eL -> j ∈ anc eL) /\ ∀ e ∈ es, e ≠ eL := by
 simp only [lastchk, Bool.and_eq_true, decide_eq_true_eq, List.all_eq_true, List.mem_range, Bool.or_eq_true, beq_iff_eq, List.contains_iff_mem, bne_iff_ne] at h
 exact ⟨h.1.1, fun j hj hn => (h.1.2 j hj).resolve_left hn, fun e he => h.2 e he⟩
theorem wp_region_inv5 {id : Nat} {l : List Oper} {a0 : Act} {w : World} (eL : Nat) (es : List Nat) (C : Nat -> World -> Prop) (R : Nat -> Value -> World -> Prop) (wd : List Nat) (ds : List Nat) (rows : List LRow) (anc need kill later : Nat -> List Nat)
  (hm : P.follows .mixedOrders = true) (hrows : l.map (lrow l.toArray) = rows) (hck : ichk rows ds anc need kill later = true) (hds : ds.all (fun d => decide (d < a0.tmps.size)) = true) (hC : C 0 w.drew) (hesk : eschk rows.length anc es = true) (hL : lastchk rows.length anc es eL = true) (hpure : ∀ j, j ∉ wd -> ∀ x w w', R j x w -> R j x w')
  (hstep : ∀ i, i < rows.length -> i ≠ eL -> i ∉ es -> ∀ p r, es = p ++ r -> (∀ e ∈ p, i ∉ anc e) -> (∀ e ∈ r.head?, e ∉ anc i) -> IStep P l.toArray Q a0 ds (C p.length) R wd need kill later i)
  (hstepe : ∀ p e r, es = p ++ e :: r -> IStep2 P l.toArray Q a0 ds (fun _ => True) (C p.length) (C (p.length + 1)) R wd need kill later e)
  (hend : ∀ o a w, l.toArray[eL]? = some o -> Fr a0 ds a -> C es.length w -> (∀ j, j < rows.length -> j ≠ eL -> (∀ i, i < rows.length -> i ≠ eL -> j ∉ kill i) -> R j (slotV l.toArray a j) w) -> ∀ K : Act -> World -> Prop, (∀ v w', Q .normal (a.put o.dst v) w' -> K (a.put o.dst v) w') -> if Region.wanted o (yielded l.toArray a.tmps) = true then Oper.wp P o a w K Q else K (a.put o.dst undef) w) : (Code.region id l.toArray true).wp P Q a0 w := by
 refine wp_region_any hm ?_
 have hlen : rows.length = l.length := by rw [<- hrows]; simp
 obtain ⟨he1, he2⟩ := eschk_spec hesk
 refine any_inv5 a0 eL es C R wd ds rows anc need kill later (by simpa using hrows) hck (fun d hd => by simpa using List.all_eq_true.1 hds d hd) hpure (lastchk_spec hL).1 (lastchk_spec hL).2.1 he1 (lastchk_spec hL).2.2 he2 hstep hstepe hend _ _ a0 w.drew ?_ (by simp) ?_ ?_ (Fr.start _ _) ?_ ?_
 ·have := (lastchk_spec hL).1
  rw [Array.getD_eq_getD_getElem?, Array.getElem?_replicate, if_pos (by rw [List.size_toArray]; omega)]; rfl
 ·intro i hi hl
  rw [Array.getD_eq_getD_getElem?, Array.getElem?_replicate, if_pos hi] at hl
  cases hl
 ·rw [List.countP_eq_length.2]
  ·simp
  ·intro i hi
   have hi := List.mem_range.1 hi
   rw [Array.getD_eq_getD_getElem?, Array.getElem?_replicate, if_pos hi]; rfl
 ·have h0 : stg es (Array.replicate l.toArray.size false) = 0 := by
   cases es with
   | nil => rfl
   | cons e r =>
    have := he1 e List.mem_cons_self
    rw [stg, if_neg]
    rw [Array.getD_eq_getD_getElem?, Array.getElem?_replicate, if_pos (by rw [List.size_toArray]; omega)]
    exact Bool.false_ne_true
  rw [h0]; exact hC
 ·intro j hj hl
  rw [Array.getD_eq_getD_getElem?, Array.getElem?_replicate, if_pos hj] at hl
  cases hl
theorem wp_region_inv6 {id : Nat} {l : List Oper} {a0 : Act} {w : World} (eL : Nat) (es : List Nat) (stgs : Nat -> List Nat) (C : Nat -> World -> Prop) (R : Nat -> Value -> World -> Prop) (wd : List Nat) (ds : List Nat) (rows : List LRow) (anc need kill later : Nat -> List Nat)
  (hm : P.follows .mixedOrders = true) (hrows : l.map (lrow l.toArray) = rows) (hck : ichk rows ds anc need kill later = true) (hds : ds.all (fun d => decide (d < a0.tmps.size)) = true) (hesk : eschk rows.length anc es = true) (hL : lastchk rows.length anc es eL = true) (hst : stchk rows.length anc es stgs = true) (hC : C 0 w.drew) (hpure : ∀ j, j ∉ wd -> ∀ x w w', R j x w -> R j x w')
  (hstep : ∀ i, i < rows.length -> i ≠ eL -> ∀ k, k ∈ stgs i -> IStep P l.toArray Q a0 ds (C k) R wd need kill later i)
  (hstepe : ∀ k, k < es.length -> IStep2 P l.toArray Q a0 ds (fun _ => True) (C k) (C (k + 1)) R wd need kill later (es.getD k 0))
  (hend : ∀ o a w, l.toArray[eL]? = some o -> Fr a0 ds a -> C es.length w -> (∀ j, j < rows.length -> j ≠ eL -> (∀ i, i < rows.length -> i ≠ eL -> j ∉ kill i) -> R j (slotV l.toArray a j) w) -> ∀ K : Act -> World -> Prop, (∀ v w', Q .normal (a.put o.dst v) w' -> K (a.put o.dst v) w') -> if Region.wanted o (yielded l.toArray a.tmps) = true then Oper.wp P o a w K Q else K (a.put o.dst undef) w) : (Code.region id l.toArray true).wp P Q a0 w :=
 wp_region_inv5 eL es C R wd ds rows anc need kill later hm hrows hck hds hC hesk hL hpure (fun i hi hiL hie p r hpr h1 h2 => hstep i hi hiL p.length (stchk_spec hst i hi hie p r hpr h1 h2))
  (fun p e r hpr => by
   have h := hstepe p.length (by rw [hpr, List.length_append, List.length_cons]; omega)
   have he : es.getD p.length 0 = e := by
    rw [List.getD_eq_getElem?_getD, hpr, List.getElem?_append_right (Nat.le_refl _)]; simp
   rwa [he] at h) hend
end
end
end Go.Proofs.YtfedhcnmdmhppaaGreat
