/- Part 28 of what the proof of StoreTold rests on. No condition. -/
import Derived.Test.YtfedhcnmdmhppaaGreatPStoreTold11
import Derived.Test.YtfedhcnmdmhppaaGreatPStoreTold27
namespace Go.Proofs.YtfedhcnmdmhppaaGreat
set_option maxRecDepth 100000
set_option maxHeartbeats 60000000
set_option linter.unusedVariables false
set_option linter.unusedSimpArgs false
section
open Go.RowKit Go.Maps
structure StAt (vm vw ve vo vn : Value) (s : StM) (prb : List (BrM × Value)) (pro prn : List (PendM × Value)) (W : World) : Prop where
 ms : IsMsgs W vm s.ms
 cb : IsL (encPr (fun q : BrM => q.tid)) 2 W vw prb
 ib : ∀ p ∈ prb, IsPuts W p.2 p.1.puts
 en : IsEnds W ve s.ends
 co : IsL (encPr (fun q : PendM => q.tid)) 2 W vo pro
 io : ∀ p ∈ pro, IsInts W p.2 p.1.parts
 cn : IsL (encPr (fun q : PendM => q.tid)) 2 W vn prn
 inn : ∀ p ∈ prn, IsInts W p.2 p.1.parts
def StW (Al : World -> Prop) (v : Value) (s : StM) : Prop :=
 ∃ vm vw ve vo vn prb pro prn, v = .agg #[.int .i64 s.broker, .int .i64 s.nid, .int .i64 s.nseq, .int .i64 s.tx, vm, vw, ve, vo, vn] /\ prb.map Prod.fst = s.waits /\ pro.map Prod.fst = s.opens /\ prn.map Prod.fst = s.noes /\ ∀ W, Al W -> StAt vm vw ve vo vn s prb pro prn W
theorem StAt.keep {vm vw ve vo vn : Value} {s : StM} {prb : List (BrM × Value)} {pro prn : List (PendM × Value)} {W W' : World} (h : StAt vm vw ve vo vn s prb pro prn W) (t : Tch No W W') : StAt vm vw ve vo vn s prb pro prn W' :=
 ⟨h.ms.keep t, CellsAt.keep h.cb t, fun p hp => (h.ib p hp).keep t, h.en.keep t, CellsAt.keep h.co t, fun p hp => (h.io p hp).keep t, CellsAt.keep h.cn t, fun p hp => (h.inn p hp).keep t⟩
theorem StW.is {Al : World -> Prop} {v : Value} {s : StM} (h : StW Al v s) {W : World} (hW : Al W) : IsSt W v s := by
 obtain ⟨vm, vw, ve, vo, vn, prb, pro, prn, e, h1, h2, h3, h4⟩ := h
 have g := h4 W hW
 exact ⟨vm, vw, ve, vo, vn, e, g.ms, brs_pairs.2 ⟨prb, h1, g.cb, g.ib⟩, g.en, pends_pairs.2 ⟨pro, h2, g.co, g.io⟩, pends_pairs.2 ⟨prn, h3, g.cn, g.inn⟩⟩
theorem StW.mono {Al Al' : World -> Prop} {v : Value} {s : StM} (h : StW Al v s) (hA : ∀ W, Al' W -> Al W) : StW Al' v s := by
 obtain ⟨vm, vw, ve, vo, vn, prb, pro, prn, e, h1, h2, h3, h4⟩ := h
 exact ⟨vm, vw, ve, vo, vn, prb, pro, prn, e, h1, h2, h3, fun W hW => h4 W (hA W hW)⟩
theorem StW.of {v : Value} {s : StM} {w : World} (h : IsSt w v s) : StW (Tch No w) v s := by
 obtain ⟨vm, vw, ve, vo, vn, e, hm, hw, he, ho, hn⟩ := h
 obtain ⟨prb, h1, hcb, hib⟩ := brs_pairs.1 hw
 obtain ⟨pro, h2, hco, hio⟩ := pends_pairs.1 ho
 obtain ⟨prn, h3, hcn, hin⟩ := pends_pairs.1 hn
 exact ⟨vm, vw, ve, vo, vn, prb, pro, prn, e, h1, h2, h3, fun W t => ⟨hm.keep t, CellsAt.keep hcb t, fun p hp => (hib p hp).keep t, he.keep t, CellsAt.keep hco t, fun p hp => (hio p hp).keep t, CellsAt.keep hcn t, fun p hp => (hin p hp).keep t⟩⟩
theorem StW.none {Al : World -> Prop} {b n q t : Int} : StW Al (.agg #[.int .i64 b, .int .i64 n, .int .i64 q, .int .i64 t, .slice .none 0 0, .slice .none 0 0, .slice .none 0 0, .slice .none 0 0, .slice .none 0 0]) ⟨b, n, q, t, [], [], [], [], []⟩ :=
 ⟨_, _, _, _, _, [], [], [], rfl, rfl, rfl, rfl, fun W _ => ⟨CellsAt.nil _ _, CellsAt.nil _ _, fun p hp => (by cases hp), CellsAt.nil _ _, CellsAt.nil _ _, fun p hp => (by cases hp), CellsAt.nil _ _, fun p hp => (by cases hp)⟩⟩
end
section
open Go.RowKit Go.Maps
section
variable {P : Program} {ops : Array Oper} {Q : Exit -> Act -> World -> Prop}
def Kept (a0 : Act) (keepd : List Nat) (a : Act) : Prop := ∀ d ∈ keepd, a.eval (.tmp d) = a0.eval (.tmp d)
def IStep2 (P : Program) (ops : Array Oper) (Q : Exit -> Act -> World -> Prop) (a0 : Act) (ds : List Nat) (kp : Act -> Prop) (C C' : World -> Prop) (R : Nat -> Value -> World -> Prop) (wd : List Nat) (need kill later : Nat -> List Nat) (i : Nat) : Prop :=
 ∀ o a w, ops[i]? = some o -> Fr a0 ds a -> kp a -> C w -> (∀ k ∈ need i, R k (slotV ops a k) w) ->
  ∀ K : Act -> World -> Prop, (∀ v w', C' w' -> R i (match o.dst with | some _ => v | none => undef) w' -> (∀ j ∈ wd, j ≠ i -> j ∉ kill i -> j ∉ later i -> ∀ x, R j x w -> R j x w') -> K (a.put o.dst v) w') ->
   if Region.wanted o (yielded ops a.tmps) = true then Oper.wp P o a w K Q else K (a.put o.dst undef) w
theorem istep2_of {a0 : Act} {ds : List Nat} {kp : Act -> Prop} {C : World -> Prop} {R : Nat -> Value -> World -> Prop} {wd : List Nat} {need kill later : Nat -> List Nat} {i : Nat} (h : IStep P ops Q a0 ds C R wd need kill later i) : IStep2 P ops Q a0 ds kp C C R wd need kill later i :=
 fun o a w h1 h2 _ h3 h4 => h o a w h1 h2 h3 h4
theorem any_inv2 (a0 : Act) (keepd : List Nat) (e0 : Nat) (C : Bool -> World -> Prop) (R : Nat -> Value -> World -> Prop) (wd : List Nat) (ds : List Nat) (rows : List LRow) (anc need kill later : Nat -> List Nat)
  (hrows : ops.toList.map (lrow ops) = rows) (hck : ichk rows ds anc need kill later = true) (hds : ∀ d ∈ ds, d < a0.tmps.size) (hpure : ∀ j, j ∉ wd -> ∀ x w w', R j x w -> R j x w')
  (he0 : e0 < rows.length) (hkd : ∀ i, i < rows.length -> i ≠ e0 -> e0 ∉ anc i -> ∀ d, ldst rows i = some d -> d ∉ keepd) (hstep1 : ∀ i, i < rows.length -> i ≠ e0 -> i ∉ anc e0 -> IStep P ops Q a0 ds (C true) R wd need kill later i)
  (hstep0 : ∀ i, i < rows.length -> i ≠ e0 -> e0 ∉ anc i -> IStep2 P ops Q a0 ds (Kept a0 keepd) (C false) (C false) R wd need kill later i)
  (hstepe : IStep2 P ops Q a0 ds (Kept a0 keepd) (C false) (C true) R wd need kill later e0)
  (hend : ∀ a w, Fr a0 ds a -> C true w -> (∀ j, j < rows.length -> (∀ i, i < rows.length -> j ∉ kill i) -> R j (slotV ops a j) w) -> Q .normal a w) :
  ∀ (m : Nat) (listed : Array Bool) (a : Act) (w : World), listed.size = ops.size -> (∀ i, i < ops.size -> listed.getD i true = true -> ∀ e ∈ lon rows i, listed.getD e true = true) ->
   (List.range ops.size).countP (fun i => !listed.getD i true) = m ->
   Fr a0 ds a -> (listed.getD e0 true = false -> Kept a0 keepd a) -> C (listed.getD e0 true) w -> (∀ j, j < ops.size -> listed.getD j true = true -> (∀ i, i < ops.size -> listed.getD i true = true -> j ∉ kill i) -> R j (slotV ops a j) w) -> wpAny P .any ops Q m listed a w := by
 have S := ichk_spec hck
 have hlen : rows.length = ops.size := by rw [<- hrows]; simp
 have hrow : ∀ i o, ops[i]? = some o -> rows[i]? = some (lrow ops o) := fun i o ho => by rw [<- hrows, List.getElem?_map, Array.getElem?_toList, ho]; rfl
 have hready : ∀ (listed : Array Bool) i, listed.size = ops.size -> i < ops.size -> listed.getD i true = false -> (∀ e ∈ lon rows i, listed.getD e true = true) -> i ∈ Region.ready .any ops listed := by
  intro listed i hs hi h1 h2
  obtain ⟨o, ho⟩ : ∃ o, ops[i]? = some o := ⟨_, Array.getElem?_eq_getElem hi⟩
  unfold Region.ready
  rw [List.mem_filter]
  refine ⟨List.mem_range.2 hi, ?_⟩
  rw [h1, ho]
  simp only [Option.map_some, Option.getD_some, Bool.not_false, Bool.true_and, Array.all_eq_true_iff_forall_mem]
  intro e he
  cases hb : Region.binds .any e with
  | false => rfl
  | true =>
   have hm : e.on ∈ lon rows i := by unfold lon; rw [hrow i o ho]; exact lon_mem.2 ⟨e, he, hb, rfl⟩
   have h3 := h2 _ hm
   have h4 := S.less i (by omega) _ hm
   rw [Array.getD_eq_getD_getElem?, Array.getElem?_eq_getElem (by omega)] at h3 ⊢
   simpa using h3
 have hready2 : ∀ (listed : Array Bool) i, listed.size = ops.size -> i ∈ Region.ready .any ops listed -> i < ops.size /\ listed.getD i true = false /\ ∀ e ∈ lon rows i, listed.getD e true = true := by
  intro listed i hs hi
  unfold Region.ready at hi
  rw [List.mem_filter] at hi
  obtain ⟨h1, h2⟩ := hi
  have h1 := List.mem_range.1 h1
  obtain ⟨o, ho⟩ : ∃ o, ops[i]? = some o := ⟨_, Array.getElem?_eq_getElem h1⟩
  rw [ho] at h2
  simp only [Option.map_some, Option.getD_some, Bool.and_eq_true, Bool.not_eq_true', Array.all_eq_true_iff_forall_mem] at h2
  refine ⟨h1, h2.1, fun e he => ?_⟩
  have h5 := S.less i (by omega) e he
  unfold lon at he
  rw [hrow i o ho] at he
  obtain ⟨ed, hed, hb, rfl⟩ := lon_mem.1 he
  have h3 := h2.2 ed hed
  rw [hb] at h3
  rw [Array.getD_eq_getD_getElem?, Array.getElem?_eq_getElem (by omega)] at h3 ⊢
  simpa using h3
 have hanc : ∀ (listed : Array Bool), (∀ i, i < ops.size -> listed.getD i true = true -> ∀ e ∈ lon rows i, listed.getD e true = true) -> ∀ n i, i <= n -> i < ops.size -> listed.getD i true = true -> ∀ k ∈ anc i, listed.getD k true = true := by
  intro listed hcl n
  induction n with
  | zero =>
   intro i hi hio hl k hk
   rcases S.ancs i (by omega) k hk with h | ⟨m, hm, _⟩
   ·exact hcl i hio hl k h
   ·have := S.less i (by omega) m hm; omega
  | succ n ihn =>
   intro i hi hio hl k hk
   rcases S.ancs i (by omega) k hk with h | ⟨m, hm, hkm⟩
   ·exact hcl i hio hl k h
   ·have := S.less i (by omega) m hm
    exact ihn m (by omega) (by omega) (hcl i hio hl m hm) k hkm
 intro m
 induction m with
 | zero =>
  intro listed a w hs hcl hm hf hkp hC hR
  rw [List.countP_eq_zero] at hm
  have hall : ∀ i, i < ops.size -> listed.getD i true = true := fun i hi => by simpa using hm i (List.mem_range.2 hi)
  have h0 : Region.ready .any ops listed = [] := by
   cases hr : Region.ready .any ops listed with
   | nil => rfl
   | cons x xs =>
    obtain ⟨g1, g2, _⟩ := hready2 listed x hs (by rw [hr]; exact List.mem_cons_self)
    rw [hall x g1] at g2; cases g2
  refine wpAny_done h0 ?_ _
  rw [hall e0 (by omega)] at hC
  exact hend a w hf hC (fun j hj hk => hR j (by omega) (hall j (by omega)) (fun i hi _ => hk i (by omega)))
 | succ m ih =>
  intro listed a w hs hcl hm hf hkp hC hR
  refine ⟨fun h0 => ?_, fun i hi => ?_⟩
  ·exfalso
   have hex : ∃ i, i < ops.size /\ listed.getD i true = false := by
    have hp : 0 < (List.range ops.size).countP (fun i => !listed.getD i true) := by omega
    obtain ⟨i, h1, h2⟩ := List.countP_pos_iff.1 hp
    exact ⟨i, List.mem_range.1 h1, by simpa using h2⟩
   have hmin : ∀ n i, i <= n -> i < ops.size -> listed.getD i true = false -> False := by
    intro n
    induction n with
    | zero =>
     intro i hi hio hl
     have := hready listed i hs hio hl (fun e he => by have := S.less i (by omega) e he; omega)
     rw [h0] at this; cases this
    | succ n ihn =>
     intro i hi hio hl
     have := hready listed i hs hio hl (fun e he => by
      have hlt := S.less i (by omega) e he
      cases hle : listed.getD e true with
      | true => rfl
      | false => exact (ihn e (by omega) (by omega) hle).elim)
     rw [h0] at this; cases this
   obtain ⟨i, h1, h2⟩ := hex
   exact hmin i i (Nat.le_refl _) h1 h2
  ·obtain ⟨h1, h2, h3⟩ := hready2 listed i hs hi
   obtain ⟨o, ho⟩ : ∃ o, ops[i]? = some o := ⟨_, Array.getElem?_eq_getElem h1⟩
   refine wpOp_step ho (fun K hK => ?_)
   have hget : ∀ j, j ≠ i -> (listed.setIfInBounds i true).getD j true = listed.getD j true := fun j hj => by
    rw [Array.getD_eq_getD_getElem?, Array.getD_eq_getD_getElem?, Array.getElem?_setIfInBounds_ne (fun e => hj e.symm)]
   have hgeti : (listed.setIfInBounds i true).getD i true = true := by
    rw [Array.getD_eq_getD_getElem?, Array.getElem?_setIfInBounds]; simp [hs, h1]
   have hld : ldst rows i = o.dst := by unfold ldst; rw [hrow i o ho]; rfl
   have hslot : ∀ v, slotV ops (a.put o.dst v) i = (match o.dst with | some _ => v | none => undef) := by
    intro v
    unfold slotV
    rw [ho]
    simp only [Option.bind_some]
    cases hd : o.dst with
    | none => rfl
    | some d =>
     simp only
     exact iev_eq (by rw [hf.size]; exact hds d (S.dst i (by omega) d (by rw [hld, hd])))
   have hsloj : ∀ v j, j < ops.size -> j ≠ i -> slotV ops (a.put o.dst v) j = slotV ops a j := by
    intro v j hj hji
    obtain ⟨oj, hoj⟩ : ∃ o, ops[j]? = some o := ⟨_, Array.getElem?_eq_getElem hj⟩
    unfold slotV
    rw [hoj]
    simp only [Option.bind_some]
    cases hd : o.dst with
    | none => cases oj.dst <;> rfl
    | some d =>
     cases hdj : oj.dst with
     | none => rfl
     | some dj =>
      simp only
      refine iev_ne (fun e => ?_)
      have := S.other i (by omega) d (by rw [hld, hd]) j (by omega) hji
      apply this
      unfold ldst
      rw [hrow j oj hoj]
      show oj.dst = some d
      rw [hdj, e]
   have hunl : i ≠ e0 -> listed.getD e0 true = false -> e0 ∉ anc i := fun hie hb hm => by
    have : listed.getD e0 true = true := by
     rcases S.ancs i (by omega) e0 hm with h | ⟨q, hq, hqm⟩
     ·exact h3 e0 h
     ·have hql := S.less i (by omega) q hq
      exact hanc listed hcl q q (Nat.le_refl _) (by omega) (h3 q hq) e0 hqm
    rw [hb] at this; cases this
   have hst : IStep2 P ops Q a0 ds (fun a => listed.getD e0 true = false -> Kept a0 keepd a) (C (listed.getD e0 true)) (C ((listed.setIfInBounds i true).getD e0 true)) R wd need kill later i := by
    by_cases hie : i = e0
    ·subst hie
     rw [hgeti, h2]
     exact fun o a w g1 g2 g3 g4 g5 => hstepe o a w g1 g2 (g3 rfl) g4 g5
    ·rw [hget e0 (fun e => hie e.symm)]
     cases hb : listed.getD e0 true with
     | true =>
      refine istep2_of (hstep1 i (by omega) hie (fun hm => ?_))
      have := hanc listed hcl e0 e0 (Nat.le_refl _) (by omega) hb i hm
      rw [h2] at this; cases this
     | false => exact fun o a w g1 g2 g3 g4 g5 => hstep0 i (by omega) hie (hunl hie hb) o a w g1 g2 (g3 rfl) g4 g5
   refine hst o a w ho hf hkp hC (fun k hk => ?_) K (fun v w' c1 c2 c3 => hK _ _ ?_)
   ·have hkl := h3 k (S.needs i (by omega) k hk)
    refine hR k (by have := S.less i (by omega) k (S.needs i (by omega) k hk); omega) hkl (fun j hj hlj hkj => ?_)
    rcases S.kills j (by omega) k hkj i (by omega) hk with e | e
    ·subst e; rw [h2] at hlj; cases hlj
    ·have := hanc listed hcl j j (Nat.le_refl _) hj hlj i e
     rw [h2] at this; cases this
   ·refine ih (listed.setIfInBounds i true) _ w' (by simpa using hs) ?_ ?_ (hf.put S.nodup (fun e he => S.dst i (by omega) e (by rw [hld, he])) v) (fun hb d hd => ?_) c1 ?_
    ·intro j hj hlj e he
     by_cases hji : j = i
     ·subst hji
      have hne : e ≠ j := fun e2 => by have := S.less j (by omega) e he; omega
      rw [hget e hne]; exact h3 e he
     ·rw [hget j hji] at hlj
      by_cases hei : e = i
      ·subst hei; exact hgeti
      ·rw [hget e hei]; exact hcl j hj hlj e he
    ·have hmem : i ∈ List.range ops.size := List.mem_range.2 h1
     have key : ∀ (l : List Nat), l.Nodup -> i ∈ l -> l.countP (fun j => !listed.getD j true) = l.countP (fun j => !(listed.setIfInBounds i true).getD j true) + 1 := by
      intro l hn hil
      induction l with
      | nil => cases hil
      | cons x l ihl =>
       rw [List.nodup_cons] at hn
       rw [List.countP_cons, List.countP_cons]
       rcases List.mem_cons.1 hil with rfl | hil
       ·have hsame : l.countP (fun j => !listed.getD j true) = l.countP (fun j => !(listed.setIfInBounds i true).getD j true) := by
         apply List.countP_congr
         intro j hj
         have : j ≠ i := fun e => hn.1 (e ▸ hj)
         rw [hget j this]
        rw [hsame, h2, hgeti]
        simp
       ·have hxi : x ≠ i := fun e => hn.1 (e ▸ hil)
        rw [ihl hn.2 hil, hget x hxi]
        omega
     have := key _ List.nodup_range hmem
     omega
    ·by_cases hie : i = e0
     ·subst hie; rw [hgeti] at hb; cases hb
     ·rw [hget e0 (fun e => hie e.symm)] at hb
      rw [<- hkp hb d hd]
      cases hdo : o.dst with
      | none => rfl
      | some d' => exact iev_ne (fun e => hkd i (by omega) hie (hunl hie hb) d' (by rw [hld, hdo]) (by rw [e]; exact hd))
    ·intro j hj hlj hk
     by_cases hji : j = i
     ·subst hji; rw [hslot]; exact c2
     ·rw [hget j hji] at hlj
      rw [hsloj v j hj hji]
      have hRj := hR j hj hlj (fun i' hi' hli' => hk i' hi' (by
       by_cases e : i' = i
       ·subst e; exact hgeti
       ·rw [hget i' e]; exact hli'))
      by_cases hwd : j ∈ wd
      case neg => exact hpure j hwd _ _ _ hRj
      refine c3 j hwd hji (hk i h1 hgeti) (fun hlat => ?_) _ hRj
      have := hanc listed hcl j j (Nat.le_refl _) hj hlj i (S.laters i (by omega) j hlat).1
      rw [h2] at this; cases this
theorem istep_w2 {a0 : Act} {ds : List Nat} {kp : Act -> Prop} {C C' : World -> Prop} {R : Nat -> Value -> World -> Prop} {wd : List Nat} {need kill later : Nat -> List Nat} {i : Nat} (o : Oper) (ho : ops[i]? = some o) (hw : ∀ a w, Fr a0 ds a -> C w -> (∀ k ∈ need i, R k (slotV ops a k) w) -> Region.wanted o (yielded ops a.tmps) = true)
  (h : ∀ a w, Fr a0 ds a -> kp a -> C w -> (∀ k ∈ need i, R k (slotV ops a k) w) -> ∀ K : Act -> World -> Prop, (∀ v w', C' w' -> R i (match o.dst with | some _ => v | none => undef) w' -> (∀ j ∈ wd, j ≠ i -> j ∉ kill i -> j ∉ later i -> ∀ x, R j x w -> R j x w') -> K (a.put o.dst v) w') -> Oper.wp P o a w K Q) : IStep2 P ops Q a0 ds kp C C' R wd need kill later i := by
 intro o' a w ho' hf hk hC hn K hK
 obtain rfl : o' = o := Option.some.inj (ho'.symm.trans ho)
 rw [if_pos (hw a w hf hC hn)]
 exact h a w hf hk hC hn K hK
def ppchk (rows : List LRow) (keepd : List Nat) (n : Nat) (anc : Nat -> List Nat) (e0 : Nat) (pre post : List Nat) : Bool :=
 (decide (e0 < n) && pre.all (fun i => match ldst rows i with | some d => !keepd.contains d | none => true)) && (List.range n).all fun i => i == e0 || (((anc i).contains e0 || pre.contains i) && ((anc e0).contains i || post.contains i))
theorem wp_region_inv2 {id : Nat} {l : List Oper} {a0 : Act} {w : World} (e0 : Nat) (C0 C1 : World -> Prop) (R : Nat -> Value -> World -> Prop) (wd : List Nat) (ds : List Nat) (rows : List LRow) (anc need kill later : Nat -> List Nat)
  (hm : P.follows .mixedOrders = true) (hrows : l.map (lrow l.toArray) = rows) (hck : ichk rows ds anc need kill later = true) (hds : ds.all (fun d => decide (d < a0.tmps.size)) = true) (hC : C0 w.drew) (pre post : List Nat) (keepd : List Nat) (hpp : ppchk rows keepd rows.length anc e0 pre post = true) (hpure : ∀ j, j ∉ wd -> ∀ x w w', R j x w -> R j x w')
  (hs0 : ∀ i, i < rows.length -> i ∈ pre -> IStep2 P l.toArray Q a0 ds (Kept a0 keepd) C0 C0 R wd need kill later i) (hs1 : ∀ i, i < rows.length -> i ∈ post -> IStep P l.toArray Q a0 ds C1 R wd need kill later i)
  (hstepe : IStep2 P l.toArray Q a0 ds (Kept a0 keepd) C0 C1 R wd need kill later e0)
  (hend : ∀ a w, Fr a0 ds a -> C1 w -> (∀ j, j < rows.length -> (∀ i, i < rows.length -> j ∉ kill i) -> R j (slotV l.toArray a j) w) -> Q .normal a w) : (Code.region id l.toArray true).wp P Q a0 w := by
 refine wp_region_any hm ?_
 have hlen : rows.length = l.length := by rw [<- hrows]; simp
 unfold ppchk at hpp
 simp only [Bool.and_eq_true, decide_eq_true_eq, List.all_eq_true, List.mem_range, Bool.or_eq_true, beq_iff_eq, List.contains_iff_mem] at hpp
 obtain ⟨⟨hp0, hpk⟩, hpp⟩ := hpp
 refine any_inv2 a0 keepd e0 (fun b => cond b C1 C0) R wd ds rows anc need kill later (by simpa using hrows) hck (fun d hd => by simpa using List.all_eq_true.1 hds d hd) hpure hp0 (fun i hi hie hm d hd => ?_) (fun i hi hie hm => hs1 i hi (((hpp i hi).resolve_left hie).2.resolve_left hm)) (fun i hi hie hm => hs0 i hi (((hpp i hi).resolve_left hie).1.resolve_left hm)) hstepe hend _ _ a0 w.drew (by simp) ?_ ?_ (Fr.start _ _) (fun _ d _ => rfl) (by rw [Array.getD_eq_getD_getElem?, Array.getElem?_replicate, if_pos (by rw [List.size_toArray]; omega)]; exact hC) ?_
 ·have := hpk i (((hpp i hi).resolve_left hie).1.resolve_left hm)
  rw [hd] at this
  simpa using this
 ·intro i hi hl
  rw [Array.getD_eq_getD_getElem?, Array.getElem?_replicate, if_pos hi] at hl
  cases hl
 ·rw [List.countP_eq_length.2]
  ·simp
  ·intro i hi
   have hi := List.mem_range.1 hi
   rw [Array.getD_eq_getD_getElem?, Array.getElem?_replicate, if_pos hi]; rfl
 ·intro j hj hl
  rw [Array.getD_eq_getD_getElem?, Array.getElem?_replicate, if_pos hj] at hl
  cases hl
end
end
end Go.Proofs.YtfedhcnmdmhppaaGreat
