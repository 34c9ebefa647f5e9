/- Part 6 of what the proof of StoreIds rests on. No condition. -/
import Derived.StringKeys
import Derived.Test.YtafndmnbnmlklaaGreatPStoreIds05
namespace Go.Proofs.YtafndmnbnmlklaaGreat
set_option maxRecDepth 100000
set_option maxHeartbeats 60000000
set_option linter.unusedVariables false
set_option linter.unusedSimpArgs false
set_option linter.unusedSectionVars false
section
open Go.RowKit Go.Maps
theorem size_alloc (w : World) (o : Obj) : (w.alloc o).heap.size = w.heap.size + 1 := by simp
theorem box1_cell (w : World) (cs : Array Value) (t : TypeId) (o : Obj) (i : Nat) (hi : i < cs.size) : ((w.alloc (.cells cs t)).alloc o).cell? ⟨w.heap.size, i, none⟩ = some cs[i] :=
 (Tch.alloc _ o).cell (box_cell w cs t i hi) (fun h => h)
theorem box2_cell (w : World) (cs : Array Value) (t : TypeId) (o : Obj) (i : Nat) (hi : i < cs.size) : ((w.alloc o).alloc (.cells cs t)).cell? ⟨w.heap.size + 1, i, none⟩ = some cs[i] := by
 have := box_cell (w.alloc o) cs t i hi
 rwa [size_alloc] at this
def stV (br nid nseq tx : Int) (am : Option Addr) (nm cm : Nat) (aw : Option Addr) (nw cw : Nat) (ae : Option Addr) (ne ce : Nat) (ao : Option Addr) (no co : Nat) (an : Option Addr) (nn cn : Nat) : Value :=
 .agg #[.int .i64 br, .int .i64 nid, .int .i64 nseq, .int .i64 tx, .slice am nm cm, .slice aw nw cw, .slice ae ne ce, .slice ao no co, .slice an nn cn]
theorem maypend_any (br nid nseq tx : Int) (am : Option Addr) (nm cm : Nat) (aw : Option Addr) (nw cw : Nat) (ae : Option Addr) (ne ce : Nat) (ao : Option Addr) (no co : Nat) (an : Option Addr) (nn cn : Nat) (tid : Int) (parts : List Int) (vp : Value) (hti : I64 tid) (hpi : ∀ x ∈ parts, I64 x) (w : World) (hp : IsInts w vp parts) :
  Calls Tryz.prog 184 #[stV br nid nseq tx am nm cm aw nw cw ae ne ce ao no co an nn cn, .agg #[.int .i64 tid, vp]] w fun e w' => e = .returned (.bool ((recB ⟨6, tid, 0, false, parts, []⟩ && decide (homeM tid = br)) && !parts.contains br)) /\ Tch No w w' := by
 have HR : Hid (∀ W, Tch No w W -> Calls Tryz.prog 56 #[.agg #[.int .i64 6, .int .i64 tid, .int .i64 0, .bool false, vp, .slice none 0 0]] W fun e w' => e = .returned (.bool (recB ⟨6, tid, 0, false, parts, []⟩)) /\ Tch No W w') :=
  fun W T => krecord_any ⟨6, tid, 0, false, parts, []⟩ ⟨(show I64 (6 : Int) from ⟨by decide, by decide⟩), hti, (show I64 (0 : Int) from ⟨by decide, by decide⟩), hpi, fun p h => by cases h⟩ _ W ⟨vp, _, rfl, hp.keep T, CellsAt.nil _ _⟩
 have HH := Lib.hid (fun W => khome_any tid hti W)
 obtain ⟨ap, cp, hvp, _, _⟩ := CellsAt.shape hp
 generalize parts.length = np at hvp
 subst hvp
 have HC : Hid (∀ (p : TchW w), Calls Tryz.prog 169 #[.slice ap np cp, .int .i64 br] p.wo fun e w' => e = .returned (.bool (parts.contains br)) /\ p.wo = w') := fun p => contains_any parts br _ _ (hp.keep p.t)
 generalize parts.contains br = qc at HC ⊢
 generalize recB ⟨6, tid, 0, false, parts, []⟩ = qr at HR ⊢
 obtain ⟨hm, hhm⟩ : ∃ x, homeM tid = x := ⟨_, rfl⟩
 rw [hhm] at HH ⊢
 clear hp hti hpi hhm
 unfold stV
 go_enter Tryz.func184, Tryz.ntmps184
 go_upto_region 2 with (go_at_call 56; refine (HR.out _ ((Tch.alloc _ _).trans0 (Tch.alloc _ _))).mono ?_; rintro e w2 ⟨rfl, T2⟩; have d0 := T2.cell (box1_cell _ _ _ _ 0 (by simp)) (fun h => h); have d1 := T2.cell (box2_cell _ _ _ _ 0 (by simp)) (fun h => h); have d2 := T2.cell (box2_cell _ _ _ _ 1 (by simp)) (fun h => h))
 have TT : Hid (Tch No w w2) := ((Tch.alloc _ _).trans0 (Tch.alloc _ _)).trans0 T2
 have c0 : ∀ p : TchW w2, p.wo.cell? ⟨w.heap.size, 0, none⟩ = some (.int .i64 br) := fun p => p.cell d0
 have c1 : ∀ p : TchW w2, p.wo.cell? ⟨w.heap.size + 1, 0, none⟩ = some (.int .i64 tid) := fun p => p.cell d1
 have c2 : ∀ p : TchW w2, p.wo.cell? ⟨w.heap.size + 1, 1, none⟩ = some (.slice ap np cp) := fun p => p.cell d2
 have HC2 : Hid (∀ (p : TchW w2), Calls Tryz.prog 169 #[.slice ap np cp, .int .i64 br] p.wo fun e w' => e = .returned (.bool qc) /\ p.wo = w') := fun p => HC.out ⟨p.wo, TT.out.trans0 p.t⟩
 clear T2 d0 d1 d2 HC HR
 cases qr with
 | false =>
  refine wp_region_qt (by kernel_rfl) (by kernel_rfl) ?_
  repeat
   with_reducible refine wpQuiet_step (fun K hK => ?_)
   go_simp
   first
    | (with_reducible refine hK _ ?_; clear hK K)
    | (rw [if_neg (by decide)]; with_reducible refine hK _ ?_; clear hK K)
    | (apply Exists.intro; with_reducible refine ⟨fun _ => ?_, hK _ ?_⟩; (first | (go_at_call 170; exact qt_s (HH.out _)) | (go_at_call 169; exact qt_s (HC2.out _))); clear hK K)
  with_reducible refine wpQuiet_nil ?_
  rintro _ ⟨pq, rfl⟩
  go_wp2_with fail
  go_ret
  exact ⟨ret_b rfl, TT.out.trans0 pq.t⟩
 | true =>
  by_cases hb : hm = br
  ·have hd : (hm == br) = true := by simpa using hb
   have hd2 : Hid (decide (hm = br) = true) := by simpa [Hid] using hb
   clear hb
   refine wp_region_qt (by kernel_rfl) (by kernel_rfl) ?_
   repeat
    with_reducible refine wpQuiet_step (fun K hK => ?_)
    go_simp
    first
     | (with_reducible refine hK _ ?_; clear hK K)
     | (rw [if_neg (by decide)]; with_reducible refine hK _ ?_; clear hK K)
     | (apply Exists.intro; with_reducible refine ⟨fun _ => ?_, hK _ ?_⟩; (first | (go_at_call 170; exact qt_s (HH.out _)) | (go_at_call 169; exact qt_s (HC2.out _))); clear hK K)
   with_reducible refine wpQuiet_nil ?_
   rintro _ ⟨pq, rfl⟩
   go_wp2_with fail
   go_ret
   exact ⟨ret_b (by rw [hd2.out]; rfl), TT.out.trans0 pq.t⟩
  ·have hd : (hm == br) = false := by simpa using hb
   have hd2 : Hid (decide (hm = br) = false) := by simpa [Hid] using hb
   clear hb
   refine wp_region_qt (by kernel_rfl) (by kernel_rfl) ?_
   repeat
    with_reducible refine wpQuiet_step (fun K hK => ?_)
    go_simp
    first
     | (with_reducible refine hK _ ?_; clear hK K)
     | (rw [if_neg (by decide)]; with_reducible refine hK _ ?_; clear hK K)
     | (apply Exists.intro; with_reducible refine ⟨fun _ => ?_, hK _ ?_⟩; (first | (go_at_call 170; exact qt_s (HH.out _)) | (go_at_call 169; exact qt_s (HC2.out _))); clear hK K)
   with_reducible refine wpQuiet_nil ?_
   rintro _ ⟨pq, rfl⟩
   go_wp2_with fail
   go_ret
   exact ⟨ret_b (by rw [hd2.out]; rfl), TT.out.trans0 pq.t⟩
end
section
open Go.RowKit Go.Maps
abbrev DtB := DataW Unit
def truR : Value -> Option (DtB × List MemPlace)
 | .bool b => some (.lit (.bool b), [])
 | _ => none
theorem truR_b (b : Bool) : truR (.bool b) = some (.lit (.bool b), []) := rfl
theorem truR_inv {v : Value} {b : Bool} {ps : List MemPlace} (h : truR v = some (.lit (.bool b), ps)) : v = .bool b := by
 unfold truR at h
 split at h
 ·simp at h; rw [h.1]
 ·cases h
theorem lawI : Keyed Tryz.prog 2 := int_keyed Tryz.underlying2
theorem isKeyI {x : Int} : WideAt.IsKeyLit (.int .i64 x) := by simp [WideAt.IsKeyLit]
theorem tch_turn {w w' : World} {mb : Nat} (hg : w.grownBy w' (some mb)) : Tch (fun k => k = mb) w w' := Tch.grown hg (fun k hk _ => by injection hk with hk; exact hk.symm)
structure IdMap (w : World) (mb : Nat) (n : Nat) (ids : List Int) : Prop where
 map : ∃ D, w.ownsMap Tryz.prog 2 truR mb n D /\ (∀ x : Int, x ∈ ids -> ∀ z, D.atKey (.int .i64 x) z = .lit (.bool true)) /\ (∀ x : Int, x ∉ ids -> Maps.has D (.int .i64 x) = false)
theorem IdMap.tch {F : Nat -> Prop} {w w' : World} {mb n : Nat} {ids : List Int} (h : IdMap w mb n ids) (t : Tch F w w') (hF : ¬ F mb) : IdMap w' mb n ids := by
 obtain ⟨D, ⟨es, clock, hb, F', hs, hD⟩, h2⟩ := h.map
 exact ⟨D, ⟨es, clock, blk_tch t hb hF, F', hs, hD⟩, h2⟩
theorem i64_wf {x : Int} (h : I64 x) : (Lit.int .i64 x).wf = true := by
 unfold I64 at h
 have e1 : IntKind.i64.min = -9223372036854775808 := by decide
 have e2 : IntKind.i64.max = 9223372036854775807 := by decide
 rw [Lit.wf, e1, e2, Bool.and_eq_true, decide_eq_true_eq, decide_eq_true_eq]
 exact h
theorem IdMap.look {w : World} {mb n : Nat} {ids : List Int} (h : IdMap w mb n ids) {x : Int} (hx : I64 x) :
  (Instr.lookup 123 (.map (some mb)) (.int .i64 x) false).run Tryz.prog w = .ok (.bool (ids.contains x)) w := by
 obtain ⟨D, hm, h1, h2⟩ := h.map
 obtain ⟨v, ps, hrun, hv⟩ := hm.lookup lawI Tryz.underlying123 (z := .bool false) (by kernel_rfl) (truR_b false) (keyOf_int_mk Tryz.underlying2 (i64_wf hx))
 rw [hrun]
 by_cases hc : x ∈ ids
 ·rw [h1 x hc] at hv
  rw [truR_inv hv]
  simp [hc]
 ·rw [atKey_of_not_has (h2 x hc)] at hv
  rw [truR_inv hv]
  simp [hc]
theorem IdMap.put {w : World} {mb n : Nat} {ids : List Int} (h : IdMap w mb n ids) {x : Int} (hx : I64 x) (hn : n < maxLen) :
  ∃ w', (Instr.mapUpdate 123 (.map (some mb)) (.int .i64 x) (.bool true)).run Tryz.prog w = .ok () w' /\ IdMap w' mb (n + 1) (ids ++ [x]) /\ Tch (fun k => k = mb) w w' := by
 obtain ⟨D, hm, h1, h2⟩ := h.map
 obtain ⟨w', hrun, hown, hg⟩ := hm.update lawI Tryz.underlying123 hn (keyOf_int_mk Tryz.underlying2 (i64_wf hx)) (val := .bool true) (truR_b true)
 have ht : Tch (fun k => k = mb) w w' := tch_turn hg
 refine ⟨w', hrun, ⟨_, hown, ?_, ?_⟩, ht⟩
 ·intro y hy z
  by_cases e : y = x
  ·subst e; exact atKey_put_same hm.isMap isKeyI _ _
  ·rw [atKey_put_other (fun e2 => e (by injection e2))]
   exact h1 y (by simpa [e] using hy) z
 ·intro y hy
  have hy2 : y ∉ ids /\ y ≠ x := by simpa using hy
  rw [has_put_other (fun e2 => hy2.2 (by injection e2))]
  exact h2 y hy2.1
def goodM (s : StM) (prev : Int) (seen : List Int) (m : MsgM) : Bool :=
 ((((decide (prev < m.seq) && decide (m.seq < s.nseq)) && decide (homeM m.id = s.broker)) && decide (m.id % 4294967296 < s.nid)) && !seen.contains m.id) &&
 ((decide (m.who = 0) || (tidB m.who && !hasP (·.tid) s.ends m.who)) && (putB ⟨m.q, m.b⟩ && (decide (0 <= m.cnt) && decide (m.cnt <= 1000))))
def goodAll (s : StM) (prev : Int) (seen : List Int) : List MsgM -> Bool
 | [] => true
 | m :: r => goodM s prev seen m && goodAll s m.seq (seen ++ [m.id]) r
theorem goodAll_iff (s : StM) : ∀ (l : List MsgM) (prev : Int) (seen : List Int), 0 <= prev -> (goodAll s prev seen l = true ↔ l.all (msgB s) = true /\ (prev :: l.map (·.seq)).Pairwise (· < ·) /\ (l.map (·.id)).Nodup /\ ∀ m ∈ l, m.id ∉ seen)
 | [], prev, seen, h => by simp [goodAll]
 | m :: r, prev, seen, h => by
  rw [goodAll, Bool.and_eq_true]
  constructor
  ·rintro ⟨h1, h2⟩
   unfold goodM at h1
   simp only [Bool.and_eq_true, decide_eq_true_eq, Bool.not_eq_true', putB] at h1
   obtain ⟨⟨⟨⟨⟨a1, a2⟩, a3⟩, a4⟩, a5⟩, a6, ⟨a7, a8⟩, a9, a10⟩ := h1
   obtain ⟨b1, b2, b3, b4⟩ := (goodAll_iff s r m.seq (seen ++ [m.id]) (by omega)).1 h2
   rw [List.pairwise_cons] at b2
   refine ⟨?_, ?_, ?_, ?_⟩
   ·rw [List.all_cons, Bool.and_eq_true]
    refine ⟨?_, b1⟩
    unfold msgB
    simp only [Bool.and_eq_true, decide_eq_true_eq]
    exact ⟨⟨⟨⟨⟨⟨⟨by omega, a2⟩, a3⟩, a4⟩, a7⟩, a8⟩, a9, a10⟩, a6⟩
   ·rw [List.map_cons, List.pairwise_cons, List.pairwise_cons]
    refine ⟨?_, b2⟩
    intro x hx
    rcases List.mem_cons.1 hx with rfl | hx
    ·exact a1
    ·have := b2.1 x hx; omega
   ·rw [List.map_cons, List.nodup_cons]
    refine ⟨?_, b3⟩
    intro hm
    obtain ⟨x, hx, e⟩ := List.mem_map.1 hm
    exact b4 x hx (by simp [e])
   ·intro x hx
    rcases List.mem_cons.1 hx with rfl | hx
    ·simpa using a5
    ·intro hs; exact b4 x hx (by simp [hs])
  ·rintro ⟨h1, h2, h3, h4⟩
   rw [List.all_cons, Bool.and_eq_true] at h1
   obtain ⟨h1, h1'⟩ := h1
   unfold msgB at h1
   simp only [Bool.and_eq_true, decide_eq_true_eq] at h1
   obtain ⟨⟨⟨⟨⟨⟨⟨a0, a2⟩, a3⟩, a4⟩, a7⟩, a8⟩, a9, a10⟩, a6⟩ := h1
   rw [List.map_cons, List.pairwise_cons, List.pairwise_cons] at h2
   rw [List.map_cons, List.nodup_cons] at h3
   refine ⟨?_, (goodAll_iff s r m.seq (seen ++ [m.id]) (by omega)).2 ⟨h1', ?_, h3.2, ?_⟩⟩
   ·unfold goodM
    simp only [Bool.and_eq_true, decide_eq_true_eq, Bool.not_eq_true', putB]
    exact ⟨⟨⟨⟨⟨h2.1 _ (by simp), a2⟩, a3⟩, a4⟩, by simpa using h4 m (by simp)⟩, a6, ⟨a7, a8⟩, a9, a10⟩
   ·rw [List.pairwise_cons]; exact h2.2
   ·intro x hx
    have q1 := h4 x (by simp [hx])
    have q2 : x.id ≠ m.id := fun e => h3.1 (by rw [<- e]; exact List.mem_map_of_mem hx)
    simp [q1, q2]
theorem goodAll_eq (s : StM) : goodAll s 0 [] s.ms = msB s := by
 rw [Bool.eq_iff_iff, goodAll_iff s s.ms 0 [] (Int.le_refl 0)]
 unfold msB
 rw [Bool.and_eq_true, Bool.and_eq_true, strict_iff, decide_eq_true_eq, List.pairwise_cons]
 constructor
 ·rintro ⟨h1, ⟨_, h2⟩, h3, _⟩; exact ⟨⟨h1, h2⟩, h3⟩
 ·rintro ⟨⟨h1, h2⟩, h3⟩
  refine ⟨h1, ⟨?_, h2⟩, h3, fun m _ => by simp⟩
  intro x hx
  obtain ⟨m, hm, rfl⟩ := List.mem_map.1 hx
  have := List.all_eq_true.1 h1 m hm
  unfold msgB at this
  simp only [Bool.and_eq_true, decide_eq_true_eq] at this
  omega
theorem msgs_cells {w : World} {v : Value} {l : List MsgM} (h : IsMsgs w v l) :
  (v = .slice none 0 0 /\ l = []) ∨ ∃ b o cap, v = .slice (some ⟨b, o, none⟩) l.length cap /\ l.length <= cap /\ cap <= maxLen /\ b < w.heap.size /\ ∀ i (hi : i < l.length),
   w.cell? ⟨b, o + i * 6, none⟩ = some (.int .i64 l[i].id) /\ w.cell? ⟨b, o + i * 6 + 1, none⟩ = some (strV l[i].q) /\ w.cell? ⟨b, o + i * 6 + 2, none⟩ = some (strV l[i].b) /\
   w.cell? ⟨b, o + i * 6 + 3, none⟩ = some (.int .i64 l[i].seq) /\ w.cell? ⟨b, o + i * 6 + 4, none⟩ = some (.int .i64 l[i].cnt) /\ w.cell? ⟨b, o + i * 6 + 5, none⟩ = some (.int .i64 l[i].who) := by
 rcases h.2 with ⟨h1, h2⟩ | ⟨b, o, cap, h1, h2, h3, h4, h5⟩
 ·exact .inl ⟨h1, List.eq_nil_of_length_eq_zero h2⟩
 ·refine .inr ⟨b, o, cap, h1, h2, h3, h4, fun i hi => ?_⟩
  have g : ∀ k x, k < 6 -> (encMsg l[i])[k]? = some x -> w.cell? ⟨b, o + i * 6 + k, none⟩ = some x := fun k x hk hx => by
   have := h5 (i * 6 + k) x (by rw [flat_get encMsg 6 (fun _ => rfl) l i k hi hk]; exact hx)
   rwa [<- Nat.add_assoc] at this
  exact ⟨g 0 _ (by omega) rfl, g 1 _ (by omega) rfl, g 2 _ (by omega) rfl, g 3 _ (by omega) rfl, g 4 _ (by omega) rfl, g 5 _ (by omega) rfl⟩
end
section
open Go.RowKit Go.Maps
theorem IsBrs.shape {w : World} {v : Value} {l : List BrM} (h : IsBrs w v l) : ∃ a cap, v = .slice a l.length cap /\ l.length <= cap /\ cap <= maxLen := by
 obtain ⟨vs, h1, h2, _⟩ := h; exact CellsAt.shape h2
theorem IsPends.shape {w : World} {v : Value} {l : List PendM} (h : IsPends w v l) : ∃ a cap, v = .slice a l.length cap /\ l.length <= cap /\ cap <= maxLen := by
 obtain ⟨vs, h1, h2, _⟩ := h; exact CellsAt.shape h2
theorem IsSt.shape {w : World} {v : Value} {s : StM} (h : IsSt w v s) : ∃ am cm aw cw ae ce ao co an cn, v = stV s.broker s.nid s.nseq s.tx am s.ms.length cm aw s.waits.length cw ae s.ends.length ce ao s.opens.length co an s.noes.length cn /\
  IsMsgs w (.slice am s.ms.length cm) s.ms /\ IsBrs w (.slice aw s.waits.length cw) s.waits /\ IsEnds w (.slice ae s.ends.length ce) s.ends /\ IsPends w (.slice ao s.opens.length co) s.opens /\ IsPends w (.slice an s.noes.length cn) s.noes := by
 obtain ⟨vm, vw, ve, vo, vn, rfl, h1, h2, h3, h4, h5⟩ := h
 obtain ⟨am, cm, rfl, _⟩ := CellsAt.shape h1
 obtain ⟨aw, cw, rfl, _⟩ := h2.shape
 obtain ⟨ae, ce, rfl, _⟩ := CellsAt.shape h3
 obtain ⟨ao, co, rfl, _⟩ := h4.shape
 obtain ⟨an, cn, rfl, _⟩ := h5.shape
 exact ⟨am, cm, aw, cw, ae, ce, ao, co, an, cn, rfl, h1, h2, h3, h4, h5⟩
theorem st_pre {w : World} {v : Value} {s : StM} (h : IsSt w v s) : ∃ am cm aw cw ae ce ao co an cn nm nw ne no nn, v = .agg #[.int .i64 s.broker, .int .i64 s.nid, .int .i64 s.nseq, .int .i64 s.tx, .slice am nm cm, .slice aw nw cw, .slice ae ne ce, .slice ao no co, .slice an nn cn] /\ Hid (IsMsgs w (.slice am nm cm) s.ms) /\ Hid (s.ms.length = nm) /\ nm <= 9223372036854775807 /\ Hid (IsBrs w (.slice aw nw cw) s.waits) /\ Hid (s.waits.length = nw) /\ nw <= 9223372036854775807 /\ Hid (IsEnds w (.slice ae ne ce) s.ends) /\ Hid (s.ends.length = ne) /\ ne <= 9223372036854775807 /\ Hid (IsPends w (.slice ao no co) s.opens) /\ Hid (s.opens.length = no) /\ no <= 9223372036854775807 /\ Hid (IsPends w (.slice an nn cn) s.noes) /\ Hid (s.noes.length = nn) /\ nn <= 9223372036854775807 := by
  obtain ⟨am, cm, aw, cw, ae, ce, ao, co, an, cn, hv, h1, h2, h3, h4, h5⟩ := h.shape
  have f : ∀ n : Nat, (∃ c, n <= c /\ c <= maxLen) -> n <= 9223372036854775807 := fun n ⟨c, h1, h2⟩ => by unfold maxLen at h2; omega
  refine ⟨am, cm, aw, cw, ae, ce, ao, co, an, cn, _, _, _, _, _, hv, h1, rfl, f _ ?_, h2, rfl, f _ ?_, h3, rfl, f _ ?_, h4, rfl, f _ ?_, h5, rfl, f _ ?_⟩
  · obtain ⟨_, c, _, a, b⟩ := CellsAt.shape h1; exact ⟨c, a, b⟩
  · obtain ⟨_, c, _, a, b⟩ := IsBrs.shape h2; exact ⟨c, a, b⟩
  · obtain ⟨_, c, _, a, b⟩ := CellsAt.shape h3; exact ⟨c, a, b⟩
  · obtain ⟨_, c, _, a, b⟩ := IsPends.shape h4; exact ⟨c, a, b⟩
  · obtain ⟨_, c, _, a, b⟩ := IsPends.shape h5; exact ⟨c, a, b⟩
theorem idmap_made (w : World) : IdMap (w.alloc (.map #[] 0)) w.heap.size 0 [] :=
 ⟨⟨.map [], World.ownsMap_made _ _ _ _, fun x hx z => absurd hx (by simp), fun x _ => rfl⟩⟩
theorem mayms_any (s : StM) (hok : OkSt s) (hbr : 1 <= s.broker) (hend : strictB (s.ends.map (·.tid)) = true) (hle : s.ends.length <= 1000000000) (v : Value) (w : World) (h : IsSt w v s) :
  Calls Tryz.prog 83 #[v] w fun e w' => e = .returned (.bool (msB s)) /\ Tch No w w' := by
 have hmm := @run_makeMap Tryz.prog
 obtain ⟨am, cm, aw, cw, ae, ce, ao, co, an, cn, rfl, hms, hws, hes, _, _⟩ := h.shape
 have HMS := Lib.hid hms
 have HES := Lib.hid hes
 have HOK := Lib.hid hok
 have HBR := Lib.hid hbr
 have HE0 := Lib.hid (fun t W h => ends_any s.ends hend hle t (.slice ae s.ends.length ce) W h)
 have HE : Hid (∀ t W, Tch No w W -> Calls Tryz.prog 57 #[.slice ae s.ends.length ce, .int .i64 t] W fun e w' => e = .returned (.tuple #[.int .i64 (posP (·.tid) s.ends t : Nat), .bool (hasP (·.tid) s.ends t)]) /\ Tch No W w') := fun t W T => HE0.out t W (IsEnds.keep HES.out T)
 obtain ⟨m, hm⟩ : ∃ m, s.ms.length = m := ⟨_, rfl⟩
 have HM := Lib.hid hm
 have hml : m <= 9223372036854775807 := by
  obtain ⟨_, c, _, h1, h2⟩ := CellsAt.shape hms
  unfold maxLen at h2; omega
 have HML : Hid (m <= maxLen) := by
  obtain ⟨_, c, _, h1, h2⟩ := CellsAt.shape hms
  rw [Hid, <- hm]; exact Nat.le_trans h1 h2
 rw [hm] at HMS ⊢
 obtain ⟨res, hres⟩ : ∃ r, msB s = r := ⟨_, rfl⟩
 have HRES : Hid (goodAll s 0 [] s.ms = res) := (goodAll_eq s).trans hres
 rw [hres]
 generalize s.waits.length = nw
 generalize s.ends.length = ne at HE
 generalize s.opens.length = no
 generalize s.noes.length = nn
 clear h hms hws hes hm hok hend hle hbr hres HE0 HES
 unfold stV
 go_enter Tryz.func83, Tryz.ntmps83
 go_wp2_with fail
 go_loopg [4, 15] m (fun kx s4 s15 wr => ∃ (k : Nat) (prev : Int) (seen : List Int), s15 = .int .i64 k /\ s4 = .int .i64 prev /\ k <= m /\ m - k <= kx /\ Hid (Tch No w wr) /\ Hid (IdMap wr (w.heap.size + 1) k seen) /\
  wr.cell? ⟨w.heap.size, 0, none⟩ = some (.int .i64 s.broker) /\ wr.cell? ⟨w.heap.size, 1, none⟩ = some (.int .i64 s.nid) /\ wr.cell? ⟨w.heap.size, 2, none⟩ = some (.int .i64 s.nseq) /\ wr.cell? ⟨w.heap.size, 6, none⟩ = some (.slice ae ne ce) /\ Hid (w.heap.size + 1 < wr.heap.size) /\ Hid (goodAll s prev seen (s.ms.drop k) = res))
 case atStart =>
  refine ⟨0, 0, [], rfl, rfl, Nat.zero_le _, by omega, ?_, ?_, ?_, ?_, ?_, ?_, ?_, HRES.out⟩
  ·exact (Tch.alloc _ _).trans0 (Tch.alloc _ _)
  ·have := idmap_made (w.alloc (.cells #[.int .i64 s.broker, .int .i64 s.nid, .int .i64 s.nseq, .int .i64 s.tx, .slice am m cm, .slice aw nw cw, .slice ae ne ce, .slice ao no co, .slice an nn cn] 29))
   rw [size_alloc] at this
   exact this
  ·exact box1_cell _ _ _ _ 0 (by simp)
  ·exact box1_cell _ _ _ _ 1 (by simp)
  ·exact box1_cell _ _ _ _ 2 (by simp)
  ·exact box1_cell _ _ _ _ 6 (by simp)
  ·rw [Hid, size_alloc, size_alloc]; omega
 case round =>
  obtain ⟨k, prev, seen, rfl, rfl, hk, hgk, TT, HID, c0, c1, c2, c6, HLT, HG⟩ := hrel
  by_cases hlt : k < m
  ·have hkl : k < s.ms.length := by have := HM.out; omega
   have hb : ∃ b o, am = some ⟨b, o, none⟩ /\ wr.cell? ⟨b, o + k * 6, none⟩ = some (.int .i64 s.ms[k].id) /\ wr.cell? ⟨b, o + k * 6 + 1, none⟩ = some (strV s.ms[k].q) /\ wr.cell? ⟨b, o + k * 6 + 2, none⟩ = some (strV s.ms[k].b) /\
     wr.cell? ⟨b, o + k * 6 + 3, none⟩ = some (.int .i64 s.ms[k].seq) /\ wr.cell? ⟨b, o + k * 6 + 4, none⟩ = some (.int .i64 s.ms[k].cnt) /\ wr.cell? ⟨b, o + k * 6 + 5, none⟩ = some (.int .i64 s.ms[k].who) := by
    rcases msgs_cells HMS.out with ⟨_, h0⟩ | ⟨b, o, cap2, h1, _, _, _, h5⟩
    ·rw [h0] at hkl; simp at hkl
    ·rw [HM.out] at h1
     injection h1 with h1 _ _
     have g := h5 k hkl
     exact ⟨b, o, h1, TT.out.cell g.1 (fun h => h), TT.out.cell g.2.1 (fun h => h), TT.out.cell g.2.2.1 (fun h => h), TT.out.cell g.2.2.2.1 (fun h => h), TT.out.cell g.2.2.2.2.1 (fun h => h), TT.out.cell g.2.2.2.2.2 (fun h => h)⟩
   obtain ⟨b, o, rfl, e0, e1, e2, e3, e4, e5⟩ := hb
   have hokm := HOK.out.ms _ (List.getElem_mem hkl)
   have hdrop : s.ms.drop k = s.ms[k] :: s.ms.drop (k + 1) := List.drop_eq_getElem_cons hkl
   have HG2 := HG.out
   rw [hdrop, goodAll] at HG2
   obtain ⟨mm, hmm2⟩ : ∃ x, s.ms[k] = x := ⟨_, rfl⟩
   rw [hmm2] at e0 e1 e2 e3 e4 e5 hokm HG2
   obtain ⟨id, tq, tb, seq, cnt, who⟩ := mm
   simp only at e0 e1 e2 e3 e4 e5 HG2
   obtain ⟨o1, o2, o3, o4, o5, o6⟩ := hokm
   simp only at o1 o2 o3 o4 o5 o6
   have HP := Lib.hid (fun W => kput_t ⟨tq, tb⟩ ⟨o2, o3⟩ W)
   simp only at HP
   obtain ⟨xq, hxq⟩ : ∃ x, strV tq = x := ⟨_, rfl⟩
   obtain ⟨xb, hxb⟩ : ∃ x, strV tb = x := ⟨_, rfl⟩
   rw [hxq] at e1 HP
   rw [hxb] at e2 HP
   obtain ⟨sq, hsq⟩ : ∃ z, xq = .string z := ⟨_, hxq.symm⟩
   obtain ⟨sb, hsb⟩ : ∃ z, xb = .string z := ⟨_, hxb.symm⟩
   subst hsq hsb
   have HG3 := Lib.hid HG2
   have HH := Lib.hid (fun W => khome_any id o1 W)
   have HT := Lib.hid (fun W => ktid_any who o6 W)
   have HEw := Lib.hid (fun W T => HE.out who W T)
   have HO1 := Lib.hid o1
   have n0 : wr.heap.size ≠ w.heap.size := World.new_ne wr _ c0
   have d6 := (Tch.alloc wr (.cells #[.int .i64 id, .string sq, .string sb, .int .i64 seq, .int .i64 cnt, .int .i64 who] 50)).cell c6 (fun h => h)
   clear HG HG2 hdrop hmm2 hxq hxb o1 o2 o3 o4 o5 o6
   go_upto_region 7 with (go_at_call 57; go_must (refine (HEw.out _ (TT.out.trans0 (Tch.alloc _ _))).mono ?_); rintro e w3 ⟨rfl, T3⟩; have f0 := T3.cell ((Tch.alloc wr _).cell c0 (fun h => h)) (fun h => h); have f1 := T3.cell ((Tch.alloc wr _).cell c1 (fun h => h)) (fun h => h); have f2 := T3.cell ((Tch.alloc wr _).cell c2 (fun h => h)) (fun h => h); have f6 := T3.cell ((Tch.alloc wr _).cell c6 (fun h => h)) (fun h => h); have g0 := T3.cell (box_cell _ _ _ 0 (by simp)) (fun h => h); have g1 := T3.cell (box_cell _ _ _ 1 (by simp)) (fun h => h); have g2 := T3.cell (box_cell _ _ _ 2 (by simp)) (fun h => h); have g3 := T3.cell (box_cell _ _ _ 3 (by simp)) (fun h => h); have g4 := T3.cell (box_cell _ _ _ 4 (by simp)) (fun h => h); have g5 := T3.cell (box_cell _ _ _ 5 (by simp)) (fun h => h))
   have TT3 : Hid (Tch No wr w3) := (Tch.alloc _ _).trans0 T3
   obtain ⟨mk, hmk⟩ : ∃ x, wr.heap.size = x := ⟨_, rfl⟩
   rw [hmk] at g0 g1 g2 g3 g4 g5 ⊢
   have HMK := Lib.hid hmk
   have HID3 : Hid (IdMap w3 (w.heap.size + 1) k seen) := HID.out.tch TT3.out (fun h => h)
   clear T3 d6 n0 e0 e1 e2 e3 e4 e5 c0 c1 c2 c6 hmk hmm HEw
   unfold goodM at HG3
   simp only at HG3
   generalize hasP (fun x : EndM => x.tid) s.ends who = ov at HG3 ⊢
   obtain ⟨pl, hpl⟩ : ∃ x, ((((decide (prev < seq) && decide (seq < s.nseq)) && decide (homeM id = s.broker)) && decide (id % 4294967296 < s.nid)) && !seen.contains id) = x := ⟨_, rfl⟩
   obtain ⟨by_, hby⟩ : ∃ x, (decide (who = 0) || (tidB who && !ov)) = x := ⟨_, rfl⟩
   have HG4 : Hid (((pl && (by_ && (putB ⟨tq, tb⟩ && (decide (0 <= cnt) && decide (cnt <= 1000))))) && goodAll s seq (seen ++ [id]) (s.ms.drop (k + 1))) = res) := by
    rw [<- hpl, <- hby]
    exact HG3.out
   have HPL := Lib.hid hpl
   have HBY := Lib.hid hby
   clear HG3 hpl hby
   go_cut [9] from 27 to 60 (fun s9 wx => s9 = .bool pl /\ Hid (Tch No w3 wx))
   case first =>
    have t0 : ∀ p : TchW w3, p.wo.cell? ⟨w.heap.size, 0, none⟩ = some (.int .i64 s.broker) := fun p => p.cell f0
    have t1 : ∀ p : TchW w3, p.wo.cell? ⟨w.heap.size, 1, none⟩ = some (.int .i64 s.nid) := fun p => p.cell f1
    have t2 : ∀ p : TchW w3, p.wo.cell? ⟨w.heap.size, 2, none⟩ = some (.int .i64 s.nseq) := fun p => p.cell f2
    have r0 : ∀ p : TchW w3, p.wo.cell? ⟨mk, 0, none⟩ = some (.int .i64 id) := fun p => p.cell g0
    have r3 : ∀ p : TchW w3, p.wo.cell? ⟨mk, 3, none⟩ = some (.int .i64 seq) := fun p => p.cell g3
    have hlk : ∀ p : TchW w3, (Instr.lookup 123 (.map (some (w.heap.size + 1))) (.int .i64 id) false).run Tryz.prog p.wo = .ok (.bool (seen.contains id)) p.wo := fun p => (HID3.out.tch p.t (fun h => h)).look HO1.out
    have HLK := Lib.hid hlk
    clear f0 f1 f2 f6 g0 g1 g2 g3 g4 g5 hlk
    obtain ⟨hm, hhm⟩ : ∃ x, homeM id = x := ⟨_, rfl⟩
    have HHM := Lib.hid hhm
    rw [hhm] at HH
    clear hhm
    cases d1 : decide (prev < seq) with
    | false =>
     have hp : Hid (pl = false) := by rw [Hid, <- HPL.out]; simp [d1]
     refine wp_region_qt (by kernel_rfl) (by kernel_rfl) ?_
     repeat
      with_reducible refine wpQuiet_step (fun K hK => ?_)
      go_simp
      first
       | (with_reducible refine hK _ ?_; clear hK K)
       | (rw [if_neg (by decide)]; with_reducible refine hK _ ?_; clear hK K)
       | (apply Exists.intro; with_reducible refine ⟨fun _ => ?_, hK _ ?_⟩; ((go_at_call 170; exact qt_s (HH.out _))); clear hK K)
     with_reducible refine wpQuiet_nil ?_
     rintro _ ⟨pq, rfl⟩
     go_wp2_with fail
     go_meet
     exact ⟨by rw [hp.out], pq.t⟩
    | true =>
     cases d2 : decide (seq < s.nseq) with
     | false =>
      have hp : Hid (pl = false) := by rw [Hid, <- HPL.out]; simp [d1, d2]
      refine wp_region_qt (by kernel_rfl) (by kernel_rfl) ?_
      repeat
       with_reducible refine wpQuiet_step (fun K hK => ?_)
       go_simp
       first
        | (with_reducible refine hK _ ?_; clear hK K)
        | (rw [if_neg (by decide)]; with_reducible refine hK _ ?_; clear hK K)
        | (apply Exists.intro; with_reducible refine ⟨fun _ => ?_, hK _ ?_⟩; ((go_at_call 170; exact qt_s (HH.out _))); clear hK K)
      with_reducible refine wpQuiet_nil ?_
      rintro _ ⟨pq, rfl⟩
      go_wp2_with fail
      go_meet
      exact ⟨by rw [hp.out], pq.t⟩
     | true =>
      cases d3 : (hm == s.broker) with
      | false =>
       have D3 : ¬ homeM id = s.broker := by rw [HHM.out]; simpa using d3
       have D3H := Lib.hid D3
       clear D3
       have hp : Hid (pl = false) := by rw [Hid, <- HPL.out]; simp [D3H.out]
       refine wp_region_qt (by kernel_rfl) (by kernel_rfl) ?_
       repeat
        with_reducible refine wpQuiet_step (fun K hK => ?_)
        go_simp
        first
         | (with_reducible refine hK _ ?_; clear hK K)
         | (rw [if_neg (by decide)]; with_reducible refine hK _ ?_; clear hK K)
         | (apply Exists.intro; with_reducible refine ⟨fun _ => ?_, hK _ ?_⟩; ((go_at_call 170; exact qt_s (HH.out _))); clear hK K)
       with_reducible refine wpQuiet_nil ?_
       rintro _ ⟨pq, rfl⟩
       go_wp2_with fail
       go_meet
       exact ⟨by rw [hp.out], pq.t⟩
      | true =>
       have d3p : hm = s.broker := by simpa using d3
       have D3 : Hid (homeM id = s.broker) := HHM.out.trans d3p
       have hq := home_pos D3.out HBR.out
       have htm : id.tmod 4294967296 = id % 4294967296 := Int.tmod_eq_emod_of_nonneg (by have := HBR.out; omega)
       obtain ⟨lw, hlw⟩ : ∃ x, id % 4294967296 = x := ⟨_, rfl⟩
       rw [hlw] at htm hq
       have hwr : IntKind.i64.wrap lw = lw := IntWalk.i64_in _ (by omega)
       have HLW := Lib.hid hlw
       clear d3p hq hlw
       cases d4 : decide (lw < s.nid) with
       | false =>
        have D4 : Hid (decide (id % 4294967296 < s.nid) = false) := by rw [Hid, HLW.out]; exact d4
        have hp : Hid (pl = false) := by rw [Hid, <- HPL.out]; simp [D3.out, D4.out]
        refine wp_region_qt (by kernel_rfl) (by kernel_rfl) ?_
        repeat
         with_reducible refine wpQuiet_step (fun K hK => ?_)
         go_simp
         first
          | (with_reducible refine hK _ ?_; clear hK K)
          | (rw [if_neg (by decide)]; with_reducible refine hK _ ?_; clear hK K)
          | (apply Exists.intro; with_reducible refine ⟨fun _ => ?_, hK _ ?_⟩; ((go_at_call 170; exact qt_s (HH.out _))); clear hK K)
        with_reducible refine wpQuiet_nil ?_
        rintro _ ⟨pq, rfl⟩
        go_wp2_with fail
        go_meet
        exact ⟨by rw [hp.out], pq.t⟩
       | true =>
        have D4 : Hid (decide (id % 4294967296 < s.nid) = true) := by rw [Hid, HLW.out]; exact d4
        have hlk := HLK.out
        cases d5 : seen.contains id with
        | false =>
         rw [d5] at hlk
         have D5 := Lib.hid d5
         clear d5
         have hp : Hid (pl = true) := by rw [Hid, <- HPL.out, d1, d2, D4.out, D5.out, decide_eq_true D3.out]; rfl
         refine wp_region_qt (by kernel_rfl) (by kernel_rfl) ?_
         repeat
          with_reducible refine wpQuiet_step (fun K hK => ?_)
          go_simp
          first
           | (with_reducible refine hK _ ?_; clear hK K)
           | (rw [if_neg (by decide)]; with_reducible refine hK _ ?_; clear hK K)
           | (apply Exists.intro; with_reducible refine ⟨fun _ => ?_, hK _ ?_⟩; ((go_at_call 170; exact qt_s (HH.out _))); clear hK K)
         with_reducible refine wpQuiet_nil ?_
         rintro _ ⟨pq, rfl⟩
         go_wp2_with fail
         go_meet
         exact ⟨by rw [hp.out], pq.t⟩
        | true =>
         rw [d5] at hlk
         have D5 := Lib.hid d5
         clear d5
         have hp : Hid (pl = false) := by rw [Hid, <- HPL.out]; simp [(by simpa using D5.out : id ∈ seen)]
         refine wp_region_qt (by kernel_rfl) (by kernel_rfl) ?_
         repeat
          with_reducible refine wpQuiet_step (fun K hK => ?_)
          go_simp
          first
           | (with_reducible refine hK _ ?_; clear hK K)
           | (rw [if_neg (by decide)]; with_reducible refine hK _ ?_; clear hK K)
           | (apply Exists.intro; with_reducible refine ⟨fun _ => ?_, hK _ ?_⟩; ((go_at_call 170; exact qt_s (HH.out _))); clear hK K)
         with_reducible refine wpQuiet_nil ?_
         rintro _ ⟨pq, rfl⟩
         go_wp2_with fail
         go_meet
         exact ⟨by rw [hp.out], pq.t⟩
   case rest =>
    obtain ⟨rfl, T5⟩ := hcut
    have h0 := T5.out.cell f0 (fun h => h)
    have h1 := T5.out.cell f1 (fun h => h)
    have h2 := T5.out.cell f2 (fun h => h)
    have h6 := T5.out.cell f6 (fun h => h)
    have i0 := T5.out.cell g0 (fun h => h)
    have i1 := T5.out.cell g1 (fun h => h)
    have i2 := T5.out.cell g2 (fun h => h)
    have i3 := T5.out.cell g3 (fun h => h)
    have i4 := T5.out.cell g4 (fun h => h)
    have i5 := T5.out.cell g5 (fun h => h)
    have HID5 : Hid (IdMap wc (w.heap.size + 1) k seen) := HID3.out.tch T5.out (fun h => h)
    have TT5 : Hid (Tch No wr wc) := TT3.out.trans0 T5.out
    clear f0 f1 f2 f6 g0 g1 g2 g3 g4 g5 T5 HID3 TT3 HPL HH
    obtain ⟨w8, hw8⟩ : ∃ x, x = wc := ⟨_, rfl⟩
    subst hw8
    go_upto_region 8 with fail
    go_cut [10] from 61 to 72 (fun s10 wx => s10 = .bool by_ /\ wx = w8)
    case first =>
     by_cases hw0 : who = 0
     ·have hw1 : (who == 0) = true := by simpa using hw0
      have hp : Hid (by_ = true) := by rw [Hid, <- HBY.out]; simp [hw0]
      clear hw0
      go_wp2_with fail
      go_meet
      exact ⟨by rw [hp.out], rfl⟩
     ·have hw1 : (who == 0) = false := by simpa using hw0
      have hp0 : Hid (by_ = (tidB who && !ov)) := by rw [Hid, <- HBY.out]; simp [hw0]
      clear hw0
      generalize tidB who = tb2 at HT hp0
      clear HBY
      cases tb2 with
      | false =>
       have hp : Hid (by_ = false) := hp0.out
       go_wp2_with (go_at_call 159; refine (HT.out _).mono ?_; rintro e w' ⟨rfl, rfl⟩)
       go_meet
       exact ⟨by rw [hp.out], rfl⟩
      | true =>
       have hp : Hid (by_ = !ov) := hp0.out
       go_wp2_with (go_at_call 159; refine (HT.out _).mono ?_; rintro e w' ⟨rfl, rfl⟩)
       go_meet
       exact ⟨by rw [hp.out], rfl⟩
    case rest =>
     obtain ⟨rfl, rfl⟩ := hcut
     clear HBY HT
     generalize putB ⟨tq, tb⟩ = pb at HG4 HP
     have HB := Lib.hid (fun W => between_any cnt 0 1000 W)
     generalize (decide ((0 : Int) <= cnt) && decide (cnt <= 1000)) = cb at HG4 HB
     cases pl with
     | false =>
      have HE2 : Hid (res = false) := by rw [Hid, <- HG4.out]; simp
      go_wp2_with fail
      go_ret
      exact ⟨ret_b HE2.out.symm, TT.out.trans0 TT5.out⟩
     | true =>
     cases by_ with
     | false =>
      have HE2 : Hid (res = false) := by rw [Hid, <- HG4.out]; simp
      go_wp2_with fail
      go_ret
      exact ⟨ret_b HE2.out.symm, TT.out.trans0 TT5.out⟩
     | true =>
     cases pb with
     | false =>
      have HE2 : Hid (res = false) := by rw [Hid, <- HG4.out]; simp
      go_wp2_with (go_at_call 162; refine (HP.out _).mono ?_; rintro e w9 ⟨rfl, T9⟩)
      go_ret
      exact ⟨ret_b HE2.out.symm, (TT.out.trans0 TT5.out).trans0 T9⟩
     | true =>
     cases cb with
     | false =>
      have HE2 : Hid (res = false) := by rw [Hid, <- HG4.out]; simp
      go_wp2_with (first
       | (go_at_call 162; refine (HP.out _).mono ?_; rintro e w9 ⟨rfl, T9⟩; have j4 := T9.cell i4 (fun h => h))
       | (go_at_call 75; refine (HB.out _).mono ?_; rintro e w' ⟨rfl, rfl⟩))
      go_ret
      exact ⟨ret_b HE2.out.symm, (TT.out.trans0 TT5.out).trans0 T9⟩
     | true =>
      have HE2 : Hid (goodAll s seq (seen ++ [id]) (s.ms.drop (k + 1)) = res) := by rw [Hid, <- HG4.out]; simp
      go_upto_region 11 with (first
       | (go_at_call 162; refine (HP.out _).mono ?_; rintro e w9 ⟨rfl, T9⟩; have j4 := T9.cell i4 (fun h => h); have j0 := T9.cell i0 (fun h => h); have j3 := T9.cell i3 (fun h => h))
       | (go_at_call 75; refine (HB.out _).mono ?_; rintro e w' ⟨rfl, rfl⟩))
      have HID9 : Hid (IdMap w9.drew (w.heap.size + 1) k seen) := (HID5.out.tch T9 (fun h => h)).tch (Tch.drew w9) (fun h => h)
      obtain ⟨wz, hrun, hidz, tz⟩ := HID9.out.put HO1.out (Nat.lt_of_lt_of_le hlt HML.out)
      have T99 := Lib.hid T9
      have HIDZ := Lib.hid hidz
      have TZ := Lib.hid tz
      clear T9 hidz tz i0 i1 i2 i3 i4 i5 j4
      go_region
      have TW : Hid (Tch No w wz) := (((TT.out.trans0 TT5.out).trans0 T99.out).trans0 (Tch.drew w9)).fresh TZ.out (fun i hi => by rw [hi]; omega)
      have b0 := TZ.out.cell (T99.out.cell h0 (fun h => h)) (fun h => by have : w.heap.size = w.heap.size + 1 := h; omega)
      have b1 := TZ.out.cell (T99.out.cell h1 (fun h => h)) (fun h => by have : w.heap.size = w.heap.size + 1 := h; omega)
      have b2 := TZ.out.cell (T99.out.cell h2 (fun h => h)) (fun h => by have : w.heap.size = w.heap.size + 1 := h; omega)
      have b6 := TZ.out.cell (T99.out.cell h6 (fun h => h)) (fun h => by have : w.heap.size = w.heap.size + 1 := h; omega)
      have HSZ : Hid (w.heap.size + 1 < wz.heap.size) := by
       have q1 := TT5.out.size
       have q2 := T99.out.size
       have q3 := TZ.out.size
       have q4 := HLT.out
       have q5 : w9.drew.heap.size = w9.heap.size := rfl
       rw [Hid]; omega
      clear hrun h0 h1 h2 h6 j0 j3
      go_wp2_with fail
      go_roundg (m - (k + 1))
      case measure => omega
      case rel => exact ⟨k + 1, seq, seen ++ [id], by go_num, rfl, by omega, by omega, TW, HIDZ, b0, b1, b2, b6, HSZ, HE2⟩
  ·obtain rfl : k = m := by omega
   have HE2 : Hid (res = true) := by
    have := HG.out
    rw [List.drop_of_length_le (by have := HM.out; omega)] at this
    exact this.symm
   clear hgk hlt hk
   go_wp2_with fail
   go_ret
   exact ⟨ret_b HE2.out.symm, TT.out⟩
end
end Go.Proofs.YtafndmnbnmlklaaGreat
