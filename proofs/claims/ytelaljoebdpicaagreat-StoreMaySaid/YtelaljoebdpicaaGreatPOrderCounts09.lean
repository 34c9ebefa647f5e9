/- Part 9 of what the proof of OrderCounts rests on. No condition. -/
import Derived.StringKeys
import Derived.Test.YtelaljoebdpicaaGreatPOrderCounts08
namespace Go.Proofs.YtelaljoebdpicaaGreat
set_option maxRecDepth 100000
set_option maxHeartbeats 60000000
set_option linter.unusedVariables false
set_option linter.unusedSimpArgs false
set_option linter.unusedSectionVars false
section
open Go.RowKit Go.Maps
theorem size_alloc (w : World) (o : Obj) : (w.alloc o).heap.size = w.heap.size + 1 := by simp
theorem box1_cell (w : World) (cs : Array Value) (t : TypeId) (o : Obj) (i : Nat) (hi : i < cs.size) : ((w.alloc (.cells cs t)).alloc o).cell? ⟨w.heap.size, i, none⟩ = some cs[i] :=
 (Tch.alloc _ o).cell (box_cell w cs t i hi) (fun h => h)
theorem box2_cell (w : World) (cs : Array Value) (t : TypeId) (o : Obj) (i : Nat) (hi : i < cs.size) : ((w.alloc o).alloc (.cells cs t)).cell? ⟨w.heap.size + 1, i, none⟩ = some cs[i] := by
 have := box_cell (w.alloc o) cs t i hi
 rwa [size_alloc] at this
def stV (br nid nseq tx : Int) (am : Option Addr) (nm cm : Nat) (aw : Option Addr) (nw cw : Nat) (ae : Option Addr) (ne ce : Nat) (ao : Option Addr) (no co : Nat) (an : Option Addr) (nn cn : Nat) : Value :=
 .agg #[.int .i64 br, .int .i64 nid, .int .i64 nseq, .int .i64 tx, .slice am nm cm, .slice aw nw cw, .slice ae ne ce, .slice ao no co, .slice an nn cn]
theorem maypend_any (br nid nseq tx : Int) (am : Option Addr) (nm cm : Nat) (aw : Option Addr) (nw cw : Nat) (ae : Option Addr) (ne ce : Nat) (ao : Option Addr) (no co : Nat) (an : Option Addr) (nn cn : Nat) (tid : Int) (parts : List Int) (vp : Value) (hti : I64 tid) (hpi : ∀ x ∈ parts, I64 x) (w : World) (hp : IsInts w vp parts) :
  Calls Tryz.prog 137 #[stV br nid nseq tx am nm cm aw nw cw ae ne ce ao no co an nn cn, .agg #[.int .i64 tid, vp]] w fun e w' => e = .returned (.bool ((recB ⟨6, tid, 0, false, parts, []⟩ && decide (homeM tid = br)) && !parts.contains br)) /\ Tch No w w' := by
 have HR : Hid (∀ W, Tch No w W -> Calls Tryz.prog 73 #[.agg #[.int .i64 6, .int .i64 tid, .int .i64 0, .bool false, vp, .slice none 0 0]] W fun e w' => e = .returned (.bool (recB ⟨6, tid, 0, false, parts, []⟩)) /\ Tch No W w') :=
  fun W T => krecord_any ⟨6, tid, 0, false, parts, []⟩ ⟨(show I64 (6 : Int) from ⟨by decide, by decide⟩), hti, (show I64 (0 : Int) from ⟨by decide, by decide⟩), hpi, fun p h => by cases h⟩ _ W ⟨vp, _, rfl, hp.keep T, CellsAt.nil _ _⟩
 have HH := Lib.hid (fun W => khome_any tid hti W)
 obtain ⟨ap, cp, hvp, _, _⟩ := CellsAt.shape hp
 generalize parts.length = np at hvp
 subst hvp
 have HC : Hid (∀ (p : TchW w), Calls Tryz.prog 147 #[.slice ap np cp, .int .i64 br] p.wo fun e w' => e = .returned (.bool (parts.contains br)) /\ p.wo = w') := fun p => contains_any parts br _ _ (hp.keep p.t)
 generalize parts.contains br = qc at HC ⊢
 generalize recB ⟨6, tid, 0, false, parts, []⟩ = qr at HR ⊢
 obtain ⟨hm, hhm⟩ : ∃ x, homeM tid = x := ⟨_, rfl⟩
 rw [hhm] at HH ⊢
 clear hp hti hpi hhm
 unfold stV
 go_enter Tryz.func137, Tryz.ntmps137
 go_upto_region 2 with (go_at_call 73; refine (HR.out _ ((Tch.alloc _ _).trans0 (Tch.alloc _ _))).mono ?_; rintro e w2 ⟨rfl, T2⟩; have d0 := T2.cell (box1_cell _ _ _ _ 0 (by simp)) (fun h => h); have d1 := T2.cell (box2_cell _ _ _ _ 0 (by simp)) (fun h => h); have d2 := T2.cell (box2_cell _ _ _ _ 1 (by simp)) (fun h => h))
 have TT : Hid (Tch No w w2) := ((Tch.alloc _ _).trans0 (Tch.alloc _ _)).trans0 T2
 have c0 : ∀ p : TchW w2, p.wo.cell? ⟨w.heap.size, 0, none⟩ = some (.int .i64 br) := fun p => p.cell d0
 have c1 : ∀ p : TchW w2, p.wo.cell? ⟨w.heap.size + 1, 0, none⟩ = some (.int .i64 tid) := fun p => p.cell d1
 have c2 : ∀ p : TchW w2, p.wo.cell? ⟨w.heap.size + 1, 1, none⟩ = some (.slice ap np cp) := fun p => p.cell d2
 have HC2 : Hid (∀ (p : TchW w2), Calls Tryz.prog 147 #[.slice ap np cp, .int .i64 br] p.wo fun e w' => e = .returned (.bool qc) /\ p.wo = w') := fun p => HC.out ⟨p.wo, TT.out.trans0 p.t⟩
 clear T2 d0 d1 d2 HC HR
 cases qr with
 | false =>
  refine wp_region_qt (by kernel_rfl) (by kernel_rfl) ?_
  repeat
   with_reducible refine wpQuiet_step (fun K hK => ?_)
   go_simp
   first
    | (with_reducible refine hK _ ?_; clear hK K)
    | (rw [if_neg (by decide)]; with_reducible refine hK _ ?_; clear hK K)
    | (apply Exists.intro; with_reducible refine ⟨fun _ => ?_, hK _ ?_⟩; (first | (go_at_call 134; exact qt_s (HH.out _)) | (go_at_call 147; exact qt_s (HC2.out _))); clear hK K)
  with_reducible refine wpQuiet_nil ?_
  rintro _ ⟨pq, rfl⟩
  go_wp2_with fail
  go_ret
  exact ⟨ret_b rfl, TT.out.trans0 pq.t⟩
 | true =>
  by_cases hb : hm = br
  ·have hd : (hm == br) = true := by simpa using hb
   have hd2 : Hid (decide (hm = br) = true) := by simpa [Hid] using hb
   clear hb
   refine wp_region_qt (by kernel_rfl) (by kernel_rfl) ?_
   repeat
    with_reducible refine wpQuiet_step (fun K hK => ?_)
    go_simp
    first
     | (with_reducible refine hK _ ?_; clear hK K)
     | (rw [if_neg (by decide)]; with_reducible refine hK _ ?_; clear hK K)
     | (apply Exists.intro; with_reducible refine ⟨fun _ => ?_, hK _ ?_⟩; (first | (go_at_call 134; exact qt_s (HH.out _)) | (go_at_call 147; exact qt_s (HC2.out _))); clear hK K)
   with_reducible refine wpQuiet_nil ?_
   rintro _ ⟨pq, rfl⟩
   go_wp2_with fail
   go_ret
   exact ⟨ret_b (by rw [hd2.out]; rfl), TT.out.trans0 pq.t⟩
  ·have hd : (hm == br) = false := by simpa using hb
   have hd2 : Hid (decide (hm = br) = false) := by simpa [Hid] using hb
   clear hb
   refine wp_region_qt (by kernel_rfl) (by kernel_rfl) ?_
   repeat
    with_reducible refine wpQuiet_step (fun K hK => ?_)
    go_simp
    first
     | (with_reducible refine hK _ ?_; clear hK K)
     | (rw [if_neg (by decide)]; with_reducible refine hK _ ?_; clear hK K)
     | (apply Exists.intro; with_reducible refine ⟨fun _ => ?_, hK _ ?_⟩; (first | (go_at_call 134; exact qt_s (HH.out _)) | (go_at_call 147; exact qt_s (HC2.out _))); clear hK K)
   with_reducible refine wpQuiet_nil ?_
   rintro _ ⟨pq, rfl⟩
   go_wp2_with fail
   go_ret
   exact ⟨ret_b (by rw [hd2.out]; rfl), TT.out.trans0 pq.t⟩
end
section
open Go.RowKit Go.Maps
abbrev DtB := DataW Unit
def truR : Value -> Option (DtB × List MemPlace)
 | .bool b => some (.lit (.bool b), [])
 | _ => none
theorem truR_b (b : Bool) : truR (.bool b) = some (.lit (.bool b), []) := rfl
theorem truR_inv {v : Value} {b : Bool} {ps : List MemPlace} (h : truR v = some (.lit (.bool b), ps)) : v = .bool b := by
 unfold truR at h
 split at h
 ·simp at h; rw [h.1]
 ·cases h
theorem lawI : Keyed Tryz.prog 2 := int_keyed Tryz.underlying2
theorem isKeyI {x : Int} : WideAt.IsKeyLit (.int .i64 x) := by simp [WideAt.IsKeyLit]
theorem tch_turn {w w' : World} {mb : Nat} (hg : w.grownBy w' (some mb)) : Tch (fun k => k = mb) w w' := Tch.grown hg (fun k hk _ => by injection hk with hk; exact hk.symm)
structure IdMap (w : World) (mb : Nat) (n : Nat) (ids : List Int) : Prop where
 map : ∃ D, w.ownsMap Tryz.prog 2 truR mb n D /\ (∀ x : Int, x ∈ ids -> ∀ z, D.atKey (.int .i64 x) z = .lit (.bool true)) /\ (∀ x : Int, x ∉ ids -> Maps.has D (.int .i64 x) = false)
theorem IdMap.tch {F : Nat -> Prop} {w w' : World} {mb n : Nat} {ids : List Int} (h : IdMap w mb n ids) (t : Tch F w w') (hF : ¬ F mb) : IdMap w' mb n ids := by
 obtain ⟨D, ⟨es, clock, hb, F', hs, hD⟩, h2⟩ := h.map
 exact ⟨D, ⟨es, clock, blk_tch t hb hF, F', hs, hD⟩, h2⟩
theorem i64_wf {x : Int} (h : I64 x) : (Lit.int .i64 x).wf = true := by
 unfold I64 at h
 have e1 : IntKind.i64.min = -9223372036854775808 := by decide
 have e2 : IntKind.i64.max = 9223372036854775807 := by decide
 rw [Lit.wf, e1, e2, Bool.and_eq_true, decide_eq_true_eq, decide_eq_true_eq]
 exact h
theorem IdMap.look {w : World} {mb n : Nat} {ids : List Int} (h : IdMap w mb n ids) {x : Int} (hx : I64 x) :
  (Instr.lookup 154 (.map (some mb)) (.int .i64 x) false).run Tryz.prog w = .ok (.bool (ids.contains x)) w := by
 obtain ⟨D, hm, h1, h2⟩ := h.map
 obtain ⟨v, ps, hrun, hv⟩ := hm.lookup lawI Tryz.underlying154 (z := .bool false) (by kernel_rfl) (truR_b false) (keyOf_int_mk Tryz.underlying2 (i64_wf hx))
 rw [hrun]
 by_cases hc : x ∈ ids
 ·rw [h1 x hc] at hv
  rw [truR_inv hv]
  simp [hc]
 ·rw [atKey_of_not_has (h2 x hc)] at hv
  rw [truR_inv hv]
  simp [hc]
theorem IdMap.put {w : World} {mb n : Nat} {ids : List Int} (h : IdMap w mb n ids) {x : Int} (hx : I64 x) (hn : n < maxLen) :
  ∃ w', (Instr.mapUpdate 154 (.map (some mb)) (.int .i64 x) (.bool true)).run Tryz.prog w = .ok () w' /\ IdMap w' mb (n + 1) (ids ++ [x]) /\ Tch (fun k => k = mb) w w' := by
 obtain ⟨D, hm, h1, h2⟩ := h.map
 obtain ⟨w', hrun, hown, hg⟩ := hm.update lawI Tryz.underlying154 hn (keyOf_int_mk Tryz.underlying2 (i64_wf hx)) (val := .bool true) (truR_b true)
 have ht : Tch (fun k => k = mb) w w' := tch_turn hg
 refine ⟨w', hrun, ⟨_, hown, ?_, ?_⟩, ht⟩
 ·intro y hy z
  by_cases e : y = x
  ·subst e; exact atKey_put_same hm.isMap isKeyI _ _
  ·rw [atKey_put_other (fun e2 => e (by injection e2))]
   exact h1 y (by simpa [e] using hy) z
 ·intro y hy
  have hy2 : y ∉ ids /\ y ≠ x := by simpa using hy
  rw [has_put_other (fun e2 => hy2.2 (by injection e2))]
  exact h2 y hy2.1
def goodM (s : StM) (prev : Int) (seen : List Int) (m : MsgM) : Bool :=
 ((((decide (prev < m.seq) && decide (m.seq < s.nseq)) && decide (homeM m.id = s.broker)) && decide (m.id % 4294967296 < s.nid)) && !seen.contains m.id) &&
 ((decide (m.who = 0) || (tidB m.who && !hasP (·.tid) s.ends m.who)) && (putB ⟨m.q, m.b⟩ && (decide (0 <= m.cnt) && decide (m.cnt <= 1000))))
def goodAll (s : StM) (prev : Int) (seen : List Int) : List MsgM -> Bool
 | [] => true
 | m :: r => goodM s prev seen m && goodAll s m.seq (seen ++ [m.id]) r
theorem goodAll_iff (s : StM) : ∀ (l : List MsgM) (prev : Int) (seen : List Int), 0 <= prev -> (goodAll s prev seen l = true ↔ l.all (msgB s) = true /\ (prev :: l.map (·.seq)).Pairwise (· < ·) /\ (l.map (·.id)).Nodup /\ ∀ m ∈ l, m.id ∉ seen)
 | [], prev, seen, h => by simp [goodAll]
 | m :: r, prev, seen, h => by
  rw [goodAll, Bool.and_eq_true]
  constructor
  ·rintro ⟨h1, h2⟩
   unfold goodM at h1
   simp only [Bool.and_eq_true, decide_eq_true_eq, Bool.not_eq_true', putB] at h1
   obtain ⟨⟨⟨⟨⟨a1, a2⟩, a3⟩, a4⟩, a5⟩, a6, ⟨a7, a8⟩, a9, a10⟩ := h1
   obtain ⟨b1, b2, b3, b4⟩ := (goodAll_iff s r m.seq (seen ++ [m.id]) (by omega)).1 h2
   rw [List.pairwise_cons] at b2
   refine ⟨?_, ?_, ?_, ?_⟩
   ·rw [List.all_cons, Bool.and_eq_true]
    refine ⟨?_, b1⟩
    unfold msgB
    simp only [Bool.and_eq_true, decide_eq_true_eq]
    exact ⟨⟨⟨⟨⟨⟨⟨by omega, a2⟩, a3⟩, a4⟩, a7⟩, a8⟩, a9, a10⟩, a6⟩
   ·rw [List.map_cons, List.pairwise_cons, List.pairwise_cons]
    refine ⟨?_, b2⟩
    intro x hx
    rcases List.mem_cons.1 hx with rfl | hx
    ·exact a1
    ·have := b2.1 x hx; omega
   ·rw [List.map_cons, List.nodup_cons]
    refine ⟨?_, b3⟩
    intro hm
    obtain ⟨x, hx, e⟩ := List.mem_map.1 hm
    exact b4 x hx (by simp [e])
   ·intro x hx
    rcases List.mem_cons.1 hx with rfl | hx
    ·simpa using a5
    ·intro hs; exact b4 x hx (by simp [hs])
  ·rintro ⟨h1, h2, h3, h4⟩
   rw [List.all_cons, Bool.and_eq_true] at h1
   obtain ⟨h1, h1'⟩ := h1
   unfold msgB at h1
   simp only [Bool.and_eq_true, decide_eq_true_eq] at h1
   obtain ⟨⟨⟨⟨⟨⟨⟨a0, a2⟩, a3⟩, a4⟩, a7⟩, a8⟩, a9, a10⟩, a6⟩ := h1
   rw [List.map_cons, List.pairwise_cons, List.pairwise_cons] at h2
   rw [List.map_cons, List.nodup_cons] at h3
   refine ⟨?_, (goodAll_iff s r m.seq (seen ++ [m.id]) (by omega)).2 ⟨h1', ?_, h3.2, ?_⟩⟩
   ·unfold goodM
    simp only [Bool.and_eq_true, decide_eq_true_eq, Bool.not_eq_true', putB]
    exact ⟨⟨⟨⟨⟨h2.1 _ (by simp), a2⟩, a3⟩, a4⟩, by simpa using h4 m (by simp)⟩, a6, ⟨a7, a8⟩, a9, a10⟩
   ·rw [List.pairwise_cons]; exact h2.2
   ·intro x hx
    have q1 := h4 x (by simp [hx])
    have q2 : x.id ≠ m.id := fun e => h3.1 (by rw [<- e]; exact List.mem_map_of_mem hx)
    simp [q1, q2]
theorem goodAll_eq (s : StM) : goodAll s 0 [] s.ms = msB s := by
 rw [Bool.eq_iff_iff, goodAll_iff s s.ms 0 [] (Int.le_refl 0)]
 unfold msB
 rw [Bool.and_eq_true, Bool.and_eq_true, strict_iff, decide_eq_true_eq, List.pairwise_cons]
 constructor
 ·rintro ⟨h1, ⟨_, h2⟩, h3, _⟩; exact ⟨⟨h1, h2⟩, h3⟩
 ·rintro ⟨⟨h1, h2⟩, h3⟩
  refine ⟨h1, ⟨?_, h2⟩, h3, fun m _ => by simp⟩
  intro x hx
  obtain ⟨m, hm, rfl⟩ := List.mem_map.1 hx
  have := List.all_eq_true.1 h1 m hm
  unfold msgB at this
  simp only [Bool.and_eq_true, decide_eq_true_eq] at this
  omega
theorem msgs_cells {w : World} {v : Value} {l : List MsgM} (h : IsMsgs w v l) :
  (v = .slice none 0 0 /\ l = []) ∨ ∃ b o cap, v = .slice (some ⟨b, o, none⟩) l.length cap /\ l.length <= cap /\ cap <= maxLen /\ b < w.heap.size /\ ∀ i (hi : i < l.length),
   w.cell? ⟨b, o + i * 6, none⟩ = some (.int .i64 l[i].id) /\ w.cell? ⟨b, o + i * 6 + 1, none⟩ = some (strV l[i].q) /\ w.cell? ⟨b, o + i * 6 + 2, none⟩ = some (strV l[i].b) /\
   w.cell? ⟨b, o + i * 6 + 3, none⟩ = some (.int .i64 l[i].seq) /\ w.cell? ⟨b, o + i * 6 + 4, none⟩ = some (.int .i64 l[i].cnt) /\ w.cell? ⟨b, o + i * 6 + 5, none⟩ = some (.int .i64 l[i].who) := by
 rcases h.2 with ⟨h1, h2⟩ | ⟨b, o, cap, h1, h2, h3, h4, h5⟩
 ·exact .inl ⟨h1, List.eq_nil_of_length_eq_zero h2⟩
 ·refine .inr ⟨b, o, cap, h1, h2, h3, h4, fun i hi => ?_⟩
  have g : ∀ k x, k < 6 -> (encMsg l[i])[k]? = some x -> w.cell? ⟨b, o + i * 6 + k, none⟩ = some x := fun k x hk hx => by
   have := h5 (i * 6 + k) x (by rw [flat_get encMsg 6 (fun _ => rfl) l i k hi hk]; exact hx)
   rwa [<- Nat.add_assoc] at this
  exact ⟨g 0 _ (by omega) rfl, g 1 _ (by omega) rfl, g 2 _ (by omega) rfl, g 3 _ (by omega) rfl, g 4 _ (by omega) rfl, g 5 _ (by omega) rfl⟩
end
end Go.Proofs.YtelaljoebdpicaaGreat
