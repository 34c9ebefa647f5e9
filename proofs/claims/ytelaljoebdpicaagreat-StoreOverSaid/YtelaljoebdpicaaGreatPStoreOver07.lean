/- Part 7 of what the proof of StoreOver rests on. No condition. -/
import Derived.Deep.CutBlock
import Derived.StringKeys
import Derived.Test.YtelaljoebdpicaaGreatPStoreOver03
import Derived.Test.YtelaljoebdpicaaGreatPStoreOver05
import Derived.Test.YtelaljoebdpicaaGreatPStoreOver06
namespace Go.Proofs.YtelaljoebdpicaaGreat
set_option maxRecDepth 100000
set_option maxHeartbeats 60000000
set_option linter.unusedVariables false
set_option linter.unusedSimpArgs false
set_option linter.unusedSectionVars false
section
open Go.RowKit Go.Maps
def qidM (r : RecM) : Bool := if r.kind = 2 then tidB r.id else decide (r.id = 0)
def qyesM (r : RecM) : Bool := decide (r.kind = 5) || !r.yes
def loM (k : Int) : Int := if k = 6 ∨ k = 9 then 1 else 0
def hiM (k : Int) : Int := if k = 6 ∨ k = 8 then 7 else if k = 9 then 1 else 0
def npM (k : Int) : Int := if k = 4 ∨ k = 7 then 10 else 0
theorem len_zero {α : Type} (l : List α) : decide ((l.length : Int) <= 0) = decide (l = []) := by
 cases l with
 | nil => rfl
 | cons a r => simp
theorem rec_eq (r : RecM) : recB r = (decide (1 <= r.kind /\ r.kind <= 9) && tidB r.tid && ((((qidM r && qyesM r) && (risingB r.parts && (decide (loM r.kind <= (r.parts.length : Int)) && decide ((r.parts.length : Int) <= hiM r.kind)))) && decide ((r.puts.length : Int) <= npM r.kind)) && r.puts.all putB)) := by
 by_cases hk : 1 <= r.kind /\ r.kind <= 9
 ·have hc : r.kind = 1 ∨ r.kind = 2 ∨ r.kind = 3 ∨ r.kind = 4 ∨ r.kind = 5 ∨ r.kind = 6 ∨ r.kind = 7 ∨ r.kind = 8 ∨ r.kind = 9 := by omega
  unfold recB qidM qyesM loM hiM npM
  have hp0 : r.puts = [] -> r.puts.all putB = true := fun e => by rw [e]; rfl
  have hr0 : r.parts = [] -> risingB r.parts = true := fun e => by rw [e]; rfl
  have e1 : decide ((r.puts.length : Int) <= 10) = decide (r.puts.length <= 10) := by congr 1; simp; omega
  have e2 : decide ((r.parts.length : Int) <= 7) = decide (r.parts.length <= 7) := by congr 1; simp; omega
  have e3 : (decide ((1 : Int) <= (r.parts.length : Int)) && decide ((r.parts.length : Int) <= 1)) = decide (r.parts.length = 1) := by
   rw [<- Bool.decide_and]; congr 1; simp; omega
  have e4 : (decide ((1 : Int) <= (r.parts.length : Int)) && decide (r.parts.length <= 7)) = decide (1 <= r.parts.length /\ r.parts.length <= 7) := by
   rw [<- Bool.decide_and]; congr 1; simp; omega
  have e5 : decide ((0 : Int) <= (r.parts.length : Int)) = true := by simp
  have e6 : (risingB r.parts && decide (r.parts = [])) = decide (r.parts = []) := by
   by_cases h : r.parts = []
   ·rw [hr0 h]; simp
   ·simp [h]
  have e7 : (decide (r.puts = []) && r.puts.all putB) = decide (r.puts = []) := by
   by_cases h : r.puts = []
   ·rw [hp0 h]; simp
   ·simp [h]
  rcases hc with k | k | k | k | k | k | k | k | k <;> simp only [k] <;>
   simp only [show ((1 : Int) = 2) = False by simp, show ((3 : Int) = 2) = False by simp, show ((4 : Int) = 2) = False by simp, show ((5 : Int) = 2) = False by simp, show ((6 : Int) = 2) = False by simp, show ((7 : Int) = 2) = False by simp, show ((8 : Int) = 2) = False by simp, show ((9 : Int) = 2) = False by simp, if_true, if_false] <;>
   simp [len_zero, e1, e2, e5, Bool.and_assoc] <;> grind
 ·unfold recB
  rw [decide_eq_false hk]; rfl
theorem box_cell (w : World) (cs : Array Value) (t : TypeId) (i : Nat) (hi : i < cs.size) : (w.alloc (.cells cs t)).cell? ⟨w.heap.size, i, none⟩ = some cs[i] := by
 unfold World.cell? World.alloc; simp [hi]
theorem krecord_any (r : RecM) (hok : OkRec r) (v : Value) (w : World) (h : IsRec w v r) :
    Calls Tryz.prog 73 #[v] w fun e w' => e = .returned (.bool (recB r)) /\ Tch No w w' := by
  have RE := Lib.hid (rec_eq r)
  obtain ⟨kd, tid, id, yes, parts, puts⟩ := r
  obtain ⟨vp, vu, rfl, hp, hu⟩ := h
  have hkd := hok.kind
  have hti := hok.tid
  have hid := hok.id
  simp only at hkd hti hid hp hu
  have HT1 := Lib.hid (fun W => ktid_any tid hti W)
  have HT2 := Lib.hid (fun W => ktid_any id hid W)
  have HR := Lib.hid (fun lo hi W h => krising_any parts vp lo hi W h)
  have HC := Lib.hid (fun W h => containsputs_any puts hok.puts vu W h)
  obtain ⟨ap, cp, hvp, hcp, hmp⟩ := CellsAt.shape hp
  obtain ⟨au, cu, hvu, hcu, hmu⟩ := CellsAt.shape hu
  have HP : Hid (IsInts w vp parts) := hp
  have HU : Hid (IsPuts w vu puts) := hu
  clear hp hu hok hkd hti hid hcp hmp hcu hmu
  obtain ⟨np, hnp⟩ : ∃ n, parts.length = n := ⟨_, rfl⟩
  obtain ⟨nu, hnu⟩ : ∃ n, puts.length = n := ⟨_, rfl⟩
  simp only [qidM, qyesM, hnp, hnu] at RE
  rw [hnp] at hvp
  rw [hnu] at hvu
  simp only [hnp] at HR
  clear hnp hnu
  subst hvp hvu
  generalize recB _ = rb at RE ⊢
  generalize risingB parts = br at RE HR
  generalize puts.all putB = bp at RE HC
  generalize tidB tid = bt at RE HT1
  generalize tidB id = bi at RE HT2
  go_enter Tryz.func73, Tryz.ntmps73
  by_cases k1 : kd < 1
  · have HE : Hid (rb = false) := by rw [Hid, RE.out, decide_eq_false (by omega)]; rfl
    go_wp2_with fail
    go_ret
    exact ⟨ret_b HE.out.symm, Tch.alloc _ _⟩
  by_cases k9 : 9 < kd
  · have HE : Hid (rb = false) := by rw [Hid, RE.out, decide_eq_false (by omega)]; rfl
    go_wp2_with fail
    go_ret
    exact ⟨ret_b HE.out.symm, Tch.alloc _ _⟩
  have REk : Hid (decide (1 <= kd /\ kd <= 9) = true) := by simp [Hid]; omega
  cases bt with
  | false =>
    have HE : Hid (rb = false) := by rw [Hid, RE.out]; simp
    go_wp2_with (go_at_call 133; refine (HT1.out _).mono ?_; rintro e w' ⟨rfl, rfl⟩)
    go_ret
    exact ⟨ret_b HE.out.symm, Tch.alloc _ _⟩
  | true =>
    go_upto_block 0 with (go_at_call 133; refine (HT1.out _).mono ?_; rintro e w' ⟨rfl, rfl⟩)
    go_quiet (fail)
    go_upto_block 0 with fail
    go_cut [3, 4, 5, 6, 7] from 31 to 46 (fun s3 s4 s5 s6 s7 wx => s3 = .bool (if kd = 2 then bi else decide (id = 0)) /\ s4 = .bool (decide (kd = 5) || !yes) /\ s5 = .int .i64 (loM kd) /\ s6 = .int .i64 (hiM kd) /\ s7 = .int .i64 (npM kd) /\ Hid (Tch No w wx) /\ wx.cell? ⟨w.heap.size, 4, none⟩ = some (.slice ap np cp) /\ wx.cell? ⟨w.heap.size, 5, none⟩ = some (.slice au nu cu))
    case first =>
      clear RE REk HR HC HP HU
      have hc : kd = 1 ∨ kd = 2 ∨ kd = 3 ∨ kd = 4 ∨ kd = 5 ∨ kd = 6 ∨ kd = 7 ∨ kd = 8 ∨ kd = 9 := by omega
      clear k1 k9
      rcases hc with k | k | k | k | k | k | k | k | k <;> subst k <;>
        (go_wp2_with (go_at_call 133; refine (HT2.out _).mono ?_; rintro e w' ⟨rfl, rfl⟩)
         go_meet
         exact ⟨rfl, rfl, rfl, rfl, rfl, (Tch.alloc _ _).trans0 (tch_dn _ _), box_cell _ _ _ 4 (by simp), box_cell _ _ _ 5 (by simp)⟩)
    case rest =>
      obtain ⟨rfl, rfl, rfl, rfl, rfl, TT, c4, c5⟩ := hcut
      clear k1 k9
      generalize loM kd = lo at RE ⊢
      generalize hiM kd = hi at RE ⊢
      generalize npM kd = nn at RE ⊢
      generalize (if kd = 2 then bi else decide (id = 0)) = q1 at RE ⊢
      generalize (decide (kd = 5) || !yes) = q2 at RE ⊢
      rw [REk.out] at RE
      have HR1 : Hid (∀ W, Tch No wc W -> Calls Tryz.prog 142 #[.slice ap np cp, .int .i64 lo, .int .i64 hi] W fun e w' => e = .returned (.bool (br && (decide (lo <= (np : Int)) && decide ((np : Int) <= hi)))) /\ Tch No W w') := fun W T => HR.out lo hi W (HP.out.keep (TT.out.trans0 T))
      have HC2 := Lib.hid (HC.out wc (HU.out.keep TT.out))
      generalize (br && (decide (lo <= (np : Int)) && decide ((np : Int) <= hi))) = q3 at RE HR1
      have HR2 := HR1
      clear HR1 HR HC HP HU HT1 HT2 REk
      cases q1 with
      | false =>
        have HE : Hid (rb = false) := by rw [Hid, RE.out]; simp
        go_wp2_with (go_at_call 140; refine HC2.out.mono ?_; rintro e w' ⟨rfl, T2⟩; have d4 := T2.cell c4 (fun h => h); have d5 := T2.cell c5 (fun h => h))
        go_ret
        exact ⟨ret_b HE.out.symm, TT.out.trans0 T2⟩
      | true =>
        cases q2 with
        | false =>
          have HE : Hid (rb = false) := by rw [Hid, RE.out]; simp
          go_wp2_with (go_at_call 140; refine HC2.out.mono ?_; rintro e w' ⟨rfl, T2⟩; have d4 := T2.cell c4 (fun h => h); have d5 := T2.cell c5 (fun h => h))
          go_ret
          exact ⟨ret_b HE.out.symm, TT.out.trans0 T2⟩
        | true =>
          cases q3 with
          | false =>
            have HE : Hid (rb = false) := by rw [Hid, RE.out]; simp
            go_wp2_with (first
              | (go_at_call 140; refine HC2.out.mono ?_; rintro e w' ⟨rfl, T2⟩; have d4 := T2.cell c4 (fun h => h); have d5 := T2.cell c5 (fun h => h))
              | (go_at_call 142; refine (HR2.out _ T2).mono ?_; rintro e w' ⟨rfl, T3⟩; have f4 := T3.cell d4 (fun h => h); have f5 := T3.cell d5 (fun h => h)))
            go_ret
            exact ⟨ret_b HE.out.symm, (TT.out.trans0 T2).trans0 T3⟩
          | true =>
            cases hn : decide ((nu : Int) <= nn) with
            | false =>
              have HE : Hid (rb = false) := by rw [Hid, RE.out, hn]; simp
              go_wp2_with (first
                | (go_at_call 140; refine HC2.out.mono ?_; rintro e w' ⟨rfl, T2⟩; have d4 := T2.cell c4 (fun h => h); have d5 := T2.cell c5 (fun h => h))
                | (go_at_call 142; refine (HR2.out _ T2).mono ?_; rintro e w' ⟨rfl, T3⟩; have f4 := T3.cell d4 (fun h => h); have f5 := T3.cell d5 (fun h => h)))
              go_ret
              exact ⟨ret_b HE.out.symm, (TT.out.trans0 T2).trans0 T3⟩
            | true =>
              have HE : Hid (rb = bp) := by rw [Hid, RE.out, hn]; simp
              go_wp2_with (first
                | (go_at_call 140; refine HC2.out.mono ?_; rintro e w' ⟨rfl, T2⟩; have d4 := T2.cell c4 (fun h => h); have d5 := T2.cell c5 (fun h => h))
                | (go_at_call 142; refine (HR2.out _ T2).mono ?_; rintro e w' ⟨rfl, T3⟩; have f4 := T3.cell d4 (fun h => h); have f5 := T3.cell d5 (fun h => h)))
              go_ret
              exact ⟨ret_b (by first | (rw [HE.out]; done) | (rw [HE.out]; simp)), (TT.out.trans0 T2).trans0 T3⟩
end
section
open Go.RowKit Go.Maps
theorem size_alloc (w : World) (o : Obj) : (w.alloc o).heap.size = w.heap.size + 1 := by simp
theorem box2_cell (w : World) (cs : Array Value) (t : TypeId) (o : Obj) (i : Nat) (hi : i < cs.size) : ((w.alloc o).alloc (.cells cs t)).cell? ⟨w.heap.size + 1, i, none⟩ = some cs[i] := by
 have := box_cell (w.alloc o) cs t i hi
 rwa [size_alloc] at this
def stV (br nid nseq tx : Int) (am : Option Addr) (nm cm : Nat) (aw : Option Addr) (nw cw : Nat) (ae : Option Addr) (ne ce : Nat) (ao : Option Addr) (no co : Nat) (an : Option Addr) (nn cn : Nat) : Value :=
 .agg #[.int .i64 br, .int .i64 nid, .int .i64 nseq, .int .i64 tx, .slice am nm cm, .slice aw nw cw, .slice ae ne ce, .slice ao no co, .slice an nn cn]
end
section
open Go.RowKit Go.Maps
abbrev DtB := DataW Unit
def truR : Value -> Option (DtB × List MemPlace)
 | .bool b => some (.lit (.bool b), [])
 | _ => none
theorem truR_b (b : Bool) : truR (.bool b) = some (.lit (.bool b), []) := rfl
theorem lawI : Keyed Tryz.prog 2 := int_keyed Tryz.underlying2
theorem isKeyI {x : Int} : WideAt.IsKeyLit (.int .i64 x) := by simp [WideAt.IsKeyLit]
theorem tch_turn {w w' : World} {mb : Nat} (hg : w.grownBy w' (some mb)) : Tch (fun k => k = mb) w w' := Tch.grown hg (fun k hk _ => by injection hk with hk; exact hk.symm)
structure IdMap (w : World) (mb : Nat) (n : Nat) (ids : List Int) : Prop where
 map : ∃ D, w.ownsMap Tryz.prog 2 truR mb n D /\ (∀ x : Int, x ∈ ids -> ∀ z, D.atKey (.int .i64 x) z = .lit (.bool true)) /\ (∀ x : Int, x ∉ ids -> Maps.has D (.int .i64 x) = false)
theorem IdMap.tch {F : Nat -> Prop} {w w' : World} {mb n : Nat} {ids : List Int} (h : IdMap w mb n ids) (t : Tch F w w') (hF : ¬ F mb) : IdMap w' mb n ids := by
 obtain ⟨D, ⟨es, clock, hb, F', hs, hD⟩, h2⟩ := h.map
 exact ⟨D, ⟨es, clock, blk_tch t hb hF, F', hs, hD⟩, h2⟩
theorem i64_wf {x : Int} (h : I64 x) : (Lit.int .i64 x).wf = true := by
 unfold I64 at h
 have e1 : IntKind.i64.min = -9223372036854775808 := by decide
 have e2 : IntKind.i64.max = 9223372036854775807 := by decide
 rw [Lit.wf, e1, e2, Bool.and_eq_true, decide_eq_true_eq, decide_eq_true_eq]
 exact h
theorem IdMap.put {w : World} {mb n : Nat} {ids : List Int} (h : IdMap w mb n ids) {x : Int} (hx : I64 x) (hn : n < maxLen) :
  ∃ w', (Instr.mapUpdate 154 (.map (some mb)) (.int .i64 x) (.bool true)).run Tryz.prog w = .ok () w' /\ IdMap w' mb (n + 1) (ids ++ [x]) /\ Tch (fun k => k = mb) w w' := by
 obtain ⟨D, hm, h1, h2⟩ := h.map
 obtain ⟨w', hrun, hown, hg⟩ := hm.update lawI Tryz.underlying154 hn (keyOf_int_mk Tryz.underlying2 (i64_wf hx)) (val := .bool true) (truR_b true)
 have ht : Tch (fun k => k = mb) w w' := tch_turn hg
 refine ⟨w', hrun, ⟨_, hown, ?_, ?_⟩, ht⟩
 ·intro y hy z
  by_cases e : y = x
  ·subst e; exact atKey_put_same hm.isMap isKeyI _ _
  ·rw [atKey_put_other (fun e2 => e (by injection e2))]
   exact h1 y (by simpa [e] using hy) z
 ·intro y hy
  have hy2 : y ∉ ids /\ y ≠ x := by simpa using hy
  rw [has_put_other (fun e2 => hy2.2 (by injection e2))]
  exact h2 y hy2.1
theorem msgs_cells {w : World} {v : Value} {l : List MsgM} (h : IsMsgs w v l) :
  (v = .slice none 0 0 /\ l = []) ∨ ∃ b o cap, v = .slice (some ⟨b, o, none⟩) l.length cap /\ l.length <= cap /\ cap <= maxLen /\ b < w.heap.size /\ ∀ i (hi : i < l.length),
   w.cell? ⟨b, o + i * 6, none⟩ = some (.int .i64 l[i].id) /\ w.cell? ⟨b, o + i * 6 + 1, none⟩ = some (strV l[i].q) /\ w.cell? ⟨b, o + i * 6 + 2, none⟩ = some (strV l[i].b) /\
   w.cell? ⟨b, o + i * 6 + 3, none⟩ = some (.int .i64 l[i].seq) /\ w.cell? ⟨b, o + i * 6 + 4, none⟩ = some (.int .i64 l[i].cnt) /\ w.cell? ⟨b, o + i * 6 + 5, none⟩ = some (.int .i64 l[i].who) := by
 rcases h.2 with ⟨h1, h2⟩ | ⟨b, o, cap, h1, h2, h3, h4, h5⟩
 ·exact .inl ⟨h1, List.eq_nil_of_length_eq_zero h2⟩
 ·refine .inr ⟨b, o, cap, h1, h2, h3, h4, fun i hi => ?_⟩
  have g : ∀ k x, k < 6 -> (encMsg l[i])[k]? = some x -> w.cell? ⟨b, o + i * 6 + k, none⟩ = some x := fun k x hk hx => by
   have := h5 (i * 6 + k) x (by rw [flat_get encMsg 6 (fun _ => rfl) l i k hi hk]; exact hx)
   rwa [<- Nat.add_assoc] at this
  exact ⟨g 0 _ (by omega) rfl, g 1 _ (by omega) rfl, g 2 _ (by omega) rfl, g 3 _ (by omega) rfl, g 4 _ (by omega) rfl, g 5 _ (by omega) rfl⟩
end
section
open Go.RowKit Go.Maps
theorem IsBrs.shape {w : World} {v : Value} {l : List BrM} (h : IsBrs w v l) : ∃ a cap, v = .slice a l.length cap /\ l.length <= cap /\ cap <= maxLen := by
 obtain ⟨vs, h1, h2, _⟩ := h; exact CellsAt.shape h2
theorem IsPends.shape {w : World} {v : Value} {l : List PendM} (h : IsPends w v l) : ∃ a cap, v = .slice a l.length cap /\ l.length <= cap /\ cap <= maxLen := by
 obtain ⟨vs, h1, h2, _⟩ := h; exact CellsAt.shape h2
theorem IsSt.shape {w : World} {v : Value} {s : StM} (h : IsSt w v s) : ∃ am cm aw cw ae ce ao co an cn, v = stV s.broker s.nid s.nseq s.tx am s.ms.length cm aw s.waits.length cw ae s.ends.length ce ao s.opens.length co an s.noes.length cn /\
  IsMsgs w (.slice am s.ms.length cm) s.ms /\ IsBrs w (.slice aw s.waits.length cw) s.waits /\ IsEnds w (.slice ae s.ends.length ce) s.ends /\ IsPends w (.slice ao s.opens.length co) s.opens /\ IsPends w (.slice an s.noes.length cn) s.noes := by
 obtain ⟨vm, vw, ve, vo, vn, rfl, h1, h2, h3, h4, h5⟩ := h
 obtain ⟨am, cm, rfl, _⟩ := CellsAt.shape h1
 obtain ⟨aw, cw, rfl, _⟩ := h2.shape
 obtain ⟨ae, ce, rfl, _⟩ := CellsAt.shape h3
 obtain ⟨ao, co, rfl, _⟩ := h4.shape
 obtain ⟨an, cn, rfl, _⟩ := h5.shape
 exact ⟨am, cm, aw, cw, ae, ce, ao, co, an, cn, rfl, h1, h2, h3, h4, h5⟩
theorem st_pre {w : World} {v : Value} {s : StM} (h : IsSt w v s) : ∃ am cm aw cw ae ce ao co an cn nm nw ne no nn, v = .agg #[.int .i64 s.broker, .int .i64 s.nid, .int .i64 s.nseq, .int .i64 s.tx, .slice am nm cm, .slice aw nw cw, .slice ae ne ce, .slice ao no co, .slice an nn cn] /\ Hid (IsMsgs w (.slice am nm cm) s.ms) /\ Hid (s.ms.length = nm) /\ nm <= 9223372036854775807 /\ Hid (IsBrs w (.slice aw nw cw) s.waits) /\ Hid (s.waits.length = nw) /\ nw <= 9223372036854775807 /\ Hid (IsEnds w (.slice ae ne ce) s.ends) /\ Hid (s.ends.length = ne) /\ ne <= 9223372036854775807 /\ Hid (IsPends w (.slice ao no co) s.opens) /\ Hid (s.opens.length = no) /\ no <= 9223372036854775807 /\ Hid (IsPends w (.slice an nn cn) s.noes) /\ Hid (s.noes.length = nn) /\ nn <= 9223372036854775807 := by
  obtain ⟨am, cm, aw, cw, ae, ce, ao, co, an, cn, hv, h1, h2, h3, h4, h5⟩ := h.shape
  have f : ∀ n : Nat, (∃ c, n <= c /\ c <= maxLen) -> n <= 9223372036854775807 := fun n ⟨c, h1, h2⟩ => by unfold maxLen at h2; omega
  refine ⟨am, cm, aw, cw, ae, ce, ao, co, an, cn, _, _, _, _, _, hv, h1, rfl, f _ ?_, h2, rfl, f _ ?_, h3, rfl, f _ ?_, h4, rfl, f _ ?_, h5, rfl, f _ ?_⟩
  · obtain ⟨_, c, _, a, b⟩ := CellsAt.shape h1; exact ⟨c, a, b⟩
  · obtain ⟨_, c, _, a, b⟩ := IsBrs.shape h2; exact ⟨c, a, b⟩
  · obtain ⟨_, c, _, a, b⟩ := CellsAt.shape h3; exact ⟨c, a, b⟩
  · obtain ⟨_, c, _, a, b⟩ := IsPends.shape h4; exact ⟨c, a, b⟩
  · obtain ⟨_, c, _, a, b⟩ := IsPends.shape h5; exact ⟨c, a, b⟩
end
section
open Go.RowKit Go.Maps
def BoxAt (w : World) (b : Nat) (vals : List Value) : Prop := ∀ i x, vals[i]? = some x -> w.cell? ⟨b, i, none⟩ = some x
theorem BoxAt.keep {w w' : World} {b : Nat} {vals : List Value} (h : BoxAt w b vals) (t : Tch No w w') : BoxAt w' b vals := fun i x hx => t.cell (h i x hx) (fun h => h)
theorem BoxAt.made (w : World) (cs : Array Value) (t : TypeId) : BoxAt (w.alloc (.cells cs t)) w.heap.size cs.toList := fun i x hx => by
 have hi : i < cs.size := by
  rcases Nat.lt_or_ge i cs.size with h | h
  ·exact h
  ·rw [List.getElem?_eq_none (by simpa using h)] at hx; cases hx
 rw [box_cell w cs t i hi]
 simpa [hi] using hx
theorem brs_cells {w : World} {v : Value} {l : List BrM} (h : IsBrs w v l) :
  (v = .slice none 0 0 /\ l = []) ∨ ∃ b o cap, v = .slice (some ⟨b, o, none⟩) l.length cap /\ l.length <= cap /\ cap <= maxLen /\ b < w.heap.size /\ ∀ i (hi : i < l.length), w.cell? ⟨b, o + i * 2, none⟩ = some (.int .i64 l[i].tid) /\
   ∃ a c, w.cell? ⟨b, o + i * 2 + 1, none⟩ = some (.slice a l[i].puts.length c) /\ IsPuts w (.slice a l[i].puts.length c) l[i].puts := by
 obtain ⟨vs, h1, h2, h3⟩ := h
 have hz : ((l.map (·.tid)).zip vs).length = l.length := by rw [List.length_zip, List.length_map, h1, Nat.min_self]
 rcases pair_cells (f := Prod.fst) (g := Prod.snd) (l := (l.map (·.tid)).zip vs) (by rw [hz]; exact h2) with ⟨e1, e2⟩ | ⟨b, o, cap, e1, e2, e3, e4, e5⟩
 ·exact .inl ⟨e1, List.eq_nil_of_length_eq_zero (by rw [<- hz, e2]; rfl)⟩
 ·rw [hz] at e1 e2
  refine .inr ⟨b, o, cap, e1, e2, e3, e4, fun i hi => ?_⟩
  have hiv : i < vs.length := by omega
  have hk := e5 i (by rw [hz]; exact hi)
  have hp := h3 i hi hiv
  obtain ⟨a, c, ea, _⟩ := CellsAt.shape hp
  rw [ea] at hp
  refine ⟨by simpa using hk.1, a, c, ?_, hp⟩
  have := hk.2
  simp only [List.getElem_zip] at this
  rw [ea] at this
  exact this
theorem pends_cells {w : World} {v : Value} {l : List PendM} (h : IsPends w v l) :
  (v = .slice none 0 0 /\ l = []) ∨ ∃ b o cap, v = .slice (some ⟨b, o, none⟩) l.length cap /\ l.length <= cap /\ cap <= maxLen /\ b < w.heap.size /\ ∀ i (hi : i < l.length), w.cell? ⟨b, o + i * 2, none⟩ = some (.int .i64 l[i].tid) /\
   ∃ a c, w.cell? ⟨b, o + i * 2 + 1, none⟩ = some (.slice a l[i].parts.length c) /\ IsInts w (.slice a l[i].parts.length c) l[i].parts := by
 obtain ⟨vs, h1, h2, h3⟩ := h
 have hz : ((l.map (·.tid)).zip vs).length = l.length := by rw [List.length_zip, List.length_map, h1, Nat.min_self]
 rcases pair_cells (f := Prod.fst) (g := Prod.snd) (l := (l.map (·.tid)).zip vs) (by rw [hz]; exact h2) with ⟨e1, e2⟩ | ⟨b, o, cap, e1, e2, e3, e4, e5⟩
 ·exact .inl ⟨e1, List.eq_nil_of_length_eq_zero (by rw [<- hz, e2]; rfl)⟩
 ·rw [hz] at e1 e2
  refine .inr ⟨b, o, cap, e1, e2, e3, e4, fun i hi => ?_⟩
  have hiv : i < vs.length := by omega
  have hk := e5 i (by rw [hz]; exact hi)
  have hp := h3 i hi hiv
  obtain ⟨a, c, ea, _⟩ := CellsAt.shape hp
  rw [ea] at hp
  refine ⟨by simpa using hk.1, a, c, ?_, hp⟩
  have := hk.2
  simp only [List.getElem_zip] at this
  rw [ea] at this
  exact this
theorem ends_cells {w : World} {v : Value} {l : List EndM} (h : IsEnds w v l) :
  (v = .slice none 0 0 /\ l = []) ∨ ∃ b o cap, v = .slice (some ⟨b, o, none⟩) l.length cap /\ l.length <= cap /\ cap <= maxLen /\ b < w.heap.size /\ ∀ i (hi : i < l.length), w.cell? ⟨b, o + i * 2, none⟩ = some (.int .i64 l[i].tid) /\ w.cell? ⟨b, o + i * 2 + 1, none⟩ = some (.bool l[i].yes) :=
 pair_cells (f := fun e : EndM => e.tid) (g := fun e : EndM => .bool e.yes) h
def yesAt (l : List EndM) (t : Int) : Bool := ((l[posP (·.tid) l t]?).map (·.yes)).getD false
theorem all_at {α : Type} {q : α -> Bool} {l : List α} {k : Nat} (hk : k < l.length) (e : q l[k] = false) : l.all q = false := by
 rw [List.all_eq_false]; exact ⟨l[k], List.getElem_mem hk, by rw [e]; simp⟩
theorem all_idx {α : Type} {q : α -> Bool} {l : List α} (h : ∀ i (hi : i < l.length), q l[i] = true) : l.all q = true := by
 rw [List.all_eq_true]; intro x hx
 obtain ⟨i, hi, rfl⟩ := List.getElem_of_mem hx
 exact h i hi
theorem all_more {α : Type} {q : α -> Bool} {l : List α} {k : Nat} (hk : k < l.length) (e : q l[k] = true) (h : ∀ i (hi : i < l.length), i < k -> q l[i] = true) : ∀ i (hi : i < l.length), i < k + 1 -> q l[i] = true := fun i h1 h2 => by
 by_cases e2 : i = k
 ·subst e2; exact e
 ·exact h i h1 (by omega)
end
end Go.Proofs.YtelaljoebdpicaaGreat
