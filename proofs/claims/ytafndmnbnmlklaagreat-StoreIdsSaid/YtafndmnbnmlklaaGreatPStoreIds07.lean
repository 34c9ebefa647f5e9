/- Part 7 of what the proof of StoreIds rests on. No condition. -/
import Derived.Test.YtafndmnbnmlklaaGreatPStoreIds06
namespace Go.Proofs.YtafndmnbnmlklaaGreat
set_option maxRecDepth 100000
set_option maxHeartbeats 60000000
set_option linter.unusedVariables false
set_option linter.unusedSimpArgs false
set_option linter.unusedSectionVars false
section
open Go.RowKit Go.Maps
def BoxAt (w : World) (b : Nat) (vals : List Value) : Prop := ∀ i x, vals[i]? = some x -> w.cell? ⟨b, i, none⟩ = some x
theorem BoxAt.keep {w w' : World} {b : Nat} {vals : List Value} (h : BoxAt w b vals) (t : Tch No w w') : BoxAt w' b vals := fun i x hx => t.cell (h i x hx) (fun h => h)
theorem BoxAt.made (w : World) (cs : Array Value) (t : TypeId) : BoxAt (w.alloc (.cells cs t)) w.heap.size cs.toList := fun i x hx => by
 have hi : i < cs.size := by
  rcases Nat.lt_or_ge i cs.size with h | h
  ·exact h
  ·rw [List.getElem?_eq_none (by simpa using h)] at hx; cases hx
 rw [box_cell w cs t i hi]
 simpa [hi] using hx
theorem brs_cells {w : World} {v : Value} {l : List BrM} (h : IsBrs w v l) :
  (v = .slice none 0 0 /\ l = []) ∨ ∃ b o cap, v = .slice (some ⟨b, o, none⟩) l.length cap /\ l.length <= cap /\ cap <= maxLen /\ b < w.heap.size /\ ∀ i (hi : i < l.length), w.cell? ⟨b, o + i * 2, none⟩ = some (.int .i64 l[i].tid) /\
   ∃ a c, w.cell? ⟨b, o + i * 2 + 1, none⟩ = some (.slice a l[i].puts.length c) /\ IsPuts w (.slice a l[i].puts.length c) l[i].puts := by
 obtain ⟨vs, h1, h2, h3⟩ := h
 have hz : ((l.map (·.tid)).zip vs).length = l.length := by rw [List.length_zip, List.length_map, h1, Nat.min_self]
 rcases pair_cells (f := Prod.fst) (g := Prod.snd) (l := (l.map (·.tid)).zip vs) (by rw [hz]; exact h2) with ⟨e1, e2⟩ | ⟨b, o, cap, e1, e2, e3, e4, e5⟩
 ·exact .inl ⟨e1, List.eq_nil_of_length_eq_zero (by rw [<- hz, e2]; rfl)⟩
 ·rw [hz] at e1 e2
  refine .inr ⟨b, o, cap, e1, e2, e3, e4, fun i hi => ?_⟩
  have hiv : i < vs.length := by omega
  have hk := e5 i (by rw [hz]; exact hi)
  have hp := h3 i hi hiv
  obtain ⟨a, c, ea, _⟩ := CellsAt.shape hp
  rw [ea] at hp
  refine ⟨by simpa using hk.1, a, c, ?_, hp⟩
  have := hk.2
  simp only [List.getElem_zip] at this
  rw [ea] at this
  exact this
theorem pends_cells {w : World} {v : Value} {l : List PendM} (h : IsPends w v l) :
  (v = .slice none 0 0 /\ l = []) ∨ ∃ b o cap, v = .slice (some ⟨b, o, none⟩) l.length cap /\ l.length <= cap /\ cap <= maxLen /\ b < w.heap.size /\ ∀ i (hi : i < l.length), w.cell? ⟨b, o + i * 2, none⟩ = some (.int .i64 l[i].tid) /\
   ∃ a c, w.cell? ⟨b, o + i * 2 + 1, none⟩ = some (.slice a l[i].parts.length c) /\ IsInts w (.slice a l[i].parts.length c) l[i].parts := by
 obtain ⟨vs, h1, h2, h3⟩ := h
 have hz : ((l.map (·.tid)).zip vs).length = l.length := by rw [List.length_zip, List.length_map, h1, Nat.min_self]
 rcases pair_cells (f := Prod.fst) (g := Prod.snd) (l := (l.map (·.tid)).zip vs) (by rw [hz]; exact h2) with ⟨e1, e2⟩ | ⟨b, o, cap, e1, e2, e3, e4, e5⟩
 ·exact .inl ⟨e1, List.eq_nil_of_length_eq_zero (by rw [<- hz, e2]; rfl)⟩
 ·rw [hz] at e1 e2
  refine .inr ⟨b, o, cap, e1, e2, e3, e4, fun i hi => ?_⟩
  have hiv : i < vs.length := by omega
  have hk := e5 i (by rw [hz]; exact hi)
  have hp := h3 i hi hiv
  obtain ⟨a, c, ea, _⟩ := CellsAt.shape hp
  rw [ea] at hp
  refine ⟨by simpa using hk.1, a, c, ?_, hp⟩
  have := hk.2
  simp only [List.getElem_zip] at this
  rw [ea] at this
  exact this
theorem ends_cells {w : World} {v : Value} {l : List EndM} (h : IsEnds w v l) :
  (v = .slice none 0 0 /\ l = []) ∨ ∃ b o cap, v = .slice (some ⟨b, o, none⟩) l.length cap /\ l.length <= cap /\ cap <= maxLen /\ b < w.heap.size /\ ∀ i (hi : i < l.length), w.cell? ⟨b, o + i * 2, none⟩ = some (.int .i64 l[i].tid) /\ w.cell? ⟨b, o + i * 2 + 1, none⟩ = some (.bool l[i].yes) :=
 pair_cells (f := fun e : EndM => e.tid) (g := fun e : EndM => .bool e.yes) h
def yesAt (l : List EndM) (t : Int) : Bool := ((l[posP (·.tid) l t]?).map (·.yes)).getD false
def side1 (s : StM) (b : BrM) : Bool := !hasP (·.tid) s.ends b.tid && recB ⟨4, b.tid, 0, false, [], b.puts⟩
def pendOk (s : StM) (p : PendM) : Bool := (recB ⟨6, p.tid, 0, false, p.parts, []⟩ && decide (homeM p.tid = s.broker)) && !p.parts.contains s.broker
def side2 (s : StM) (p : PendM) : Bool := !hasP (·.tid) s.ends p.tid && (!hasP (·.tid) s.waits p.tid && pendOk s p)
def side3 (s : StM) (p : PendM) : Bool := hasP (·.tid) s.ends p.tid && (!yesAt s.ends p.tid && pendOk s p)
def sides0 (s : StM) : Bool := s.waits.all (side1 s) && (s.opens.all (side2 s) && s.noes.all (side3 s))
theorem all_at {α : Type} {q : α -> Bool} {l : List α} {k : Nat} (hk : k < l.length) (e : q l[k] = false) : l.all q = false := by
 rw [List.all_eq_false]; exact ⟨l[k], List.getElem_mem hk, by rw [e]; simp⟩
theorem all_idx {α : Type} {q : α -> Bool} {l : List α} (h : ∀ i (hi : i < l.length), q l[i] = true) : l.all q = true := by
 rw [List.all_eq_true]; intro x hx
 obtain ⟨i, hi, rfl⟩ := List.getElem_of_mem hx
 exact h i hi
theorem all_more {α : Type} {q : α -> Bool} {l : List α} {k : Nat} (hk : k < l.length) (e : q l[k] = true) (h : ∀ i (hi : i < l.length), i < k -> q l[i] = true) : ∀ i (hi : i < l.length), i < k + 1 -> q l[i] = true := fun i h1 h2 => by
 by_cases e2 : i = k
 ·subst e2; exact e
 ·exact h i h1 (by omega)
theorem maysides_any (s : StM) (hok : OkSt s) (hend : strictB (s.ends.map (·.tid)) = true) (hle : s.ends.length <= 1000000000) (hwt : strictB (s.waits.map (·.tid)) = true) (hlw : s.waits.length <= 1000000000) (v : Value) (w : World) (h : IsSt w v s) :
  Calls Tryz.prog 84 #[v] w fun e w' => e = .returned (.bool (sides0 s)) /\ Tch No w w' := by
 obtain ⟨am, cm, aw, cw, ae, ce, ao, co, an, cn, rfl, hms, hws, hes, hos, hns⟩ := h.shape
 have HWS := Lib.hid hws
 have HES := Lib.hid hes
 have HOS := Lib.hid hos
 have HNS := Lib.hid hns
 have HOK := Lib.hid hok
 have HSE := Lib.hid hend
 have HE : Hid (∀ t W, Tch No w W -> Calls Tryz.prog 57 #[.slice ae s.ends.length ce, .int .i64 t] W fun e w' => e = .returned (.tuple #[.int .i64 (posP (·.tid) s.ends t : Nat), .bool (hasP (·.tid) s.ends t)]) /\ Tch No W w') := fun t W T => ends_any s.ends hend hle t (.slice ae s.ends.length ce) W (IsEnds.keep hes T)
 have HW : Hid (∀ t W, Tch No w W -> Calls Tryz.prog 167 #[.slice aw s.waits.length cw, .int .i64 t] W fun e w' => e = .returned (.tuple #[.int .i64 (posP (·.tid) s.waits t : Nat), .bool (hasP (·.tid) s.waits t)]) /\ Tch No W w') := fun t W T => waits_any s.waits hwt hlw t (.slice aw s.waits.length cw) W (hws.keep T)
 have HRE : Hid (∀ t ps vp W, I64 t -> (∀ p ∈ ps, OkPut p) -> IsPuts W vp ps -> Calls Tryz.prog 56 #[.agg #[.int .i64 4, .int .i64 t, .int .i64 0, .bool false, .slice none 0 0, vp]] W fun e w' => e = .returned (.bool (recB ⟨4, t, 0, false, [], ps⟩)) /\ Tch No W w') :=
  fun t ps vp W ht hp hv => krecord_any ⟨4, t, 0, false, [], ps⟩ ⟨(show I64 (4 : Int) from ⟨by decide, by decide⟩), ht, (show I64 (0 : Int) from ⟨by decide, by decide⟩), (fun x h => by cases h), hp⟩ _ W ⟨_, vp, rfl, CellsAt.nil _ _, hv⟩
 generalize s.ms.length = nm
 obtain ⟨nw, hnw⟩ : ∃ n, s.waits.length = n := ⟨_, rfl⟩
 obtain ⟨ne, hne⟩ : ∃ n, s.ends.length = n := ⟨_, rfl⟩
 obtain ⟨no, hno⟩ : ∃ n, s.opens.length = n := ⟨_, rfl⟩
 obtain ⟨nn, hnn⟩ : ∃ n, s.noes.length = n := ⟨_, rfl⟩
 have hwl : nw <= 9223372036854775807 := by
  obtain ⟨_, c, _, h1, h2⟩ := hws.shape
  unfold maxLen at h2; omega
 have hol : no <= 9223372036854775807 := by
  obtain ⟨_, c, _, h1, h2⟩ := hos.shape
  unfold maxLen at h2; omega
 have hnl : nn <= 9223372036854775807 := by
  obtain ⟨_, c, _, h1, h2⟩ := hns.shape
  unfold maxLen at h2; omega
 have hel : ne <= 9223372036854775807 := by
  obtain ⟨_, c, _, h1, h2⟩ := CellsAt.shape hes
  unfold maxLen at h2; omega
 have HNW := Lib.hid hnw
 have HNE := Lib.hid hne
 have HNO := Lib.hid hno
 have HNN := Lib.hid hnn
 rw [hnw] at HW HWS ⊢
 rw [hne] at HE HES ⊢
 rw [hno] at HOS ⊢
 rw [hnn] at HNS ⊢
 have HMP : Hid (∀ t ps vp W, I64 t -> (∀ x ∈ ps, I64 x) -> IsInts W vp ps -> Calls Tryz.prog 184 #[.agg #[.int .i64 s.broker, .int .i64 s.nid, .int .i64 s.nseq, .int .i64 s.tx, .slice am nm cm, .slice aw nw cw, .slice ae ne ce, .slice ao no co, .slice an nn cn], .agg #[.int .i64 t, vp]] W fun e w' => e = .returned (.bool (pendOk s ⟨t, ps⟩)) /\ Tch No W w') :=
  fun t ps vp W ht hp hv => maypend_any s.broker s.nid s.nseq s.tx am nm cm aw nw cw ae ne ce ao no co an nn cn t ps vp ht hp W hv
 obtain ⟨res, hres⟩ : ∃ r, sides0 s = r := ⟨_, rfl⟩
 have HRES := Lib.hid hres
 rw [hres]
 clear h hms hws hes hos hns hok hend hle hwt hlw hres hnw hne hno hnn
 unfold stV
 go_enter Tryz.func84, Tryz.ntmps84
 go_wp2_with fail
 go_loopg [20] nw (fun kx s20 wr => ∃ k : Nat, s20 = .int .i64 k /\ k <= nw /\ nw - k <= kx /\ Hid (Tch No w wr) /\ Hid (BoxAt wr w.heap.size [.int .i64 s.broker, .int .i64 s.nid, .int .i64 s.nseq, .int .i64 s.tx, .slice am nm cm, .slice aw nw cw, .slice ae ne ce, .slice ao no co, .slice an nn cn]) /\ Hid (∀ i (hi : i < s.waits.length), i < k -> side1 s s.waits[i] = true))
 case atStart => exact ⟨0, rfl, Nat.zero_le _, by omega, Tch.alloc _ _, BoxAt.made _ _ _, fun i _ h => absurd h (Nat.not_lt_zero _)⟩
 case round =>
  obtain ⟨k, rfl, hk, hgk, TT, HB, I⟩ := hrel
  by_cases hlt : k < nw
  ·have hkl : k < s.waits.length := by have := HNW.out; omega
   have hb : ∃ b o, aw = some ⟨b, o, none⟩ /\ wr.cell? ⟨b, o + k * 2, none⟩ = some (.int .i64 s.waits[k].tid) /\ ∃ a n c, wr.cell? ⟨b, o + k * 2 + 1, none⟩ = some (.slice a n c) /\ IsPuts w (.slice a n c) s.waits[k].puts := by
    rcases brs_cells HWS.out with ⟨_, h0⟩ | ⟨b, o, cap2, h1, _, _, _, h5⟩
    ·rw [h0] at hkl; simp at hkl
    ·rw [HNW.out] at h1
     injection h1 with h1 _ _
     obtain ⟨g1, a, c, g2, g3⟩ := h5 k hkl
     exact ⟨b, o, h1, TT.out.cell g1 (fun h => h), a, _, c, TT.out.cell g2 (fun h => h), g3⟩
   obtain ⟨b, o, rfl, e0, pa, pn, pc, e1, hpu⟩ := hb
   have hokb := HOK.out.waits _ (List.getElem_mem hkl)
   obtain ⟨bb, hbb⟩ : ∃ x, s.waits[k] = x := ⟨_, rfl⟩
   have HBB := Lib.hid hbb
   rw [hbb] at e0 hpu hokb
   obtain ⟨t, ps⟩ := bb
   simp only at e0 hpu hokb
   have HEt := Lib.hid (fun W T => HE.out t W T)
   have HRt : Hid (∀ W, Tch No w W -> Calls Tryz.prog 56 #[.agg #[.int .i64 4, .int .i64 t, .int .i64 0, .bool false, .slice none 0 0, .slice pa pn pc]] W fun e w' => e = .returned (.bool (recB ⟨4, t, 0, false, [], ps⟩)) /\ Tch No W w') := fun W T => HRE.out t ps _ W hokb.1 hokb.2 (hpu.keep T)
   have HS1 : Hid (side1 s s.waits[k] = (!hasP (·.tid) s.ends t && recB ⟨4, t, 0, false, [], ps⟩)) := by rw [Hid, HBB.out]; rfl
   generalize hasP (fun x : EndM => x.tid) s.ends t = ov at HS1 HEt
   generalize recB ⟨4, t, 0, false, [], ps⟩ = rc at HS1 HRt
   generalize posP (fun x : EndM => x.tid) s.ends t = po at HEt
   have c5 := HB.out 5 _ rfl
   have c6 := HB.out 6 _ rfl
   have d6 := (Tch.alloc wr (.cells #[.int .i64 t, .slice pa pn pc] 95)).cell c6 (fun h => h)
   clear hbb hpu hokb
   cases ov with
   | true =>
    have HN : Hid (res = false) := by rw [Hid, <- HRES.out, sides0, all_at hkl (by rw [HS1.out]; rfl)]; rfl
    go_wp2_with (go_at_call 57; refine (HEt.out _ (TT.out.trans0 (Tch.alloc _ _))).mono ?_; rintro e w3 ⟨rfl, T3⟩)
    go_ret
    exact ⟨ret_b HN.out.symm, (TT.out.trans0 (Tch.alloc _ _)).trans0 T3⟩
   | false =>
    cases rc with
    | false =>
     have HN : Hid (res = false) := by rw [Hid, <- HRES.out, sides0, all_at hkl (by rw [HS1.out]; rfl)]; rfl
     go_wp2_with (first
      | (go_at_call 57; refine (HEt.out _ (TT.out.trans0 (Tch.alloc _ _))).mono ?_; rintro e w3 ⟨rfl, T3⟩; have g0 := T3.cell (box_cell _ _ _ 0 (by simp)) (fun h => h); have g1 := T3.cell (box_cell _ _ _ 1 (by simp)) (fun h => h))
      | (go_at_call 56; refine (HRt.out _ ((TT.out.trans0 (Tch.alloc _ _)).trans0 T3)).mono ?_; rintro e w4 ⟨rfl, T4⟩))
     go_ret
     exact ⟨ret_b HN.out.symm, ((TT.out.trans0 (Tch.alloc _ _)).trans0 T3).trans0 T4⟩
    | true =>
     have HN : Hid (side1 s s.waits[k] = true) := HS1.out
     go_wp2_with (first
      | (go_at_call 57; refine (HEt.out _ (TT.out.trans0 (Tch.alloc _ _))).mono ?_; rintro e w3 ⟨rfl, T3⟩; have g0 := T3.cell (box_cell _ _ _ 0 (by simp)) (fun h => h); have g1 := T3.cell (box_cell _ _ _ 1 (by simp)) (fun h => h))
      | (go_at_call 56; refine (HRt.out _ ((TT.out.trans0 (Tch.alloc _ _)).trans0 T3)).mono ?_; rintro e w4 ⟨rfl, T4⟩))
     go_roundg (nw - (k + 1))
     case measure => omega
     case rel => exact ⟨k + 1, by go_num, by omega, by omega, ((TT.out.trans0 (Tch.alloc _ _)).trans0 T3).trans0 T4, HB.out.keep (((Tch.alloc _ _).trans0 T3).trans0 T4), all_more hkl HN.out I.out⟩
  ·have HA1 : Hid (s.waits.all (side1 s) = true) := all_idx (fun i hi => I.out i hi (by have := HNW.out; omega))
   have c7 := HB.out 7 _ rfl
   clear I
   obtain rfl : nw = k := by omega
   clear hgk hk
   go_wp2_with fail
   have TT0 := TT
   have HB0 := HB
   clear TT HB
   go_loopg [46] no (fun kx s46 wr => ∃ k2 : Nat, s46 = .int .i64 k2 /\ k2 <= no /\ no - k2 <= kx /\ Hid (Tch No w wr) /\ Hid (BoxAt wr w.heap.size [.int .i64 s.broker, .int .i64 s.nid, .int .i64 s.nseq, .int .i64 s.tx, .slice am nm cm, .slice aw nw cw, .slice ae ne ce, .slice ao no co, .slice an nn cn]) /\ Hid (∀ i (hi : i < s.opens.length), i < k2 -> side2 s s.opens[i] = true))
   case atStart => exact ⟨0, rfl, Nat.zero_le _, by omega, TT0.out, HB0.out, fun i _ h => absurd h (Nat.not_lt_zero _)⟩
   case round =>
    clear c7 hlt TT0 HB0
    obtain ⟨k2, rfl, hk2, hgk2, TT, HB, I⟩ := hrel
    by_cases hlt2 : k2 < no
    ·have hkl : k2 < s.opens.length := by have := HNO.out; omega
     have hb : ∃ b o, ao = some ⟨b, o, none⟩ /\ wr.cell? ⟨b, o + k2 * 2, none⟩ = some (.int .i64 s.opens[k2].tid) /\ ∃ a n c, wr.cell? ⟨b, o + k2 * 2 + 1, none⟩ = some (.slice a n c) /\ IsInts w (.slice a n c) s.opens[k2].parts := by
      rcases pends_cells HOS.out with ⟨_, h0⟩ | ⟨b, o, cap2, h1, _, _, _, h5⟩
      ·rw [h0] at hkl; simp at hkl
      ·rw [HNO.out] at h1
       injection h1 with h1 _ _
       obtain ⟨g1, a, c, g2, g3⟩ := h5 k2 hkl
       exact ⟨b, o, h1, TT.out.cell g1 (fun h => h), a, _, c, TT.out.cell g2 (fun h => h), g3⟩
     obtain ⟨b, o, rfl, e0, pa, pn, pc, e1, hpu⟩ := hb
     have hokb := HOK.out.opens _ (List.getElem_mem hkl)
     obtain ⟨bb, hbb⟩ : ∃ x, s.opens[k2] = x := ⟨_, rfl⟩
     have HBB := Lib.hid hbb
     rw [hbb] at e0 hpu hokb
     obtain ⟨t, ps⟩ := bb
     simp only at e0 hpu hokb
     have HEt := Lib.hid (fun W T => HE.out t W T)
     have HWt := Lib.hid (fun W T => HW.out t W T)
     have HMt : Hid (∀ W, Tch No w W -> Calls Tryz.prog 184 #[.agg #[.int .i64 s.broker, .int .i64 s.nid, .int .i64 s.nseq, .int .i64 s.tx, .slice am nm cm, .slice aw nw cw, .slice ae ne ce, .slice (some ⟨b, o, none⟩) no co, .slice an nn cn], .agg #[.int .i64 t, .slice pa pn pc]] W fun e w' => e = .returned (.bool (pendOk s ⟨t, ps⟩)) /\ Tch No W w') := fun W T => HMP.out t ps _ W hokb.1 hokb.2 (hpu.keep T)
     have HS1 : Hid (side2 s s.opens[k2] = (!hasP (·.tid) s.ends t && (!hasP (·.tid) s.waits t && pendOk s ⟨t, ps⟩))) := by rw [Hid, HBB.out]; rfl
     generalize hasP (fun x : EndM => x.tid) s.ends t = ov at HS1 HEt
     generalize hasP (fun x : BrM => x.tid) s.waits t = rd at HS1 HWt
     generalize pendOk s ⟨t, ps⟩ = rc at HS1 HMt
     generalize posP (fun x : EndM => x.tid) s.ends t = po at HEt
     generalize posP (fun x : BrM => x.tid) s.waits t = pw at HWt
     have n0 : Hid (BoxAt (wr.alloc (.cells #[.int .i64 t, .slice pa pn pc] 75)) w.heap.size [.int .i64 s.broker, .int .i64 s.nid, .int .i64 s.nseq, .int .i64 s.tx, .slice am nm cm, .slice aw nw cw, .slice ae ne ce, .slice (some ⟨b, o, none⟩) no co, .slice an nn cn]) := HB.out.keep (Tch.alloc _ _)
     have c7 := HB.out 7 _ rfl
     have d6 := n0.out 6 _ rfl
     clear hbb hpu hokb
     cases ov with
     | true =>
      have HN : Hid (res = false) := by rw [Hid, <- HRES.out, sides0, all_at hkl (by rw [HS1.out]; rfl)]; simp
      go_wp2_with (first
       | (go_at_call 57; refine (HEt.out _ (TT.out.trans0 (Tch.alloc _ _))).mono ?_; rintro e w3 ⟨rfl, T3⟩; have q0 := T3.cell (box_cell _ _ _ 0 (by simp)) (fun h => h); have q1 := T3.cell (box_cell _ _ _ 1 (by simp)) (fun h => h); have NB := Lib.hid (n0.out.keep T3); have r5 := NB.out 5 _ rfl)
       | (go_at_call 167; refine (HWt.out _ ((TT.out.trans0 (Tch.alloc _ _)).trans0 T3)).mono ?_; rintro e w4 ⟨rfl, T4⟩; have s0 := T4.cell q0 (fun h => h); have s1 := T4.cell q1 (fun h => h); have NB2 := Lib.hid (NB.out.keep T4); have z0 := NB2.out 0 _ rfl; have z1 := NB2.out 1 _ rfl; have z2 := NB2.out 2 _ rfl; have z3 := NB2.out 3 _ rfl; have z4 := NB2.out 4 _ rfl; have z5 := NB2.out 5 _ rfl; have z6 := NB2.out 6 _ rfl; have z7 := NB2.out 7 _ rfl; have z8 := NB2.out 8 _ rfl; skip)
       | (go_at_call 184; refine (HMt.out _ (((TT.out.trans0 (Tch.alloc _ _)).trans0 T3).trans0 T4)).mono ?_; rintro e w5 ⟨rfl, T5⟩))
      go_ret
      exact ⟨ret_b HN.out.symm, (((TT.out.trans0 (Tch.alloc _ _)).trans0 T3).trans0 T4)⟩
     | false =>
      cases rd with
      | true =>
       have HN : Hid (res = false) := by rw [Hid, <- HRES.out, sides0, all_at hkl (by rw [HS1.out]; rfl)]; simp
       go_wp2_with (first
        | (go_at_call 57; refine (HEt.out _ (TT.out.trans0 (Tch.alloc _ _))).mono ?_; rintro e w3 ⟨rfl, T3⟩; have q0 := T3.cell (box_cell _ _ _ 0 (by simp)) (fun h => h); have q1 := T3.cell (box_cell _ _ _ 1 (by simp)) (fun h => h); have NB := Lib.hid (n0.out.keep T3); have r5 := NB.out 5 _ rfl)
        | (go_at_call 167; refine (HWt.out _ ((TT.out.trans0 (Tch.alloc _ _)).trans0 T3)).mono ?_; rintro e w4 ⟨rfl, T4⟩; have s0 := T4.cell q0 (fun h => h); have s1 := T4.cell q1 (fun h => h); have NB2 := Lib.hid (NB.out.keep T4); have z0 := NB2.out 0 _ rfl; have z1 := NB2.out 1 _ rfl; have z2 := NB2.out 2 _ rfl; have z3 := NB2.out 3 _ rfl; have z4 := NB2.out 4 _ rfl; have z5 := NB2.out 5 _ rfl; have z6 := NB2.out 6 _ rfl; have z7 := NB2.out 7 _ rfl; have z8 := NB2.out 8 _ rfl; skip)
        | (go_at_call 184; refine (HMt.out _ (((TT.out.trans0 (Tch.alloc _ _)).trans0 T3).trans0 T4)).mono ?_; rintro e w5 ⟨rfl, T5⟩))
       go_ret
       exact ⟨ret_b HN.out.symm, (((TT.out.trans0 (Tch.alloc _ _)).trans0 T3).trans0 T4)⟩
      | false =>
       cases rc with
       | false =>
        have HN : Hid (res = false) := by rw [Hid, <- HRES.out, sides0, all_at hkl (by rw [HS1.out]; rfl)]; simp
        go_wp2_with (first
         | (go_at_call 57; refine (HEt.out _ (TT.out.trans0 (Tch.alloc _ _))).mono ?_; rintro e w3 ⟨rfl, T3⟩; have q0 := T3.cell (box_cell _ _ _ 0 (by simp)) (fun h => h); have q1 := T3.cell (box_cell _ _ _ 1 (by simp)) (fun h => h); have NB := Lib.hid (n0.out.keep T3); have r5 := NB.out 5 _ rfl)
         | (go_at_call 167; refine (HWt.out _ ((TT.out.trans0 (Tch.alloc _ _)).trans0 T3)).mono ?_; rintro e w4 ⟨rfl, T4⟩; have s0 := T4.cell q0 (fun h => h); have s1 := T4.cell q1 (fun h => h); have NB2 := Lib.hid (NB.out.keep T4); have z0 := NB2.out 0 _ rfl; have z1 := NB2.out 1 _ rfl; have z2 := NB2.out 2 _ rfl; have z3 := NB2.out 3 _ rfl; have z4 := NB2.out 4 _ rfl; have z5 := NB2.out 5 _ rfl; have z6 := NB2.out 6 _ rfl; have z7 := NB2.out 7 _ rfl; have z8 := NB2.out 8 _ rfl; skip)
         | (go_at_call 184; refine (HMt.out _ (((TT.out.trans0 (Tch.alloc _ _)).trans0 T3).trans0 T4)).mono ?_; rintro e w5 ⟨rfl, T5⟩))
        go_ret
        exact ⟨ret_b HN.out.symm, ((((TT.out.trans0 (Tch.alloc _ _)).trans0 T3).trans0 T4).trans0 T5)⟩
       | true =>
        have HN : Hid (side2 s s.opens[k2] = true) := HS1.out
        go_wp2_with (first
         | (go_at_call 57; refine (HEt.out _ (TT.out.trans0 (Tch.alloc _ _))).mono ?_; rintro e w3 ⟨rfl, T3⟩; have q0 := T3.cell (box_cell _ _ _ 0 (by simp)) (fun h => h); have q1 := T3.cell (box_cell _ _ _ 1 (by simp)) (fun h => h); have NB := Lib.hid (n0.out.keep T3); have r5 := NB.out 5 _ rfl)
         | (go_at_call 167; refine (HWt.out _ ((TT.out.trans0 (Tch.alloc _ _)).trans0 T3)).mono ?_; rintro e w4 ⟨rfl, T4⟩; have s0 := T4.cell q0 (fun h => h); have s1 := T4.cell q1 (fun h => h); have NB2 := Lib.hid (NB.out.keep T4); have z0 := NB2.out 0 _ rfl; have z1 := NB2.out 1 _ rfl; have z2 := NB2.out 2 _ rfl; have z3 := NB2.out 3 _ rfl; have z4 := NB2.out 4 _ rfl; have z5 := NB2.out 5 _ rfl; have z6 := NB2.out 6 _ rfl; have z7 := NB2.out 7 _ rfl; have z8 := NB2.out 8 _ rfl; skip)
         | (go_at_call 184; refine (HMt.out _ (((TT.out.trans0 (Tch.alloc _ _)).trans0 T3).trans0 T4)).mono ?_; rintro e w5 ⟨rfl, T5⟩))
        go_roundg (no - (k2 + 1))
        case measure => omega
        case rel => exact ⟨k2 + 1, by go_num, by omega, by omega, ((((TT.out.trans0 (Tch.alloc _ _)).trans0 T3).trans0 T4).trans0 T5), HB.out.keep ((((Tch.alloc _ _).trans0 T3).trans0 T4).trans0 T5), all_more hkl HN.out I.out⟩
    ·have HA2 : Hid (s.opens.all (side2 s) = true) := all_idx (fun i hi => I.out i hi (by have := HNO.out; omega))
     have c8 := HB.out 8 _ rfl
     obtain rfl : no = k2 := by omega
     clear I hgk2 hk2
     go_wp2_with fail
     have TT0 := TT
     have HB0 := HB
     clear TT HB
     go_loopg [80] nn (fun kx s80 wr => ∃ k3 : Nat, s80 = .int .i64 k3 /\ k3 <= nn /\ nn - k3 <= kx /\ Hid (Tch No w wr) /\ Hid (BoxAt wr w.heap.size [.int .i64 s.broker, .int .i64 s.nid, .int .i64 s.nseq, .int .i64 s.tx, .slice am nm cm, .slice aw nw cw, .slice ae ne ce, .slice ao no co, .slice an nn cn]) /\ Hid (∀ i (hi : i < s.noes.length), i < k3 -> side3 s s.noes[i] = true))
     case atStart => exact ⟨0, rfl, Nat.zero_le _, by omega, TT0.out, HB0.out, fun i _ h => absurd h (Nat.not_lt_zero _)⟩
     case round =>
      clear c8 hlt2 TT0 HB0
      obtain ⟨k3, rfl, hk3, hgk3, TT, HB, I⟩ := hrel
      by_cases hlt3 : k3 < nn
      ·have hkl : k3 < s.noes.length := by have := HNN.out; omega
       have hb : ∃ b o, an = some ⟨b, o, none⟩ /\ wr.cell? ⟨b, o + k3 * 2, none⟩ = some (.int .i64 s.noes[k3].tid) /\ ∃ a n c, wr.cell? ⟨b, o + k3 * 2 + 1, none⟩ = some (.slice a n c) /\ IsInts w (.slice a n c) s.noes[k3].parts := by
        rcases pends_cells HNS.out with ⟨_, h0⟩ | ⟨b, o, cap2, h1, _, _, _, h5⟩
        ·rw [h0] at hkl; simp at hkl
        ·rw [HNN.out] at h1
         injection h1 with h1 _ _
         obtain ⟨g1, a, c, g2, g3⟩ := h5 k3 hkl
         exact ⟨b, o, h1, TT.out.cell g1 (fun h => h), a, _, c, TT.out.cell g2 (fun h => h), g3⟩
       obtain ⟨b, o, rfl, e0, pa, pn, pc, e1, hpu⟩ := hb
       have hokb := HOK.out.noes _ (List.getElem_mem hkl)
       obtain ⟨bb, hbb⟩ : ∃ x, s.noes[k3] = x := ⟨_, rfl⟩
       have HBB := Lib.hid hbb
       rw [hbb] at e0 hpu hokb
       obtain ⟨t, ps⟩ := bb
       simp only at e0 hpu hokb
       have HEt := Lib.hid (fun W T => HE.out t W T)
       have HMt : Hid (∀ W, Tch No w W -> Calls Tryz.prog 184 #[.agg #[.int .i64 s.broker, .int .i64 s.nid, .int .i64 s.nseq, .int .i64 s.tx, .slice am nm cm, .slice aw nw cw, .slice ae ne ce, .slice ao no co, .slice (some ⟨b, o, none⟩) nn cn], .agg #[.int .i64 t, .slice pa pn pc]] W fun e w' => e = .returned (.bool (pendOk s ⟨t, ps⟩)) /\ Tch No W w') := fun W T => HMP.out t ps _ W hokb.1 hokb.2 (hpu.keep T)
       have HS1 : Hid (side3 s s.noes[k3] = (hasP (·.tid) s.ends t && (!yesAt s.ends t && pendOk s ⟨t, ps⟩))) := by rw [Hid, HBB.out]; rfl
       have HY : Hid (hasP (·.tid) s.ends t = true -> ∃ be oe, ae = some ⟨be, oe, none⟩ /\ posP (·.tid) s.ends t < ne /\ ∀ W, Tch No w W -> W.cell? ⟨be, oe + posP (·.tid) s.ends t * 2 + 1, none⟩ = some (.bool (yesAt s.ends t))) := by
        intro hh
        obtain ⟨hpl, _⟩ := (hasP_pos HSE.out t).1 hh
        rcases ends_cells HES.out with ⟨_, h0⟩ | ⟨be, oe, cap2, h1, _, _, _, h5⟩
        ·rw [h0] at hpl; simp at hpl
        ·rw [HNE.out] at h1
         injection h1 with h1 _ _
         refine ⟨be, oe, h1, by rw [<- HNE.out]; exact hpl, fun W T => ?_⟩
         have := T.cell (h5 _ hpl).2 (fun h => h)
         rw [this, yesAt, List.getElem?_eq_getElem hpl]; rfl
       generalize yesAt s.ends t = ys at HS1 HY
       generalize hasP (fun x : EndM => x.tid) s.ends t = ov at HS1 HEt HY
       generalize pendOk s ⟨t, ps⟩ = rc at HS1 HMt
       generalize posP (fun x : EndM => x.tid) s.ends t = po at HEt HY
       have n0 : Hid (BoxAt (wr.alloc (.cells #[.int .i64 t, .slice pa pn pc] 75)) w.heap.size [.int .i64 s.broker, .int .i64 s.nid, .int .i64 s.nseq, .int .i64 s.tx, .slice am nm cm, .slice aw nw cw, .slice ae ne ce, .slice ao no co, .slice (some ⟨b, o, none⟩) nn cn]) := HB.out.keep (Tch.alloc _ _)
       have c8 := HB.out 8 _ rfl
       have d6 := n0.out 6 _ rfl
       clear hbb hpu hokb
       cases ov with
       | false =>
        have HN : Hid (res = false) := by rw [Hid, <- HRES.out, sides0, all_at hkl (by rw [HS1.out]; rfl)]; simp
        go_wp2_with (go_at_call 57; refine (HEt.out _ (TT.out.trans0 (Tch.alloc _ _))).mono ?_; rintro e w3 ⟨rfl, T3⟩)
        go_ret
        exact ⟨ret_b HN.out.symm, ((TT.out.trans0 (Tch.alloc _ _)).trans0 T3)⟩
       | true =>
        obtain ⟨be, oe, rfl, hpo, hye⟩ := HY.out rfl
        have HYE := Lib.hid hye
        clear hye HY
        cases ys with
        | true =>
         have HN : Hid (res = false) := by rw [Hid, <- HRES.out, sides0, all_at hkl (by rw [HS1.out]; rfl)]; simp
         go_wp2_with (first
          | (go_at_call 57; refine (HEt.out _ (TT.out.trans0 (Tch.alloc _ _))).mono ?_; rintro e w3 ⟨rfl, T3⟩; have q0 := T3.cell (box_cell _ _ _ 0 (by simp)) (fun h => h); have q1 := T3.cell (box_cell _ _ _ 1 (by simp)) (fun h => h); have NB := Lib.hid (n0.out.keep T3); have z0 := NB.out 0 _ rfl; have z1 := NB.out 1 _ rfl; have z2 := NB.out 2 _ rfl; have z3 := NB.out 3 _ rfl; have z4 := NB.out 4 _ rfl; have z5 := NB.out 5 _ rfl; have z6 := NB.out 6 _ rfl; have z7 := NB.out 7 _ rfl; have z8 := NB.out 8 _ rfl; have hye := HYE.out _ ((TT.out.trans0 (Tch.alloc _ _)).trans0 T3))
          | (go_at_call 184; refine (HMt.out _ ((TT.out.trans0 (Tch.alloc _ _)).trans0 T3)).mono ?_; rintro e w5 ⟨rfl, T5⟩))
         go_ret
         exact ⟨ret_b HN.out.symm, ((TT.out.trans0 (Tch.alloc _ _)).trans0 T3)⟩
        | false =>
         cases rc with
         | false =>
          have HN : Hid (res = false) := by rw [Hid, <- HRES.out, sides0, all_at hkl (by rw [HS1.out]; rfl)]; simp
          go_wp2_with (first
           | (go_at_call 57; refine (HEt.out _ (TT.out.trans0 (Tch.alloc _ _))).mono ?_; rintro e w3 ⟨rfl, T3⟩; have q0 := T3.cell (box_cell _ _ _ 0 (by simp)) (fun h => h); have q1 := T3.cell (box_cell _ _ _ 1 (by simp)) (fun h => h); have NB := Lib.hid (n0.out.keep T3); have z0 := NB.out 0 _ rfl; have z1 := NB.out 1 _ rfl; have z2 := NB.out 2 _ rfl; have z3 := NB.out 3 _ rfl; have z4 := NB.out 4 _ rfl; have z5 := NB.out 5 _ rfl; have z6 := NB.out 6 _ rfl; have z7 := NB.out 7 _ rfl; have z8 := NB.out 8 _ rfl; have hye := HYE.out _ ((TT.out.trans0 (Tch.alloc _ _)).trans0 T3))
           | (go_at_call 184; refine (HMt.out _ ((TT.out.trans0 (Tch.alloc _ _)).trans0 T3)).mono ?_; rintro e w5 ⟨rfl, T5⟩))
          go_ret
          exact ⟨ret_b HN.out.symm, (((TT.out.trans0 (Tch.alloc _ _)).trans0 T3).trans0 T5)⟩
         | true =>
          have HN : Hid (side3 s s.noes[k3] = true) := HS1.out
          go_wp2_with (first
           | (go_at_call 57; refine (HEt.out _ (TT.out.trans0 (Tch.alloc _ _))).mono ?_; rintro e w3 ⟨rfl, T3⟩; have q0 := T3.cell (box_cell _ _ _ 0 (by simp)) (fun h => h); have q1 := T3.cell (box_cell _ _ _ 1 (by simp)) (fun h => h); have NB := Lib.hid (n0.out.keep T3); have z0 := NB.out 0 _ rfl; have z1 := NB.out 1 _ rfl; have z2 := NB.out 2 _ rfl; have z3 := NB.out 3 _ rfl; have z4 := NB.out 4 _ rfl; have z5 := NB.out 5 _ rfl; have z6 := NB.out 6 _ rfl; have z7 := NB.out 7 _ rfl; have z8 := NB.out 8 _ rfl; have hye := HYE.out _ ((TT.out.trans0 (Tch.alloc _ _)).trans0 T3))
           | (go_at_call 184; refine (HMt.out _ ((TT.out.trans0 (Tch.alloc _ _)).trans0 T3)).mono ?_; rintro e w5 ⟨rfl, T5⟩))
          go_roundg (nn - (k3 + 1))
          case measure => omega
          case rel => exact ⟨k3 + 1, by go_num, by omega, by omega, (((TT.out.trans0 (Tch.alloc _ _)).trans0 T3).trans0 T5), HB.out.keep (((Tch.alloc _ _).trans0 T3).trans0 T5), all_more hkl HN.out I.out⟩
      ·have HA3 : Hid (s.noes.all (side3 s) = true) := all_idx (fun i hi => I.out i hi (by have := HNN.out; omega))
       have HN : Hid (res = true) := by rw [Hid, <- HRES.out, sides0, HA1.out, HA2.out, HA3.out]; rfl
       obtain rfl : nn = k3 := by omega
       clear I hgk3 hk3
       go_wp2_with fail
       go_ret
       exact ⟨ret_b HN.out.symm, TT.out⟩
end
end Go.Proofs.YtafndmnbnmlklaaGreat
