/- The reference's disk: Append. No condition. -/
import Derived.Test.YtbhemlddncmmfaaRef5
import Derived.Deep.DeepCutAuto
namespace Go.Proofs.Ytbhemlddncmmfaa
open Go.RowKit Go.Maps
set_option linter.unusedVariables false
set_option linter.unusedSimpArgs false

theorem AppPost.two {e : TypeId} {w w1 w2 : World} {ys zs : List UInt8} {v1 v2 : Value} (h1 : AppPost e w (.slice none 0 0) ys v1 w1) (h2 : AppPost e w1 v1 zs v2 w2) : Tch No w w2 ∧ ∀ k, v2.ownBlock = some k → w.heap.size ≤ k := by
  have t1 : Tch No w w1 := Tch.grown h1.grow (fun k hk _ => by simp [Value.ownBlock] at hk)
  have b1 : ∀ j, v1.ownBlock = some j → w.heap.size ≤ j := by
    intro j hj
    rcases h1.loc with e | e
    · rw [e] at hj; simp [Value.ownBlock] at hj
    · rw [e] at hj; simp at hj; omega
  refine ⟨t1.fresh (Tch.grown h2.grow (F := fun k => w.heap.size ≤ k) (fun k hk _ => b1 k hk)) (fun i hi => hi), fun j hj => ?_⟩
  have := t1.size
  rcases h2.loc with e | e
  · rw [e] at hj; exact b1 j hj
  · rw [e] at hj; simp at hj; omega
theorem mGet_at {M : List FE} (hn : (names M).Nodup) {i : Nat} (hi : i < M.length) : mGet M M[i].name = some M[i] := mGet_mem hn (List.getElem_mem hi)
theorem mApp_new {M : List FE} {n : Key} (h : mGet M n = none) (bs : List UInt8) : mAppL (M ++ [⟨n, [], 0, false⟩]) n bs = mAppL M n bs := by
  have h1 : mGet (M ++ [⟨n, [], 0, false⟩]) n = some ⟨n, [], 0, false⟩ := by
    unfold mGet at h ⊢
    rw [List.find?_append, h]; simp
  unfold mAppL
  rw [h1, h]
  simp only [Option.isSome_some, if_true, Option.isSome_none, Bool.false_eq_true, if_false]
  rw [List.map_append]
  congr 1
  · refine (List.map_congr_left (g := id) fun y hy => ?_).trans (List.map_id _)
    have hne := mGet_none h
    rw [if_neg (fun e => hne (by rw [← e]; exact List.mem_map_of_mem (f := fun x : FE => x.name) hy))]; rfl
  · simp
/-- The bytes of an entry are laid anew. -/
theorem app_closeR {w w2 : World} {rb room g m cap : Nat} {L : List RE} (h : IsRef w rb room (.slice (some ⟨g, 0, none⟩) m cap) L) {i : Nat} (hi : i < L.length) {nv : Value} {bs ys : List UInt8} (hnv : SlB w2 nv ys) (hys : Hid (ys = L[i].f.b ++ bs)) (hf : ∀ k, nv.ownBlock = some k → w.heap.size ≤ k) (t : Tch No w w2)
    (hroom : mUsed (L.map (·.f)) + bs.length ≤ 1048576) {n : Key} (hn : L[i].f.name = n) :
    RefPost w rb room (.slice (some ⟨g, 0, none⟩) m cap) L (.int .i64 0) (mAppL (L.map (·.f)) n bs) (.returned (.int .i64 0)) (w2.setCell ⟨g, i * 4 + 1, none⟩ nv) := by
  have hys' := hys.out
  subst hys'
  have h2 := h.tch0 t
  have hg : g < w.heap.size := RefF.lt h g (.inr (.inl rfl))
  have hrb : rb < w.heap.size := RefF.lt h rb (.inl rfl)
  have hnl := h.nlen _ (List.getElem_mem hi)
  have h3 := h2.setR hi ⟨⟨L[i].f.name, L[i].f.b ++ bs, L[i].f.sure, L[i].f.named⟩, nv⟩ (j := 1) (c := nv) (by omega) rfl hnv (fun k hk => by have := hf k hk; omega) (by have := h.le _ (List.getElem_mem hi); show L[i].f.sure ≤ (L[i].f.b ++ bs).length; rw [List.length_append]; omega) (by have := h.sz.1; simp only [List.length_append]; omega)
    (by rw [names_set hi ⟨⟨L[i].f.name, L[i].f.b ++ bs, L[i].f.sure, L[i].f.named⟩, nv⟩ rfl]; exact h.nodup) hnl
  refine ref_set hi h3 ?_ (t.no.trans (Tch.setCell (F := fun k => k = g) _ _ _ (fun _ => rfl)) (fun _ _ e => e)) (fun k hk => .inr (hf k hk))
  rw [set_f]
  have := map_at (nd_map h.nodup) (fun x => { x with b := x.b ++ bs }) (i := i) (by simpa using hi)
  have h4 := mGet_at (nd_map h.nodup) (i := i) (by simpa using hi)
  simp only [List.getElem_map, hn] at this h4
  rw [mAppL, if_pos (by rw [h4]; rfl), this, hn]
/-- A new entry stands behind the others. -/
theorem add_closeR {w w1 : World} {rb room : Nat} {v : Value} {L : List RE} (h : IsRef w rb room v L) {n : Key} (hn : n ∉ L.map (·.f.name)) (hnl : n.length ≤ lim) {o : Obj} {a : Option Addr} {n' cap : Nat} (hA : AppF (w.alloc o) v (L.length + 1) (rcells L ++ rcs ⟨⟨n, [], 0, false⟩, .slice none 0 0⟩) (.slice a n' cap) w1) :
    IsRef (w1.setCell ⟨rb, 1, none⟩ (.slice a n' cap)) rb room (.slice a n' cap) (L ++ [⟨⟨n, [], 0, false⟩, .slice none 0 0⟩]) ∧ Tch (RefF rb v L) w (w1.setCell ⟨rb, 1, none⟩ (.slice a n' cap)) ∧ (∀ k, RefF rb (.slice a n' cap) (L ++ [⟨⟨n, [], 0, false⟩, .slice none 0 0⟩]) k → RefF rb v L k ∨ w.heap.size ≤ k) ∧
      ∃ g, a = some ⟨g, 0, none⟩ ∧ n' = L.length + 1 := by
  have hrb : rb < w.heap.size := blk_lt h.disk
  have t0 : Tch (fun k => v.ownBlock = some k) w w1 := ((Tch.alloc w o).no (F := fun k => v.ownBlock = some k)).trans (Tch.grown hA.grow (fun k hk _ => hk)) (fun _ _ h => h)
  have t4 : Tch (fun j => j = rb) w1 (w1.setCell ⟨rb, 1, none⟩ (.slice a n' cap)) := Tch.setCell _ _ _ (fun _ => rfl)
  have hloc : ∀ k, (Value.slice a n' cap).ownBlock = some k → v.ownBlock = some k ∨ w.heap.size ≤ k := by
    intro k hk
    rcases hA.loc with e | e
    · exact .inl (by rw [← e]; exact hk)
    · rw [e] at hk; simp at hk; exact .inr (by omega)
  have hE : rcells L ++ rcs ⟨⟨n, [], 0, false⟩, .slice none 0 0⟩ = rcells (L ++ [⟨⟨n, [], 0, false⟩, .slice none 0 0⟩]) := by rw [rcells_append]; simp [rcells]
  have hrv : (Value.slice a n' cap).ownBlock ≠ some rb := fun e => by
    rcases hloc rb e with q | q
    · exact h.vne q
    · omega
  have hmem : ∀ x, x ∈ L ++ [(⟨⟨n, [], 0, false⟩, .slice none 0 0⟩ : RE)] → x ∈ L ∨ x = ⟨⟨n, [], 0, false⟩, .slice none 0 0⟩ := fun x hx => by simpa using hx
  refine ⟨⟨?_, ?_, fun x hx => ?_, hrv, fun x hx => ?_, fun x hx => ?_, ⟨?_, h.sz.2⟩, ?_, fun x hx => ?_⟩, ?_, ?_, ?_⟩
  · have hd := blk_tch t0 h.disk h.vne
    simpa using blk_set hd 1 (.slice a n' cap)
  · rw [List.length_append, ← hE]
    exact own_tch hA.own t4 (fun j hj e => hrv (by rw [← show j = rb from e]; exact hj))
  · rcases hmem x hx with hx | rfl
    · exact ((h.bts x hx).tch t0 (fun k hk e => (h.bne x hx).2 k hk e)).tch t4 (fun k hk e => (h.bne x hx).1 (by rw [hk, e]))
    · exact SlB.nil _
  · rcases hmem x hx with hx | rfl
    · refine ⟨(h.bne x hx).1, fun k hk e => ?_⟩
      rcases hloc k e with q | q
      · exact (h.bne x hx).2 k hk q
      · have := (h.bts x hx).blt k hk; omega
    · exact ⟨by simp [Value.ownBlock], fun k hk => by simp [Value.ownBlock] at hk⟩
  · rcases hmem x hx with hx | rfl
    · exact h.le x hx
    · exact Nat.le_refl _
  · rw [List.map_append, mUsed_append]; have := h.sz.1; simp only [mUsed, List.map_cons, List.map_nil, List.sum_cons, List.sum_nil, List.length_nil] at this ⊢; omega
  · rw [List.map_append, List.nodup_append]
    exact ⟨h.nodup, by simp, fun a ha b hb => by simp at hb; subst hb; exact fun e => hn (e ▸ ha)⟩
  · rcases hmem x hx with hx | rfl
    · exact h.nlen x hx
    · exact hnl
  · exact (t0.mono (fun k _ e => .inr (.inl e))).trans t4 (fun j _ e => .inl e)
  · rintro k (rfl | hk | ⟨x, hx, hk⟩)
    · exact .inl (.inl rfl)
    · rcases hloc k hk with q | q
      · exact .inl (.inr (.inl q))
      · exact .inr q
    · rcases hmem x hx with hx | rfl
      · exact .inl (.inr (.inr ⟨x, hx, hk⟩))
      · simp [Value.ownBlock] at hk
  · rcases hA.own.2 with ⟨_, h0⟩ | ⟨g, c, cur, hv, _⟩
    · omega
    · injection hv with e1 e2 e3
      exact ⟨g, e1, e2⟩
theorem used_at : ∀ (M : List FE) (i : Nat) (hi : i < M.length), M[i].b.length ≤ mUsed M
  | [], i, hi => by simp at hi
  | x :: r, 0, _ => by simp [mUsed]
  | x :: r, i + 1, hi => by
    have := used_at r i (by simpa using hi)
    simp only [List.getElem_cons_succ, mUsed, List.map_cons, List.sum_cons] at this ⊢
    omega
theorem str_back (s : ByteArray) : (⟨s.data.toList.toArray⟩ : ByteArray) = s := by cases s; simp

set_option maxRecDepth 100000 in
set_option maxHeartbeats 4000000 in
theorem rappend_any (rb room : Nat) (v : Value) (L : List RE) (s : ByteArray) (vb : Value) (bs : List UInt8) (w : World) (h : IsRef w rb room v L) (hb : SlB w vb bs) (hs : s.data.toList.length ≤ lim) (hcnt : L.length ≤ 999998) (hbl : bs.length ≤ 900000000) (hvm : ∀ k, vb.ownBlock = some k → ¬ RefF rb v L k) :
    Calls Try.prog 24 #[.pointer (some ⟨rb, 0, none⟩), .string s, vb] w (RefPost w rb room v L (.int .i64 ((mAppend (L.map (·.f)) room s.data.toList bs).1 : Nat)) (mAppend (L.map (·.f)) room s.data.toList bs).2) := by
  obtain ⟨i0, hi0, hz0, hz1, hz2⟩ := info_parts infoB
  have hmay := Lib.hid (may_any s w hs)
  have H := Lib.hid h
  have HV := Lib.hid hb
  have HVM := Lib.hid hvm
  obtain ⟨av, mv, cv, hva, hmv⟩ := hb.shape'
  have hml : mv ≤ 900000000 := by rw [hmv.out]; exact hbl
  obtain ⟨mr, hmr⟩ : ∃ mr, Hid (mAppend (L.map (·.f)) room s.data.toList bs = mr) := ⟨_, rfl⟩
  rw [hmr.out]
  cases hg : goodB s.data.toList with
  | false =>
    rw [hg] at hmay
    have hmm : Hid (mr = (1, L.map (·.f))) := by rw [Hid, ← hmr.out, mAppend, if_pos hg]
    clear h hg hb hvm
    subst hva
    go_enter Try.func24, Try.ntmps24
    go_wp2_with (go_at_call 42; go_must (refine hmay.out.mono ?_); rintro e w1 ⟨rfl, rfl⟩)
    go_ret
    rw [hmm.out]
    exact RefPost.same H.out
  | true =>
    rw [hg] at hmay
    have c0 := h.cell0
    obtain ⟨hul1, hul2⟩ := h.sz
    obtain ⟨u, hu⟩ : ∃ u, mUsed (L.map (·.f)) = u := ⟨_, rfl⟩
    have hU : Hid (Calls Try.prog 36 #[.pointer (some ⟨rb, 0, none⟩)] w.drew fun e w' => e = .returned (.int .i64 (u : Nat)) ∧ w.drew = w') := by
      have := rused_any rb room v L w.drew (h.tch0 (Tch.drew _)) (by omega)
      rw [hu] at this
      exact this
    rw [hu] at hul1
    have hw := Lib.hid (IntWalk.i64_in ((room : Int) - (u : Int)) ⟨by omega, by omega⟩)
    by_cases hroom : room < u + mv
    · have hmm : Hid (mr = (5, L.map (·.f))) := by rw [Hid, ← hmr.out, mAppend, if_neg (by rw [hg]; simp), if_pos (by rw [hu, ← hmv.out]; exact hroom)]
      have ht : decide ((room : Int) - (u : Int) < (mv : Int)) = true := by simp; omega
      clear h hg hb hvm hu hs
      subst hva
      go_enter Try.func24, Try.ntmps24
      go_wp2_with (go_at_call 42; go_must (refine hmay.out.mono ?_); rintro e w1 ⟨rfl, rfl⟩)
      have hw' := hw.out
      go_region_held3 (fun w' => w'.cell? ⟨rb, 0, none⟩ = some (.int .i64 room))
        (first | go_keep)
        (first | (go_at_call 36; refine hU.out.mono ?_; rintro e w2 ⟨rfl, rfl⟩))
      go_wp2
      go_ret
      rw [hmm.out]
      exact RefPost.same' H.out (Tch.drew _)
    · have hmm : Hid (mr = (0, mAppL (L.map (·.f)) s.data.toList bs)) := by rw [Hid, ← hmr.out, mAppend, if_neg (by rw [hg]; simp), if_neg (by rw [hu, ← hmv.out]; exact hroom)]
      have ht : decide ((room : Int) - (u : Int) < (mv : Int)) = false := by simp; omega
      have hat := Lib.hid (at_any rb room v L s w.drew (h.tch0 (Tch.drew _)) (by omega))
      have HU := Lib.hid hu
      have hsum : Hid (mUsed (L.map (·.f)) + bs.length ≤ 1048576) := by rw [Hid, hu, ← hmv.out]; omega
      have HS := Lib.hid hs
      clear hg hb hvm hu hs hul1 hul2
      subst hva
      rcases at_split (L.map (·.f)) s.data.toList with ⟨i, hi, h1, h2, h3⟩ | ⟨h1, h2⟩
      · rw [h1] at hat
        have hiL : i < L.length := by simpa using hi
        obtain ⟨g, cap, hv, _, k1, _, _⟩ := h.at_ hiL
        subst hv
        have HW := Lib.hid (H.out.tch0 (Tch.drew w))
        have VB := Lib.hid (HV.out.tch0 (Tch.drew w))
        have HN : Hid (L[i].f.name = s.data.toList) := by simpa [Hid] using h2
        obtain ⟨b0, hb0'⟩ : ∃ b0, L[i].f.b = b0 := ⟨L[i].f.b, rfl⟩
        have hb0 := Lib.hid hb0'
        clear hb0'
        have B0 : Hid (SlB w.drew L[i].v b0) := by rw [← hb0.out]; exact HW.out.bts _ (List.getElem_mem hiL)
        obtain ⟨a0, m0, cap0, hv0, hm0⟩ := B0.out.shape'
        rw [hv0] at k1 B0
        obtain ⟨m, hm⟩ : ∃ m, Hid (L.length = m) := ⟨_, rfl⟩
        have c1 := h.cell1
        rw [hm.out] at c1
        have hiL' : (i : Int) < (m : Int) := by have := hm.out; omega
        have hz0' : (0 : Int) ≤ (i : Int) := by omega
        rw [hm.out] at H HW HVM
        rw [show (RefPost w rb room (.slice (some ⟨g, 0, none⟩) L.length cap) L (.int .i64 (mr.1 : Nat)) mr.2) = RefPost w rb room (.slice (some ⟨g, 0, none⟩) m cap) L (.int .i64 (mr.1 : Nat)) mr.2 by rw [hm.out]]
        have f1 := h.row.frozenAt (i * 4 + 1)
        have hlb : b0.length + bs.length ≤ 1000000000 := by have := used_at (L.map (·.f)) i hi; simp only [List.getElem_map] at this; rw [hb0.out] at this; have h7 := hsum.out; omega
        clear h h1 h2 h3 hv0 hi hm0
        go_enter Try.func24, Try.ntmps24
        go_wp2_with (go_at_call 42; go_must (refine hmay.out.mono ?_); rintro e w1 ⟨rfl, rfl⟩)
        have hw' := hw.out
        go_region_held3 (fun w' => w'.cell? ⟨rb, 0, none⟩ = some (.int .i64 room))
          (first | go_keep)
          (first | (go_at_call 36; refine hU.out.mono ?_; rintro e w2 ⟨rfl, rfl⟩))
        clear hw'
        go_wp2_with fail
        refine hat.out.mono ?_
        rintro e w2 ⟨rfl, rfl⟩
        go_wp2_with fail
        go_region_law ((first
          | (refine step_appS rfl _ (.tmp 55) 30 rfl 5 i0 Try.underlying30 hi0 hz0 hz1 hz2 (.slice none 0 0) [] rfl (World.ownsRow_nil _ _ _ _) (.slice a0 m0 cap0) b0 rfl ((B0.out.tch0 (Tch.drew _)).toS) (by unfold lim; simp only [List.length_nil]; omega) b0 (by simp [Hid]) ?_; intro a1 n1 cp1 w1 hA1 hn1; have T1 : Tch No w.drew w1 := (Tch.drew _).trans0 (Tch.grown hA1.grow (fun q hq _ => by simp [Value.ownBlock] at hq)); have j1 := T1.cell c1 (fun h => h); have j2 := T1.cell k1 (fun h => h))
          | (refine step_appS rfl _ (.tmp 57) 30 rfl 5 i0 Try.underlying30 hi0 hz0 hz1 hz2 (.slice a1 n1 cp1) b0 rfl hA1.own (.slice av mv cv) bs rfl ((VB.out.tch0 T1).toS) (by unfold lim; omega) (b0 ++ bs) rfl ?_; intro a2 n2 cp2 w2 hA2 hn2; have T2 : Tch No w.drew w2 := (Tch.drew _).trans0 (AppPost.two hA1 hA2).1; have j3 := T2.cell k1 (fun h => h); have j5 := T2.cell c1 (fun h => h); have j4 := (World.frozen?_of_block (T2.block g (RefF.lt HW.out g (.inr (.inl rfl))) (fun h => h))).trans f1)))
        all_goals
          go_wp2_with fail
          go_ret
          rw [hmm.out]
          exact RefPost.trans (Tch.drew w).no (fun k hk => .inl hk) (app_closeR HW.out hiL (SlB.ofRow hA2.own (by unfold lim; simp; omega)) (by rw [Hid, hb0.out]) (fun k hk => Nat.le_trans (by simp) ((AppPost.two hA1 hA2).2 k hk)) T2 hsum.out HN.out)
      · rw [h1] at hat
        have hnn : Hid (s.data.toList ∉ L.map (·.f.name)) := by have := mGet_none h2; unfold names at this; rw [List.map_map] at this; exact this
        have HNew := Lib.hid (mApp_new h2 bs)
        have c1 := h.cell1
        have hown := h.row
        obtain ⟨aL, nL, cL, hvL, hnL⟩ := own_shape' hown
        have HSRC : Hid (SrcF (w.drew.alloc (.cells #[.string s, .slice none 0 0, .int .i64 0, .bool false] 63)) (.slice (some ⟨w.heap.size, 0, none⟩) 1 1) 1 (rcs ⟨⟨s.data.toList, [], 0, false⟩, .slice none 0 0⟩)) := by
          refine ⟨rfl, fun x hx => ?_, .inr ⟨_, _, rfl, fun j x hx => ?_⟩⟩
          · simp only [rcs, List.mem_cons, List.mem_nil_iff, or_false] at hx
            rcases hx with rfl | rfl | rfl | rfl <;> rfl
          · rw [addr_add, Nat.zero_add]
            have hsz : w.drew.heap.size = w.heap.size := World.size_drew w
            rw [← hsz, World.cell?_alloc_mark]
            simp only [rcs, str_back] at hx
            rw [← hx]; simp
        have f1 := blk_free h.disk 1
        have hOW : Hid ((w.drew.alloc (.cells #[.string s, .slice none 0 0, .int .i64 0, .bool false] 63)).ownsRow 0 63 4 v L.length (rcells L)) := own_tch hown ((Tch.drew w).trans0 (Tch.alloc _ _)) (fun _ _ h => h)
        subst hvL
        have hcl := Lib.hid hcnt
        clear h h1 h2 hown
        go_enter Try.func24, Try.ntmps24
        go_wp2_with (go_at_call 42; go_must (refine hmay.out.mono ?_); rintro e w1 ⟨rfl, rfl⟩)
        have hw' := hw.out
        go_region_held3 (fun w' => w'.cell? ⟨rb, 0, none⟩ = some (.int .i64 room))
          (first | go_keep)
          (first | (go_at_call 36; refine hU.out.mono ?_; rintro e w2 ⟨rfl, rfl⟩))
        clear hw'
        go_wp2_with fail
        refine hat.out.mono ?_
        rintro e w2 ⟨rfl, rfl⟩
        have c1' := (Tch.drew w).trans0 (Tch.alloc w.drew (.cells #[.string s, .slice none 0 0, .int .i64 0, .bool false] 63))
        have c2 := c1'.cell c1 (fun h => h)
        have f2 := blk_tch c1' H.out.disk (fun h => h)
        have C1 := Lib.hid c1'
        have F2 := Lib.hid f2
        clear c1' f2
        go_wp2_with (at_builtin; go_must (refine wpList_appF rfl (.tmp 30) (.tmp 33) rfl _ _ _ rfl hOW.out _ _ _ rfl HSRC.out (by omega) ?_); intro aF nF cpF wF hF; obtain ⟨q1, q2, q3, g, rfl, rfl⟩ := add_closeR (H.out.tch0 (Tch.drew w)) hnn.out HS.out hF; have j1 := hF.grow.cell c2 (fun e => H.out.vne e.symm); have j2 := blk_free ((hF.grow.block rb (blk_lt F2.out) (fun e => H.out.vne e.symm)).trans F2.out) 1; have HW := Lib.hid q1; have Q2 := Lib.hid q2; have Q3 := Lib.hid q3; clear q1 q2 q3 hF)
        clear j1 j2 c2 c1 f1
        obtain ⟨new, hnew⟩ : ∃ new : RE, new = ⟨⟨s.data.toList, [], 0, false⟩, .slice none 0 0⟩ := ⟨_, rfl⟩
        have HNE := Lib.hid hnew
        rw [← hnew] at HW Q3
        clear hnew
        have hiL : L.length < (L ++ [new]).length := by simp
        have c1 := HW.out.cell1
        have hrow := HW.out.row
        simp only [List.length_append, List.length_cons, List.length_nil, Nat.zero_add] at hrow
        have f1 := hrow.frozenAt (L.length * 4 + 1)
        clear hrow
        have eL : (L ++ [new])[L.length] = new := by simp
        have k1 : (wF.setCell ⟨rb, 1, none⟩ (.slice (some ⟨g, 0, none⟩) (L.length + 1) cpF)).cell? ⟨g, L.length * 4 + 1, none⟩ = some (.slice none 0 0) := by
          obtain ⟨g2, cap2, e, _, k, _, _⟩ := HW.out.at_ hiL
          injection e with e1 e2 e3
          injection e1 with e1
          injection e1 with e1
          subst e1
          rw [eL, HNE.out] at k; exact k
        have VB : Hid (SlB (wF.setCell ⟨rb, 1, none⟩ (.slice (some ⟨g, 0, none⟩) (L.length + 1) cpF)) (.slice av mv cv) bs) := (HV.out.tch0 (Tch.drew w)).tch Q2.out HVM.out
        obtain ⟨b0, hb0⟩ : ∃ b0 : List UInt8, b0 = [] := ⟨_, rfl⟩
        have B0 : Hid (SlB (wF.setCell ⟨rb, 1, none⟩ (.slice (some ⟨g, 0, none⟩) (L.length + 1) cpF)) (.slice none 0 0) b0) := by rw [hb0]; exact SlB.nil _
        have hlb : b0.length + bs.length ≤ 1000000000 := by rw [hb0]; simp; omega
        have HB0 := Lib.hid hb0
        have EL := Lib.hid eL
        have hcl' := hcl.out
        have hiL' : (L.length : Int) < (L.length : Int) + 1 := by omega
        have hz0' : (0 : Int) ≤ (L.length : Int) := by omega
        clear hb0 eL
        go_region_law ((first
          | (refine step_appS rfl _ (.tmp 55) 30 rfl 5 i0 Try.underlying30 hi0 hz0 hz1 hz2 (.slice none 0 0) [] rfl (World.ownsRow_nil _ _ _ _) (.slice none 0 0) b0 rfl ((B0.out.tch0 (Tch.drew _)).toS) (by unfold lim; simp only [List.length_nil]; omega) b0 (by simp [Hid]) ?_; intro a1 n1 cp1 w1 hA1 hn1; have T1 : Tch No (wF.setCell ⟨rb, 1, none⟩ (.slice (some ⟨g, 0, none⟩) (L.length + 1) cpF)) w1 := (Tch.drew _).trans0 (Tch.grown hA1.grow (fun q hq _ => by simp [Value.ownBlock] at hq)); have j1 := T1.cell c1 (fun h => h); have j2 := T1.cell k1 (fun h => h))
          | (refine step_appS rfl _ (.tmp 57) 30 rfl 5 i0 Try.underlying30 hi0 hz0 hz1 hz2 (.slice a1 n1 cp1) b0 rfl hA1.own (.slice av mv cv) bs rfl ((VB.out.tch0 T1).toS) (by unfold lim; omega) (b0 ++ bs) rfl ?_; intro a2 n2 cp2 w2 hA2 hn2; have T2 : Tch No (wF.setCell ⟨rb, 1, none⟩ (.slice (some ⟨g, 0, none⟩) (L.length + 1) cpF)) w2 := (Tch.drew _).trans0 (AppPost.two hA1 hA2).1; have j3 := T2.cell k1 (fun h => h); have j5 := T2.cell c1 (fun h => h); have j4 := (World.frozen?_of_block (T2.block g (RefF.lt HW.out g (.inr (.inl rfl))) (fun h => h))).trans f1)))
        all_goals
          go_wp2_with fail
          go_ret
          rw [hmm.out]
          refine RefPost.trans ((Tch.drew w).no.trans Q2.out (fun _ _ h => h)) (fun k hk => (Q3.out k hk).imp id (fun h => h)) ?_
          rw [show mAppL (L.map (·.f)) s.data.toList bs = mAppL ((L ++ [new]).map (·.f)) s.data.toList bs by rw [HNE.out, List.map_append]; exact HNew.out.symm]
          exact app_closeR HW.out hiL (SlB.ofRow hA2.own (by unfold lim; simp; omega)) (by rw [Hid, EL.out, HNE.out, HB0.out]) (fun k hk => Nat.le_trans (by simp) ((AppPost.two hA1 hA2).2 k hk)) T2 (by have := hsum.out; rw [HNE.out, List.map_append, mUsed_append]; simp only [mUsed, List.map_cons, List.map_nil, List.sum_cons, List.sum_nil, List.length_nil] at this ⊢; omega) (by rw [EL.out, HNE.out])
end Go.Proofs.Ytbhemlddncmmfaa
