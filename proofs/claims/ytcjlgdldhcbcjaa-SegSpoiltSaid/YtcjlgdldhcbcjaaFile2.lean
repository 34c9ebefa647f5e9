import Derived.Test.YtcjlgdldhcbcjaaFile1
namespace Go.Proofs.Ytcjlgdldhcbcjaa
open Go.RowKit Go.Maps
set_option linter.unusedVariables false
set_option linter.unusedSimpArgs false

theorem tight {P : Program} {k : TypeId} {R : Value → Option (Dt × List MemPlace)} {w : World} {b n : Nat} {D : Dt} (h : w.ownsMap P k R b n D) : w.ownsMap P k R b (Maps.size D) D := by
  obtain ⟨es, clock, hb, F, hs, hD⟩ := h
  refine ⟨es, clock, hb, F, ?_, hD⟩
  rw [hD, size_eq, length_read]; exact Nat.le_refl _

theorem strKeys_len (D : Dt) (hD : Maps.IsMap D) : (strKeys D).length = Maps.size D := by
  obtain ⟨es, rfl⟩ := hD
  simp [strKeys, size_eq]

/-- The names, as the map's datum has its keys. -/
theorem MapIs.keys {w : World} {b n : Nat} {D : Dt} {L : List FL} (h : MapIs D L) (hown : w.ownsMap Try.prog 9 ptrR b n D) : (L.map (·.f.name)).Perm (strKeys D) := by
  obtain ⟨es, hD, hpw, _⟩ := hown.entries lawS
  obtain ⟨es', hD', hko⟩ := hown.keysOf
  obtain rfl : es = es' := by rw [hD] at hD'; simpa using hD'
  subst hD
  exact perm_strKeys hpw (fun p hp => by obtain ⟨v, hv⟩ := hko p hp; obtain ⟨x, _, hx, _⟩ := Maps.keyOf_str Try.underlying9 hv; exact ⟨x, hx⟩) h.nodup (fun x => (h.has x).symm)
theorem MapIs.size {w : World} {b n : Nat} {D : Dt} {L : List FL} (h : MapIs D L) (hown : w.ownsMap Try.prog 9 ptrR b n D) : Maps.size D = L.length := by
  rw [← strKeys_len D hown.isMap, ← (h.keys hown).length_eq, List.length_map]

def renL (L : List FL) (a b : Key) : List FL := (delL L b).map fun y => if y.f.name = a then { y with f := { y.f with name := b } } else y
def mRen (M : List FE) (a b : Key) : List FE := (mDel M b).map fun x => if x.name = a then { x with name := b, named := true } else x
theorem renL_mem {L : List FL} {a b : Key} {y : FL} (hy : y ∈ renL L a b) : ∃ x ∈ L, x.f.name ≠ b ∧ y.eb = x.eb ∧ y.v = x.v ∧ y.f = if x.f.name = a then { x.f with name := b } else x.f := by
  obtain ⟨x, hx, rfl⟩ := List.mem_map.1 hy
  obtain ⟨h1, h2⟩ := List.mem_filter.1 hx
  refine ⟨x, h1, by simpa using h2, ?_⟩
  split <;> simp_all

theorem MapIs.ren {D : Dt} {L : List FL} (h : MapIs D L) (hD : Maps.IsMap D) {x : FL} (hx : x ∈ L) {b : Key} (hab : x.f.name ≠ b) :
    MapIs ((D.put (.string b) (.lit (.int .i64 x.eb))).del (.string x.f.name)) (renL L x.f.name b) := by
  refine ⟨fun k => ?_, fun y hy z => ?_, ?_⟩
  · unfold renL
    rw [List.map_map]
    by_cases hk : k = x.f.name
    · subst hk
      rw [has_del_same]
      simp only [Bool.false_eq_true, false_iff, List.mem_map, not_exists, not_and, Function.comp]
      intro y hy e
      split at e
      · exact hab e.symm
      · rename_i q; exact q e
    · rw [has_del_other (key_ne hk)]
      by_cases hb : k = b
      · subst hb
        rw [has_put_same hD (isKey _)]
        simp only [true_iff, List.mem_map, Function.comp]
        exact ⟨x, List.mem_filter.2 ⟨hx, by simpa using hab⟩, by rw [if_pos rfl]⟩
      · rw [has_put_other (key_ne hb), h.has k]
        simp only [List.mem_map, Function.comp]
        constructor
        · rintro ⟨y, hy, rfl⟩
          exact ⟨y, List.mem_filter.2 ⟨hy, by simpa using hb⟩, by rw [if_neg hk]⟩
        · rintro ⟨y, hy, e⟩
          split at e
          · exact absurd e.symm hb
          · exact ⟨y, (List.mem_filter.1 hy).1, e⟩
  · obtain ⟨u, hu, hub, h1, h2, h3⟩ := renL_mem hy
    by_cases e : u.f.name = x.f.name
    · have : u = x := nodup_name h.nodup hu hx e
      subst this
      rw [if_pos rfl] at h3
      rw [h3]
      show DataW.atKey _ (.string b) z = _
      rw [atKey_del_other (key_ne (fun q => hab q.symm)), atKey_put_same hD (isKey _), h1]
    · rw [if_neg e] at h3
      rw [h3, atKey_del_other (key_ne e), atKey_put_other (key_ne hub), h1]
      exact h.at' u hu z
  · unfold renL
    rw [List.map_map]
    have hn : ((delL L b).map (·.f.name)).Nodup := (List.filter_sublist.map _).nodup h.nodup
    have hnb : b ∉ (delL L b).map (·.f.name) := by
      intro hb
      obtain ⟨y, hy, e⟩ := List.mem_map.1 hb
      have := (List.mem_filter.1 hy).2
      simp [e] at this
    generalize delL L b = M at hn hnb
    induction M with
    | nil => exact List.nodup_nil
    | cons y r ih =>
      simp only [List.map_cons, List.nodup_cons, List.mem_cons, not_or] at hn hnb ⊢
      refine ⟨?_, ih hn.2 hnb.2⟩
      simp only [List.mem_map, Function.comp, not_exists, not_and]
      intro u hu e
      by_cases q1 : u.f.name = x.f.name <;> by_cases q2 : y.f.name = x.f.name
      · exact hn.1 (by rw [q2, ← q1]; exact List.mem_map_of_mem (f := fun x : FL => x.f.name) hu)
      · rw [if_pos q1, if_neg q2] at e; exact hnb.1 e
      · rw [if_neg q1, if_pos q2] at e; exact hnb.2 ((show u.f.name = b from e) ▸ List.mem_map_of_mem (f := fun x : FL => x.f.name) hu)
      · rw [if_neg q1, if_neg q2] at e; exact hn.1 (by rw [← e]; exact List.mem_map_of_mem (f := fun x : FL => x.f.name) hu)

theorem renL_eb (L : List FL) (a b : Key) : (renL L a b).map (·.eb) = (delL L b).map (·.eb) := by
  unfold renL
  rw [List.map_map]
  refine List.map_congr_left fun y _ => ?_
  simp only [Function.comp]; split <;> rfl

theorem renF {db mb : Nat} {L : List FL} {a b : Key} : ∀ k, DiskF db mb (renL L a b) k → DiskF db mb L k := by
  rintro k (rfl | rfl | ⟨y, hy, hk⟩)
  · exact .inl rfl
  · exact .inr (.inl rfl)
  · obtain ⟨x, hx, _, h1, h2, _⟩ := renL_mem hy
    exact .inr (.inr ⟨x, hx, by rw [← h1, ← h2]; exact hk⟩)

theorem renL_used (L : List FL) (a b : Key) : mUsed ((renL L a b).map (·.f)) = mUsed ((delL L b).map (·.f)) := by
  unfold mUsed renL
  rw [List.map_map, List.map_map, List.map_map]
  congr 1
  refine List.map_congr_left fun y _ => ?_
  simp only [Function.comp]; split <;> rfl

theorem IsDisk.ren {w w' : World} {db mb room : Nat} {L : List FL} (h : IsDisk w db mb room L) {x : FL} (hx : x ∈ L) {b : Key} (hab : x.f.name ≠ b) {nn : Nat} {D : Dt} (hM : MapIs D L) (hD : Maps.IsMap D)
    (hm : w'.ownsMap Try.prog 9 ptrR mb nn ((D.put (.string b) (.lit (.int .i64 x.eb))).del (.string x.f.name))) (ht : Tch (fun k => k = mb) w w') : IsDisk w' db mb room (renL L x.f.name b) := by
  have hmem : ∀ y ∈ renL L x.f.name b, ∃ u ∈ L, y.eb = u.eb ∧ y.v = u.v ∧ y.f.b = u.f.b ∧ y.f.sure = u.f.sure ∧ y.f.named = u.f.named := by
    intro y hy
    obtain ⟨u, hu, _, h1, h2, h3⟩ := renL_mem hy
    refine ⟨u, hu, h1, h2, ?_⟩
    rw [h3]; split <;> exact ⟨rfl, rfl, rfl⟩
  refine ⟨blk_tch ht h.disk h.dne.1, ⟨nn, _, hm, hM.ren hD hx hab⟩, ?_, ?_, ?_, ⟨h.dne.1, ?_⟩, ?_, ?_, ?_, h.sz.2⟩
  · intro y hy
    obtain ⟨u, hu, h1, h2, h3, h4, h5⟩ := hmem y hy
    rw [h1, h2, h4, h5]; exact blk_tch ht (h.ent u hu) (h.mbne u hu)
  · intro y hy
    obtain ⟨u, hu, h1, h2, h3, h4, h5⟩ := hmem y hy
    rw [h2, h3]; exact (h.bts u hu).tch ht (fun k hk e => (h.vne u hu).1 (by rw [hk, e]))
  · rw [renL_eb]; exact (List.filter_sublist.map _).nodup h.ebs
  · intro y hy
    obtain ⟨u, hu, h1, _⟩ := hmem y hy
    rw [h1]; exact h.dne.2 u hu
  · intro y hy
    obtain ⟨u, hu, h1, h2, _⟩ := hmem y hy
    rw [h2]
    refine ⟨(h.vne u hu).1, fun y' hy' => ?_⟩
    obtain ⟨u', hu', h1', _⟩ := hmem y' hy'
    rw [h1']; exact (h.vne u hu).2 u' hu'
  · intro y hy
    obtain ⟨u, hu, h1, h2, h3, h4, h5⟩ := hmem y hy
    rw [h3, h4]; exact h.le u hu
  · rw [renL_used, delL_f]; exact Nat.le_trans (sum_filter_le _ _) h.sz.1

theorem renL_f (L : List FL) (a b : Key) : (renL (setL L a (fun f => { f with named := true })) a b).map (·.f) = mRen (L.map (·.f)) a b := by
  unfold renL mRen
  rw [List.map_map, ← delL_f]
  have : delL (setL L a (fun f => { f with named := true })) b = setL (delL L b) a (fun f => { f with named := true }) := by
    unfold delL setL
    rw [List.filter_map]
    congr 1
    refine List.filter_congr fun y _ => ?_
    simp only [Function.comp]; split <;> rfl
  rw [this]
  unfold setL
  rw [List.map_map, List.map_map]
  refine List.map_congr_left fun y _ => ?_
  simp only [Function.comp]
  split <;> simp_all

def mRename (M : List FE) (a b : Key) : Nat × List FE :=
  if goodB b = false then (1, M) else if (mGet M a).isSome = false then (6, M) else if a = b then (0, M) else (0, mRen M a b)

set_option maxRecDepth 100000 in
set_option maxHeartbeats 1000000 in
theorem rename_nil (s t : ByteArray) (w : World) : Calls Try.prog 61 #[.pointer none, .string s, .string t] w fun e w' => e = .returned (.int .i64 7) ∧ w = w' := by
  go_enter Try.func61, Try.ntmps61
  go_wp2_with (go_at_call 50; go_must (refine (get_nil s w).mono ?_); rintro e w1 ⟨rfl, rfl⟩)
  go_ret
  exact ⟨rfl, rfl⟩

theorem DiskPost.same' {w w' : World} {db mb room : Nat} {L : List FL} {res : Value} (h : IsDisk w db mb room L) (ht : Tch No w w') : DiskPost w db mb room L res (L.map (·.f)) (.returned res) w' :=
  ⟨rfl, L, rfl, h.tch0 ht, ht.no, fun _ hk => .inl hk⟩

theorem ren_set {w : World} {db mb room : Nat} {L : List FL} (h : IsDisk w db mb room L) {x : FL} (hx : x ∈ L) : IsDisk (w.setCell ⟨x.eb, 2, none⟩ (.bool true)) db mb room (setL L x.f.name (fun f => { f with named := true })) :=
  h.set hx (fun f => { f with named := true }) rfl rfl (h.le x hx) (Tch.setCell (F := fun k => k = x.eb) _ _ _ (fun _ => rfl)) (by simpa using blk_set (h.ent x hx) 2 (.bool true))
theorem tch_map {w w' : World} {mb : Nat} (hg : w.grownBy w' (some mb)) : Tch (fun k => k = mb) w w' := Tch.grown hg (fun k hk _ => by injection hk with hk; exact hk.symm)

set_option maxRecDepth 100000 in
set_option maxHeartbeats 2000000 in
theorem rename_any (db mb room : Nat) (L : List FL) (s t : ByteArray) (w : World) (h : IsDisk w db mb room L) (hs : s.size ≤ maxLen) (ht : t.data.toList.length ≤ lim) (hcnt : L.length ≤ 1000000) :
    Calls Try.prog 61 #[.pointer (some ⟨db, 0, none⟩), .string s, .string t] w
      (DiskPost w db mb room L (.int .i64 ((mRename (L.map (·.f)) s.data.toList t.data.toList).1 : Nat)) (mRename (L.map (·.f)) s.data.toList t.data.toList).2) := by
  have hc := Lib.hid (get_any db mb room L s w h hs)
  have hgd := Lib.hid (good_any t w ht)
  have hgf := Lib.hid (mGet_findL L s.data.toList)
  obtain ⟨mr, hmr⟩ : ∃ mr, Hid (mRename (L.map (·.f)) s.data.toList t.data.toList = mr) := ⟨_, rfl⟩
  rw [hmr.out]
  cases hg : goodB t.data.toList with
  | false =>
    rw [hg] at hgd
    have H := Lib.hid h
    obtain ⟨r, hr⟩ : ∃ r, findL L s.data.toList = r := ⟨_, rfl⟩
    rw [hr] at hc
    obtain ⟨pv, hpv⟩ : ∃ pv, ptrOf r = .pointer pv := ⟨_, rfl⟩
    rw [hpv] at hc
    have hm : Hid (mr = (1, L.map (·.f))) := by rw [Hid, ← hmr.out, mRename, if_pos hg]
    clear h hg hr hpv ht
    go_enter Try.func61, Try.ntmps61
    go_wp2_with (first
      | (go_at_call 50; go_must (refine hc.out.mono ?_); rintro e w1 ⟨rfl, rfl⟩)
      | (go_at_call 51; go_must (refine hgd.out.mono ?_); rintro e w1 ⟨rfl, q1⟩))
    go_ret
    rw [hm.out]
    exact DiskPost.same' H.out q1
  | true =>
    rw [hg] at hgd
    cases hf : findL L s.data.toList with
    | none =>
      rw [hf] at hc
      have H := Lib.hid h
      have hm : Hid (mr = (6, L.map (·.f))) := by rw [Hid, ← hmr.out, mRename, if_neg (by rw [hg]; simp), if_pos (by rw [hgf.out, hf]; rfl)]
      clear h hg hf ht
      go_enter Try.func61, Try.ntmps61
      go_wp2_with (first
        | (go_at_call 50; go_must (refine hc.out.mono ?_); rintro e w1 ⟨rfl, rfl⟩; unfold ptrOf)
        | (go_at_call 51; go_must (refine hgd.out.mono ?_); rintro e w1 ⟨rfl, q1⟩))
      go_ret
      rw [hm.out]
      exact DiskPost.same' H.out q1
    | some x =>
      rw [hf] at hc
      by_cases he : s.data.toList = t.data.toList
      · have he' : (s.toList == t.toList) = true := by rw [ByteArray.toList_eq, ByteArray.toList_eq, he]; simp
        have H := Lib.hid h
        have hm : Hid (mr = (0, L.map (·.f))) := by rw [Hid, ← hmr.out, mRename, if_neg (by rw [hg]; simp), if_neg (by rw [hgf.out, hf]; simp), if_pos he]
        clear h hg hf ht he
        go_enter Try.func61, Try.ntmps61
        go_wp2_with (first
          | (go_at_call 50; go_must (refine hc.out.mono ?_); rintro e w1 ⟨rfl, rfl⟩; unfold ptrOf)
          | (go_at_call 51; go_must (refine hgd.out.mono ?_); rintro e w1 ⟨rfl, q1⟩))
        go_ret
        rw [hm.out]
        exact DiskPost.same' H.out q1
      · have he' : (s.toList == t.toList) = false := by rw [ByteArray.toList_eq, ByteArray.toList_eq]; simpa using he
        have hx := findL_some hf
        have H := Lib.hid h
        have hm : Hid (mr = (0, mRen (L.map (·.f)) s.data.toList t.data.toList)) := by rw [Hid, ← hmr.out, mRename, if_neg (by rw [hg]; simp), if_neg (by rw [hgf.out, hf]; simp), if_neg he]
        have HE := Lib.hid he
        have HX := Lib.hid hx
        have hkeyS := Go.WideMaps.keyOf_string_mk Try.underlying9 hs
        have hkeyT := Go.WideMaps.keyOf_string_mk (s := t) Try.underlying9 (by rw [show t.size = t.data.toList.length from (Array.length_toList (xs := t.data)).symm]; unfold lim at ht; simp only [maxLen]; omega)
        have HT := Lib.hid ht
        clear h hg hf he hx ht
        go_enter Try.func61, Try.ntmps61
        go_wp2_with (first
          | (go_at_call 50; go_must (refine hc.out.mono ?_); rintro e w1 ⟨rfl, rfl⟩; unfold ptrOf)
          | (go_at_call 51; go_must (refine hgd.out.mono ?_); rintro e w1 ⟨rfl, q1⟩; have Q := Lib.hid q1; clear q1; have H1 := Lib.hid (H.out.tch0 Q.out); have c2 := H1.out.ent2 HX.out.1; have f2 := blk_free (H1.out.ent x HX.out.1) 2; have c1 := H1.out.cell1)
          | (at_mapUpdate; have H2 := Lib.hid (ren_set H1.out HX.out.1); have c12 := H2.out.cell1; obtain ⟨nn, D, hown, hM⟩ := H2.out.map; have HM := Lib.hid hM; clear hM; have hown' := tight hown; have hsz : Maps.size D < maxLen := by rw [HM.out.size hown]; simp [setL, maxLen]; omega
             go_must (refine wpList_mapUpdate_own _ rfl _ _ _ 68 rfl 9 77 lawS Try.underlying68 ptrR mb _ D rfl hown' hsz _ _ _ rfl rfl hkeyT _ [] (ptrR_some x.eb) ?_); intro w3 hown3 hgrow3; have T3 := Lib.hid (tch_map hgrow3); have c3 := T3.out.cell c12 H2.out.dne.1)
          | (at_delete; go_must (refine wpList_delete_own _ rfl _ _ 68 9 rfl 77 lawS Try.underlying68 _ mb _ _ rfl hown3 _ _ rfl hkeyS ?_); intro w4 hown4 hturn4))
        go_ret
        rw [hm.out]
        have T4 := tch_map hturn4.grown
        have T34 := T3.out.trans T4 (fun _ _ h => h)
        have hn := HX.out.2
        have hx' : ({ x with f := { x.f with named := true } } : FL) ∈ setL L x.f.name (fun f => { f with named := true }) := by
          unfold setL
          exact List.mem_map.2 ⟨x, HX.out.1, by rw [if_pos rfl]⟩
        have hR := H2.out.ren hx' (b := t.data.toList) (by rw [hn]; exact HE.out) HM.out hown.isMap (by rw [← hn] at hown4; exact hown4) T34
        refine ⟨rfl, _, ?_, hR, ?_, fun k hk => .inl (setF k (renF k hk))⟩
        · show (renL (setL L x.f.name (fun f => { f with named := true })) x.f.name t.data.toList).map (·.f) = _
          rw [renL_f, hn]
        · exact ((Q.out.no (F := DiskF db mb L)).trans (Tch.setCell (F := fun k => k = x.eb) _ _ _ (fun _ => rfl)) (fun k _ e => .inr (.inr ⟨x, HX.out.1, .inl e⟩))).trans T34 (fun k _ e => .inr (.inl e))
end Go.Proofs.Ytcjlgdldhcbcjaa
