import Derived.Test.YtcjlgdldhcbcjaaFile3
import Derived.Test.YtcjlgdldhcbcjaaCat
namespace Go.Proofs.Ytcjlgdldhcbcjaa
open Go.RowKit Go.Maps
set_option linter.unusedVariables false
set_option linter.unusedSimpArgs false

theorem mUsed_append (a b : List FE) : mUsed (a ++ b) = mUsed a + mUsed b := by simp [mUsed, List.sum_append_nat]

/-- A new file. -/
theorem IsDisk.add {w w' : World} {db mb room : Nat} {L : List FL} (h : IsDisk w db mb room L) {n : Key} (hn : n ∉ L.map (·.f.name)) {eb : Nat} (heb : w.heap.size ≤ eb) {nn : Nat} {D : Dt} (hM : MapIs D L) (hD : Maps.IsMap D)
    (he : w'.heap[eb]? = some (.cells #[.slice none 0 0, .int .i64 0, .bool false] 80 (0, 0))) (ht : Tch (fun k => k = mb) w w')
    (hm : w'.ownsMap Try.prog 9 ptrR mb nn (D.put (.string n) (.lit (.int .i64 eb)))) : IsDisk w' db mb room (L ++ [⟨⟨n, [], 0, false⟩, eb, .slice none 0 0⟩]) := by
  have hlt := DiskF.lt h
  have hput := hM.put_new hD (x := ⟨⟨n, [], 0, false⟩, eb, .slice none 0 0⟩) hn
  refine ⟨blk_tch ht h.disk h.dne.1, ⟨nn, _, hm, hput⟩, ?_, ?_, ?_, ⟨h.dne.1, ?_⟩, ?_, ?_, ?_, h.sz.2⟩
  · intro x hx
    simp only [List.mem_append, List.mem_singleton] at hx
    rcases hx with hx | rfl
    · exact blk_tch ht (h.ent x hx) (h.mbne x hx)
    · exact he
  · intro x hx
    simp only [List.mem_append, List.mem_singleton] at hx
    rcases hx with hx | rfl
    · exact (h.bts x hx).tch ht (fun k hk e => (h.vne x hx).1 (by rw [hk, e]))
    · exact SlB.nil _
  · rw [List.map_append, List.nodup_append]
    refine ⟨h.ebs, by simp, fun a ha b hb => ?_⟩
    have hb' : b = eb := by simpa using hb
    obtain ⟨x, hx, rfl⟩ := List.mem_map.1 ha
    have := blk_lt (h.ent x hx)
    omega
  · intro x hx
    simp only [List.mem_append, List.mem_singleton] at hx
    rcases hx with hx | rfl
    · exact h.dne.2 x hx
    · have := blk_lt h.disk; show eb ≠ db; omega
  · intro x hx
    simp only [List.mem_append, List.mem_singleton] at hx
    rcases hx with hx | rfl
    · refine ⟨(h.vne x hx).1, fun y hy => ?_⟩
      simp only [List.mem_append, List.mem_singleton] at hy
      rcases hy with hy | rfl
      · exact (h.vne x hx).2 y hy
      · intro e
        have e' : x.v.ownBlock = some eb := e
        have := (h.bts x hx).blt _ e'
        omega
    · exact ⟨by simp [Value.ownBlock], fun y _ => by simp [Value.ownBlock]⟩
  · intro x hx
    simp only [List.mem_append, List.mem_singleton] at hx
    rcases hx with hx | rfl
    · exact h.le x hx
    · exact Nat.le_refl _
  · rw [List.map_append, mUsed_append]
    have := h.sz.1
    simpa [mUsed] using this

def setV (L : List FL) (n : Key) (bs : List UInt8) (v : Value) : List FL := L.map fun x => if x.f.name = n then { x with f := { x.f with b := bs }, v := v } else x
theorem setV_mem {L : List FL} {n : Key} {bs : List UInt8} {v : Value} {y : FL} (hy : y ∈ setV L n bs v) : ∃ x ∈ L, y.eb = x.eb ∧ y.f.name = x.f.name ∧ ((x.f.name = n ∧ y.v = v ∧ y.f = { x.f with b := bs }) ∨ (x.f.name ≠ n ∧ y = x)) := by
  obtain ⟨x, hx, rfl⟩ := List.mem_map.1 hy
  refine ⟨x, hx, ?_⟩
  split <;> simp_all

theorem IsDisk.setV {w w' : World} {db mb room : Nat} {L : List FL} (h : IsDisk w db mb room L) {x : FL} (hx : x ∈ L) {v : Value} {bs : List UInt8} (hv : SlB w' v bs) (hf : ∀ k, v.ownBlock = some k → w.heap.size ≤ k)
    (hle : x.f.sure ≤ bs.length) (hsz : mUsed ((setV L x.f.name bs v).map (·.f)) ≤ 1048576)
    (ht : Tch (fun k => k = x.eb) w w') (he : w'.heap[x.eb]? = some (.cells #[v, .int .i64 x.f.sure, .bool x.f.named] 80 (0, 0))) :
    IsDisk w' db mb room (setV L x.f.name bs v) := by
  obtain ⟨nn, D, hm, hM⟩ := h.map
  have hlt := DiskF.lt h
  have hmem : ∀ y ∈ Ytcjlgdldhcbcjaa.setV L x.f.name bs v, ∃ z ∈ L, y.eb = z.eb ∧ ((z = x ∧ y.v = v ∧ y.f = { x.f with b := bs }) ∨ (z ≠ x ∧ y = z)) := by
    intro y hy
    obtain ⟨z, hz, h1, _, h3⟩ := setV_mem hy
    refine ⟨z, hz, h1, ?_⟩
    rcases h3 with ⟨e, h4, h5⟩ | ⟨e, h4⟩
    · have : z = x := nodup_name hM.nodup hz hx e
      subst this
      exact .inl ⟨rfl, h4, h5⟩
    · exact .inr ⟨fun q => e (by rw [q]), h4⟩
  have hpair : (Ytcjlgdldhcbcjaa.setV L x.f.name bs v).map (fun y => (y.f.name, y.eb)) = L.map (fun y => (y.f.name, y.eb)) := by
    unfold Ytcjlgdldhcbcjaa.setV
    rw [List.map_map]
    refine List.map_congr_left fun y hy => ?_
    simp only [Function.comp]
    split <;> rfl
  have heb : (Ytcjlgdldhcbcjaa.setV L x.f.name bs v).map (·.eb) = L.map (·.eb) := by
    have := congrArg (List.map Prod.snd) hpair
    simpa [Function.comp_def] using this
  refine ⟨blk_tch ht h.disk (fun e => h.dne.2 x hx e.symm), ⟨nn, D, own_map_tch hm ht (fun e => h.mbne x hx e.symm), hM.congr hpair⟩, ?_, ?_, by rw [heb]; exact h.ebs, ⟨h.dne.1, ?_⟩, ?_, ?_, hsz, h.sz.2⟩
  · intro y hy
    obtain ⟨z, hz, h1, h2⟩ := hmem y hy
    rcases h2 with ⟨rfl, h3, h4⟩ | ⟨hne, rfl⟩
    · rw [h1, h3, h4]; exact he
    · exact blk_tch ht (h.ent y hz) (fun q => hne (nodup_eb h.ebs hz hx q))
  · intro y hy
    obtain ⟨z, hz, h1, h2⟩ := hmem y hy
    rcases h2 with ⟨rfl, h3, h4⟩ | ⟨hne, rfl⟩
    · rw [h3, h4]; exact hv
    · exact (h.bts y hz).tch ht (fun k hk q => (h.vne y hz).2 x hx (by rw [hk, q]))
  · intro y hy
    obtain ⟨z, hz, h1, _⟩ := hmem y hy
    rw [h1]; exact h.dne.2 z hz
  · intro y hy
    obtain ⟨z, hz, h1, h2⟩ := hmem y hy
    have key : ∀ k, k < w.heap.size → y.v.ownBlock = some k → z.v.ownBlock = some k := by
      intro k hk hyk
      rcases h2 with ⟨rfl, h3, h4⟩ | ⟨hne, rfl⟩
      · rw [h3] at hyk; have := hf k hyk; omega
      · exact hyk
    refine ⟨fun e => (h.vne z hz).1 (key mb (hlt mb (.inr (.inl rfl))) e), fun y' hy' e => ?_⟩
    obtain ⟨z', hz', h1', _⟩ := hmem y' hy'
    rw [h1'] at e
    exact (h.vne z hz).2 z' hz' (key _ (blk_lt (h.ent z' hz')) e)
  · intro y hy
    obtain ⟨z, hz, h1, h2⟩ := hmem y hy
    rcases h2 with ⟨rfl, h3, h4⟩ | ⟨hne, rfl⟩
    · rw [h4]; exact hle
    · exact h.le y hz

def mAppL (M : List FE) (n : Key) (bs : List UInt8) : List FE :=
  if (mGet M n).isSome then M.map (fun x => if x.name = n then { x with b := x.b ++ bs } else x) else M ++ [⟨n, bs, 0, false⟩]
def mAppend (M : List FE) (room : Nat) (n : Key) (bs : List UInt8) : Nat × List FE :=
  if goodB n = false then (1, M) else if room < mUsed M + bs.length then (5, M) else (0, mAppL M n bs)

theorem setV_used {L : List FL} (hn : (L.map (·.f.name)).Nodup) {x : FL} (hx : x ∈ L) (bs : List UInt8) (v : Value) : mUsed ((setV L x.f.name bs v).map (·.f)) + x.f.b.length = mUsed (L.map (·.f)) + bs.length := by
  induction L with
  | nil => cases hx
  | cons y r ih =>
    simp only [List.map_cons, List.nodup_cons] at hn
    simp only [List.mem_cons] at hx
    have hcons : ∀ (a : FL) (s : List FL), mUsed ((a :: s).map (·.f)) = a.f.b.length + mUsed (s.map (·.f)) := by intro a s; simp [mUsed]
    have hset : setV (y :: r) x.f.name bs v = (if y.f.name = x.f.name then { y with f := { y.f with b := bs }, v := v } else y) :: setV r x.f.name bs v := rfl
    rw [hset, hcons, hcons]
    rcases hx with rfl | hx
    · rw [if_pos rfl]
      have : setV r x.f.name bs v = r := by
        unfold setV
        refine (List.map_congr_left (g := id) fun z hz => ?_).trans (List.map_id _)
        rw [if_neg (fun e => hn.1 (by rw [← e]; exact List.mem_map_of_mem (f := fun x : FL => x.f.name) hz))]; rfl
      rw [this]
      show bs.length + _ + _ = _
      omega
    · have hne : ¬ y.f.name = x.f.name := fun e => hn.1 (by rw [e]; exact List.mem_map_of_mem (f := fun x : FL => x.f.name) hx)
      rw [if_neg hne]
      have := ih hn.2 hx
      omega

theorem setV_f {L : List FL} (hn : (L.map (·.f.name)).Nodup) {x : FL} (hx : x ∈ L) (bs : List UInt8) (v : Value) : (setV L x.f.name (x.f.b ++ bs) v).map (·.f) = (L.map (·.f)).map (fun y => if y.name = x.f.name then { y with b := y.b ++ bs } else y) := by
  unfold setV
  rw [List.map_map, List.map_map]
  refine List.map_congr_left fun y hy => ?_
  simp only [Function.comp]
  split
  · rename_i e
    have : y = x := nodup_name hn hy hx e
    subst this; rfl
  · rfl

theorem setV_F {db mb : Nat} {L : List FL} {n : Key} {bs : List UInt8} {v : Value} {B : Nat} (hf : ∀ k, v.ownBlock = some k → B ≤ k) : ∀ k, DiskF db mb (setV L n bs v) k → DiskF db mb L k ∨ B ≤ k := by
  rintro k (rfl | rfl | ⟨y, hy, hk⟩)
  · exact .inl (.inl rfl)
  · exact .inl (.inr (.inl rfl))
  · obtain ⟨x, hx, h1, _, h3⟩ := setV_mem hy
    rcases h3 with ⟨_, h4, h5⟩ | ⟨_, rfl⟩
    · rcases hk with rfl | hk
      · exact .inl (.inr (.inr ⟨x, hx, .inl h1⟩))
      · exact .inr (hf k (by rw [← h4]; exact hk))
    · exact .inl (.inr (.inr ⟨y, hx, hk⟩))

set_option maxRecDepth 100000 in
set_option maxHeartbeats 1000000 in
theorem append_nil (s : ByteArray) (v : Value) (w : World) : Calls Try.prog 29 #[.pointer none, .string s, v] w fun e w' => e = .returned (.int .i64 7) ∧ w = w' := by
  go_enter Try.func29, Try.ntmps29
  go_wp2
  go_ret
  exact ⟨rfl, rfl⟩

theorem used_ge {L : List FL} {x : FL} (hx : x ∈ L) : x.f.b.length ≤ mUsed (L.map (·.f)) := by
  unfold mUsed
  rw [List.map_map]
  induction L with
  | nil => cases hx
  | cons y r ih =>
    rw [List.map_cons, List.sum_cons]
    simp only [List.mem_cons] at hx
    rcases hx with rfl | hx
    · exact Nat.le_add_right _ _
    · exact Nat.le_trans (ih hx) (Nat.le_add_left _ _)

/-- 'slices.Concat(f.b, b)', as the translation lays it. -/
theorem cat2 (w : World) (a0 : Option Addr) (m0 cap0 : Nat) (a : Option Addr) (m cap : Nat) (b1 b2 : List UInt8) (h1 : SlB w (.slice a0 m0 cap0) b1) (h2 : SlB w (.slice a m cap) b2) (hl : b1.length + b2.length ≤ 1000000000) :
    Calls Try.prog 52 #[.slice (some ⟨w.heap.size, 0, none⟩) 2 2] (w.alloc (.cells #[.slice a0 m0 cap0, .slice a m cap] 22)) (CatPost (w.alloc (.cells #[.slice a0 m0 cap0, .slice a m cap] 22)) (b1 ++ b2)) := by
  have := concat_any w.heap.size 2 2 (fun i => if i = 0 then .slice a0 m0 cap0 else .slice a m cap) (fun i => if i = 0 then b1 else b2) (w.alloc (.cells #[.slice a0 m0 cap0, .slice a m cap] 22)) (by omega)
    (fun i hi => by
      match i, hi with
      | 0, _ => simp
      | 1, _ => simp)
    (fun i hi => by
      match i, hi with
      | 0, _ => exact h1.tch0 (Tch.alloc _ _)
      | 1, _ => exact h2.tch0 (Tch.alloc _ _))
    (by simp [tot, List.range_succ]; omega)
  simpa [cat, List.range_succ] using this

/-- The end of an Append. -/
theorem app_close {w w3 : World} {db mb room : Nat} {L : List FL} (h : IsDisk w db mb room L) {x : FL} (hx : x ∈ L) {bs : List UInt8} {v : Value} {o : Obj} (hv : SlB w3 v (x.f.b ++ bs)) (hf : ∀ k, v.ownBlock = some k → (w.alloc o).heap.size ≤ k) (ht : Tch No (w.alloc o) w3)
    (hroom : mUsed (L.map (·.f)) + bs.length ≤ 1048576) :
    IsDisk (w3.setCell ⟨x.eb, 0, none⟩ v) db mb room (setV L x.f.name (x.f.b ++ bs) v) ∧ Tch (fun k => k = x.eb) w (w3.setCell ⟨x.eb, 0, none⟩ v) ∧ ∀ k, v.ownBlock = some k → w.heap.size ≤ k := by
  have hT : Tch No w w3 := (Tch.alloc w o).trans0 ht
  have hfr : ∀ k, v.ownBlock = some k → w.heap.size ≤ k := fun k hk => by have := hf k hk; simp at this; omega
  have hT' : Tch (fun k => k = x.eb) w (w3.setCell ⟨x.eb, 0, none⟩ v) := hT.no.trans (Tch.setCell (F := fun k => k = x.eb) _ _ _ (fun _ => rfl)) (fun _ _ h => h)
  have hbk := blk_tch hT (h.ent x hx) (fun h => h)
  have hlt := blk_lt (h.ent x hx)
  obtain ⟨nn, D, _, hM⟩ := h.map
  refine ⟨h.setV hx (hv.tch (F := fun k => k = x.eb) (Tch.setCell _ _ _ (fun _ => rfl)) (fun k hk e => by have := hfr k hk; omega)) hfr ?_ ?_ hT' ?_, hT', hfr⟩
  · rw [List.length_append]; have := h.le x hx; omega
  · have := setV_used hM.nodup hx (x.f.b ++ bs) v
    rw [List.length_append] at this
    omega
  · simpa using blk_set hbk 0 v

/-- A new entry is there. -/
theorem add_close {w w3 : World} {db mb room : Nat} {L : List FL} (h : IsDisk w db mb room L) {n : Key} (hn : n ∉ L.map (·.f.name)) {nn : Nat} {D : Dt} (hM : MapIs D L) (hD : Maps.IsMap D)
    (hm : w3.ownsMap Try.prog 9 ptrR mb nn (D.put (.string n) (.lit (.int .i64 w.heap.size))))
    (hg : (w.alloc (.cells #[.slice none 0 0, .int .i64 0, .bool false] 80)).grownBy w3 (some mb)) :
    IsDisk w3 db mb room (L ++ [⟨⟨n, [], 0, false⟩, w.heap.size, .slice none 0 0⟩]) ∧ Tch (fun k => k = mb) w w3 := by
  have hT : Tch (fun k => k = mb) w w3 := ((Tch.alloc w _).no (F := fun k => k = mb)).trans (tch_map hg) (fun _ _ h => h)
  have hlt : mb < w.heap.size := DiskF.lt h mb (.inr (.inl rfl))
  refine ⟨h.add hn (Nat.le_refl _) hM hD ?_ hT hm, hT⟩
  rw [hg.block w.heap.size (by simp) (by simp; omega)]
  exact blk_new w _

set_option maxRecDepth 100000 in
set_option maxHeartbeats 2000000 in
theorem append_any (db mb room : Nat) (L : List FL) (s : ByteArray) (v : Value) (bs : List UInt8) (w : World) (h : IsDisk w db mb room L) (hv : SlB w v bs) (hs : s.data.toList.length ≤ lim) (hcnt : L.length ≤ 999999) (hbl : bs.length ≤ 900000000) (hvm : ∀ k, v.ownBlock = some k → ¬ k = mb) :
    Calls Try.prog 29 #[.pointer (some ⟨db, 0, none⟩), .string s, v] w
      (DiskPost w db mb room L (.int .i64 ((mAppend (L.map (·.f)) room s.data.toList bs).1 : Nat)) (mAppend (L.map (·.f)) room s.data.toList bs).2) := by
  have hgd := Lib.hid (good_any s w hs)
  obtain ⟨mr, hmr⟩ : ∃ mr, Hid (mAppend (L.map (·.f)) room s.data.toList bs = mr) := ⟨_, rfl⟩
  rw [hmr.out]
  obtain ⟨a, m, cap, hva, hm⟩ := hv.shape'
  have H := Lib.hid h
  have HV := Lib.hid hv
  cases hg : goodB s.data.toList with
  | false =>
    rw [hg] at hgd
    have hmm : Hid (mr = (1, L.map (·.f))) := by rw [Hid, ← hmr.out, mAppend, if_pos hg]
    clear h hg hv hs
    subst hva
    go_enter Try.func29, Try.ntmps29
    go_wp2_with (go_at_call 51; go_must (refine hgd.out.mono ?_); rintro e w1 ⟨rfl, q1⟩)
    go_ret
    rw [hmm.out]
    exact DiskPost.same' H.out q1
  | true =>
    rw [hg] at hgd
    have hul := H.out.sz
    have hc0 := H.out.cell0
    have hml : m ≤ 900000000 := by rw [hm.out]; exact hbl
    obtain ⟨u, hu⟩ : ∃ u, mUsed (L.map (·.f)) = u := ⟨_, rfl⟩
    have HU := Lib.hid hu
    rw [hu] at hul
    obtain ⟨hul1, hul2⟩ := hul
    have hU : Hid (∀ W, IsDisk W db mb room L → Calls Try.prog 35 #[.pointer (some ⟨db, 0, none⟩)] W fun e w' => e = .returned (.int .i64 (u : Nat)) ∧ Tch No W w') := by
      intro W hW
      have := used_any db mb room L W hW (by omega)
      rw [hu] at this
      exact this
    by_cases hroom : room < u + m
    · have hmm : Hid (mr = (5, L.map (·.f))) := by rw [Hid, ← hmr.out, mAppend, if_neg (by rw [hg]; simp), if_pos (by rw [hu, ← hm.out]; exact hroom)]
      have ht : decide ((room : Int) - (u : Int) < (m : Int)) = true := by simp; omega
      have hw := Lib.hid (IntWalk.i64_in ((room : Int) - (u : Int)) ⟨by omega, by omega⟩)
      clear h hg hv hu hs
      subst hva
      go_enter Try.func29, Try.ntmps29
      go_wp2_with (go_at_call 51; go_must (refine hgd.out.mono ?_); rintro e w1 ⟨rfl, q1⟩)
      have hc1 := q1.cell hc0 (fun h => h)
      have H1 := Lib.hid (H.out.tch0 (q1.trans0 (Tch.drew _)))
      have hw' := hw.out
      go_region_held3 (fun w' => w'.cell? ⟨db, 0, none⟩ = some (.int .i64 room))
        (first | go_keep | exact q2.cell hc1 (fun h => h))
        (first | (go_at_call 35; refine (hU.out _ H1.out).mono ?_; rintro e w2 ⟨rfl, q2⟩))
      go_wp2
      go_ret
      rw [hmm.out]
      exact DiskPost.same' H.out ((q1.trans0 (Tch.drew _)).trans0 q2)
    · have hmm : Hid (mr = (0, mAppL (L.map (·.f)) s.data.toList bs)) := by rw [Hid, ← hmr.out, mAppend, if_neg (by rw [hg]; simp), if_neg (by rw [hu, ← hm.out]; exact hroom)]
      have ht : decide ((room : Int) - (u : Int) < (m : Int)) = false := by simp; omega
      have hw := Lib.hid (IntWalk.i64_in ((room : Int) - (u : Int)) ⟨by omega, by omega⟩)
      have hsm : s.size ≤ maxLen := by rw [show s.size = s.data.toList.length from (Array.length_toList (xs := s.data)).symm]; unfold lim at hs; simp only [maxLen]; omega
      have hkey := Lib.hid (Go.WideMaps.keyOf_string_mk Try.underlying9 hsm)
      have HVA := Lib.hid hva
      clear h hg hv hu
      rw [hva]
      go_enter Try.func29, Try.ntmps29
      go_wp2_with (go_at_call 51; go_must (refine hgd.out.mono ?_); rintro e w1 ⟨rfl, q1⟩)
      have hc1 := q1.cell hc0 (fun h => h)
      have H1 := Lib.hid (H.out.tch0 (q1.trans0 (Tch.drew _)))
      have hw' := hw.out
      go_region_held3 (fun w' => w'.cell? ⟨db, 0, none⟩ = some (.int .i64 room))
        (first | go_keep | exact q2.cell hc1 (fun h => h))
        (first | (go_at_call 35; refine (hU.out _ H1.out).mono ?_; rintro e w2 ⟨rfl, q2⟩))
      clear hw'
      have T2 := Lib.hid ((q1.trans0 (Tch.drew _)).trans0 q2)
      have H2 := Lib.hid (H.out.tch0 T2.out)
      have V2 := Lib.hid (HV.out.tch0 T2.out)
      have hc := Lib.hid (get_any db mb room L s w2 H2.out hsm)
      obtain ⟨nn, D, hown, hM⟩ := H2.out.map
      have HO := Lib.hid hown
      have HM := Lib.hid hM
      clear hown hM q1 q2 hc1 H1
      cases hf : findL L s.data.toList with
      | some x =>
        rw [hf] at hc
        have hx := findL_some hf
        have c0 := H2.out.ent0 hx.1
        obtain ⟨a0, m0, cap0, hv0, hm0⟩ := (H2.out.bts x hx.1).shape'
        rw [hv0] at c0
        have c0' := cal c0
        have HX := Lib.hid hx
        have HF := Lib.hid hf
        have HV0 := Lib.hid hv0
        clear hx hf hv0
        have hub : x.f.b.length ≤ u := by rw [← HU.out]; exact used_ge HX.out.1
        have hcat := Lib.hid (cat2 w2 a0 m0 cap0 a m cap x.f.b bs (by rw [← HV0.out]; exact H2.out.bts x HX.out.1) (by rw [← HVA.out]; exact V2.out) (by omega))
        go_wp2_with (first
          | (go_at_call 50; go_must (refine hc.out.mono ?_); rintro e w3 ⟨rfl, rfl⟩; unfold ptrOf)
          | (go_at_call 52; go_must (refine hcat.out.mono ?_); rintro e w3 ⟨vr, rfl, r1, r2, r3⟩; have R1 := Lib.hid r1; clear r1; obtain ⟨ar, mr', capr, hvr, hmr'⟩ := R1.out.shape'; subst hvr; have hkk := r3.cell (c0' _) (fun h => h); have hbk := blk_tch ((Tch.alloc w2 _).trans0 r3) (H2.out.ent x HX.out.1) (fun h => h); have hff := blk_free hbk 0; clear hbk))
        go_ret
        have hC := app_close H2.out HX.out.1 R1.out r2 r3 (by rw [HU.out, ← hm.out]; omega)
        have hi : (mGet (L.map (·.f)) s.data.toList).isSome = true := by rw [mGet_findL, HF.out]; rfl
        rw [hmm.out]
        refine ⟨rfl, _, ?_, hC.1, ?_, fun k hk => ?_⟩
        · rw [setV_f HM.out.nodup HX.out.1, mAppL, if_pos hi, HX.out.2]
        · exact (T2.out.no (F := DiskF db mb L)).trans hC.2.1 (fun k _ e => .inr (.inr ⟨x, HX.out.1, .inl e⟩))
        · have := setV_F hC.2.2 k hk
          exact this.imp id (fun h => Nat.le_trans T2.out.size h)
      | none =>
        rw [hf] at hc
        have HF := Lib.hid hf
        have c1 := cal H2.out.cell1
        have hown' := (tight HO.out).alloc (.cells #[.slice none 0 0, .int .i64 0, .bool false] 80)
        have hsz : Maps.size D < maxLen := by rw [HM.out.size HO.out]; simp only [maxLen]; omega
        have hkey' := hkey.out
        clear hf
        go_wp2_with (first
          | (go_at_call 50; go_must (refine hc.out.mono ?_); rintro e w3 ⟨rfl, rfl⟩; unfold ptrOf)
          | (at_mapUpdate; go_must (refine wpList_mapUpdate_own _ rfl _ _ _ 68 rfl 9 77 lawS Try.underlying68 ptrR mb _ D rfl hown' hsz _ _ _ rfl rfl hkey' _ [] (ptrR_some _) ?_); intro w3 hown3 hgrow3; have hA := add_close H2.out (findL_none HF.out) HM.out HO.out.isMap hown3 hgrow3; have H3 := Lib.hid hA.1; have T3 := Lib.hid hA.2; clear hA; have e0 := H3.out.ent0 (x := ⟨⟨s.data.toList, [], 0, false⟩, w2.heap.size, .slice none 0 0⟩) (by simp); have e0' := cal e0; have V3 := Lib.hid (V2.out.tch T3.out hvm); have hcat := Lib.hid (cat2 w3 none 0 0 a m cap [] bs (SlB.nil _) (by rw [← HVA.out]; exact V3.out) (by simp; omega)))
          | (go_at_call 52; go_must (refine hcat.out.mono ?_); rintro e w4 ⟨vr, rfl, r1, r2, r3⟩; have R1 := Lib.hid r1; clear r1; obtain ⟨ar, mr', capr, hvr, hmr'⟩ := R1.out.shape'; subst hvr; have hkk := r3.cell (e0' _) (fun h => h); have hbk := blk_tch ((Tch.alloc w3 _).trans0 r3) (H3.out.ent ⟨⟨s.data.toList, [], 0, false⟩, w2.heap.size, .slice none 0 0⟩ (by simp)) (fun h => h); have hff := blk_free hbk 0; clear hbk))
        go_ret
        have hmem : (⟨⟨s.data.toList, [], 0, false⟩, w2.heap.size, .slice none 0 0⟩ : FL) ∈ L ++ [⟨⟨s.data.toList, [], 0, false⟩, w2.heap.size, .slice none 0 0⟩] := by simp
        have hu2 : mUsed ((L ++ [(⟨⟨s.data.toList, [], 0, false⟩, w2.heap.size, .slice none 0 0⟩ : FL)]).map (·.f)) = u := by
          rw [List.map_append, mUsed_append, HU.out]; simp [mUsed]
        have hC := app_close H3.out hmem R1.out r2 r3 (by rw [hu2, ← hm.out]; omega)
        have hi : ¬ (mGet (L.map (·.f)) s.data.toList).isSome = true := by rw [mGet_findL, HF.out]; simp
        obtain ⟨nn3, D3, _, hM3⟩ := H3.out.map
        rw [hmm.out]
        refine ⟨rfl, _, ?_, hC.1, ?_, fun k hk => ?_⟩
        · rw [setV_f hM3.nodup hmem, mAppL, if_neg hi, List.map_append, List.map_append]
          congr 1
          · refine (List.map_congr_left (g := id) fun y hy => ?_).trans (List.map_id _)
            obtain ⟨z, hz, rfl⟩ := List.mem_map.1 hy
            rw [if_neg (fun e => findL_none HF.out (by rw [← show z.f.name = s.data.toList from e]; exact List.mem_map_of_mem (f := fun x : FL => x.f.name) hz))]; rfl
          · simp
        · exact ((T2.out.no (F := DiskF db mb L)).trans T3.out (fun k _ e => .inr (.inl e))).trans hC.2.1 (fun k hk e => by
            have := T2.out.size
            have e' : k = w2.heap.size := e
            omega)
        · rcases setV_F hC.2.2 k hk with h | h
          · rcases h with rfl | rfl | ⟨y, hy, hk⟩
            · exact .inl (.inl rfl)
            · exact .inl (.inr (.inl rfl))
            · simp only [List.mem_append, List.mem_singleton] at hy
              rcases hy with hy | rfl
              · exact .inl (.inr (.inr ⟨y, hy, hk⟩))
              · rcases hk with rfl | hk
                · exact .inr T2.out.size
                · simp [Value.ownBlock] at hk
          · exact .inr (Nat.le_trans (Nat.le_trans T2.out.size T3.out.size) h)
end Go.Proofs.Ytcjlgdldhcbcjaa
