import Derived.Test.YtcjlgdldhcbcjaaDisk
import Derived.Test.YtcjlgdldhcbcjaaGood
namespace Go.Proofs.Ytcjlgdldhcbcjaa
open Go.RowKit Go.Maps
set_option linter.unusedVariables false
set_option linter.unusedSimpArgs false

theorem IsDisk.cell0 {w : World} {db mb room : Nat} {L : List FL} (h : IsDisk w db mb room L) : w.cell? ⟨db, 0, none⟩ = some (.int .i64 room) := by simpa using blk_cell h.disk 0
theorem IsDisk.cell1 {w : World} {db mb room : Nat} {L : List FL} (h : IsDisk w db mb room L) : w.cell? ⟨db, 1, none⟩ = some (.map (some mb)) := by simpa using blk_cell h.disk 1
theorem IsDisk.ent0 {w : World} {db mb room : Nat} {L : List FL} (h : IsDisk w db mb room L) {x : FL} (hx : x ∈ L) : w.cell? ⟨x.eb, 0, none⟩ = some x.v := by simpa using blk_cell (h.ent x hx) 0
theorem IsDisk.ent1 {w : World} {db mb room : Nat} {L : List FL} (h : IsDisk w db mb room L) {x : FL} (hx : x ∈ L) : w.cell? ⟨x.eb, 1, none⟩ = some (.int .i64 x.f.sure) := by simpa using blk_cell (h.ent x hx) 1
theorem IsDisk.ent2 {w : World} {db mb room : Nat} {L : List FL} (h : IsDisk w db mb room L) {x : FL} (hx : x ∈ L) : w.cell? ⟨x.eb, 2, none⟩ = some (.bool x.f.named) := by simpa using blk_cell (h.ent x hx) 2

def ptrOf (o : Option FL) : Value := .pointer (o.map fun x => ⟨x.eb, 0, none⟩)

set_option maxRecDepth 100000 in
set_option maxHeartbeats 1000000 in
theorem get_any (db mb room : Nat) (L : List FL) (s : ByteArray) (w : World) (h : IsDisk w db mb room L) (hs : s.size ≤ maxLen) :
    Calls Try.prog 50 #[.pointer (some ⟨db, 0, none⟩), .string s] w fun e w' => e = .returned (ptrOf (findL L s.data.toList)) ∧ w = w' := by
  have hl := h.look s hs
  have h1 := h.cell1
  obtain ⟨r, hr⟩ : ∃ r, (.pointer ((findL L s.data.toList).map fun x => ⟨x.eb, 0, none⟩) : Value) = r := ⟨_, rfl⟩
  rw [ptrOf, hr]
  rw [hr] at hl
  clear h hs hr
  go_enter Try.func50, Try.ntmps50
  go_wp2
  go_ret
  exact ⟨rfl, rfl⟩

set_option maxRecDepth 100000 in
set_option maxHeartbeats 1000000 in
theorem get_nil (s : ByteArray) (w : World) : Calls Try.prog 50 #[.pointer none, .string s] w fun e w' => e = .returned (.pointer none) ∧ w = w' := by
  go_enter Try.func50, Try.ntmps50
  go_wp2
  go_ret
  exact ⟨rfl, rfl⟩

def mSure (M : List FE) (n : Key) : Nat := match mGet M n with
  | some x => x.sure
  | none => 0

set_option maxRecDepth 100000 in
set_option maxHeartbeats 1000000 in
theorem sure_any (db mb room : Nat) (L : List FL) (s : ByteArray) (w : World) (h : IsDisk w db mb room L) (hs : s.size ≤ maxLen) :
    Calls Try.prog 27 #[.pointer (some ⟨db, 0, none⟩), .string s] w fun e w' => e = .returned (.int .i64 (mSure (L.map (·.f)) s.data.toList : Nat)) ∧ w = w' := by
  have hc := Lib.hid (get_any db mb room L s w h hs)
  unfold mSure
  rw [mGet_findL]
  cases hf : findL L s.data.toList with
  | none =>
    rw [hf] at hc
    clear h hf
    go_enter Try.func27, Try.ntmps27
    go_wp2_with (go_at_call 50; go_must (refine hc.out.mono ?_); rintro e w1 ⟨rfl, rfl⟩; unfold ptrOf)
    go_ret
    exact ⟨rfl, rfl⟩
  | some x =>
    rw [hf] at hc
    rw [Option.map_some]
    have hx := findL_some hf
    have c1 := h.ent1 hx.1
    clear h hf hx
    go_enter Try.func27, Try.ntmps27
    go_wp2_with (go_at_call 50; go_must (refine hc.out.mono ?_); rintro e w1 ⟨rfl, rfl⟩; unfold ptrOf)
    go_ret
    exact ⟨rfl, rfl⟩

set_option maxRecDepth 100000 in
set_option maxHeartbeats 1000000 in
theorem sure_nil (s : ByteArray) (w : World) : Calls Try.prog 27 #[.pointer none, .string s] w fun e w' => e = .returned (.int .i64 0) ∧ w = w' := by
  go_enter Try.func27, Try.ntmps27
  go_wp2_with (go_at_call 50; go_must (refine (get_nil s w).mono ?_); rintro e w1 ⟨rfl, rfl⟩)
  go_ret
  exact ⟨rfl, rfl⟩

theorem infoB : (Try.prog.info? 5).map (fun i => (i.zero, i.size, i.bytes)) = some (some (.int .u8 0), 1, 1) := by kernel_rfl

/-- What Read gives. -/
def ReadPost (M : List FE) (n : Key) (w : World) (e : Ending) (w' : World) : Prop :=
  ∃ v, e = .returned (.tuple #[v, .bool (mGet M n).isSome]) ∧ SlB w' v ((mGet M n).elim [] (·.b)) ∧ (∀ k, v.ownBlock = some k → w.heap.size ≤ k) ∧ Tch No w w'

theorem own_empty (w : World) (e : TypeId) : (w.alloc (.cells #[] e)).ownsRow 0 e 1 (.slice (some ⟨w.heap.size, 0, none⟩) 0 0) ([] : List UInt8).length (u8s []) :=
  ⟨rfl, .inr ⟨w.heap.size, 0, #[], rfl, Nat.zero_le _, heap_alloc_new w _, Nat.le_refl _, Nat.zero_le _, rfl, rfl⟩⟩

set_option maxRecDepth 100000 in
set_option maxHeartbeats 1000000 in
theorem read_dnil (s : ByteArray) (w : World) : Calls Try.prog 26 #[.pointer none, .string s] w fun e w' => e = .returned (.tuple #[.slice none 0 0, .bool false]) ∧ w = w' := by
  go_enter Try.func26, Try.ntmps26
  go_wp2_with (go_at_call 50; go_must (refine (get_nil s w).mono ?_); rintro e w1 ⟨rfl, rfl⟩)
  go_ret2
  exact ⟨rfl, rfl⟩

set_option maxRecDepth 100000 in
set_option maxHeartbeats 1000000 in
theorem dread_any (db mb room : Nat) (L : List FL) (s : ByteArray) (w : World) (h : IsDisk w db mb room L) (hs : s.size ≤ maxLen) :
    Calls Try.prog 26 #[.pointer (some ⟨db, 0, none⟩), .string s] w (ReadPost (L.map (·.f)) s.data.toList w) := by
  have hc := Lib.hid (get_any db mb room L s w h hs)
  have hg := Lib.hid (mGet_findL L s.data.toList)
  cases hf : findL L s.data.toList with
  | none =>
    rw [hf] at hc hg
    clear h hf
    go_enter Try.func26, Try.ntmps26
    go_wp2_with (go_at_call 50; go_must (refine hc.out.mono ?_); rintro e w1 ⟨rfl, rfl⟩; unfold ptrOf)
    go_ret2
    exact ⟨_, by rw [hg.out]; rfl, by rw [hg.out]; exact SlB.nil _, fun k hk => by simp [Value.ownBlock] at hk, Tch.refl _ _⟩
  | some x =>
    rw [hf] at hc hg
    have hx := findL_some hf
    have c0 := h.ent0 hx.1
    have B := Lib.hid (h.bts x hx.1)
    have hbl := B.out.1
    obtain ⟨a, m, cap, hv, hm⟩ := B.out.shape'
    have HV := Lib.hid hv
    rw [hv] at c0
    have c0' := cal c0
    obtain ⟨i0, hi0, hz0, hz1, hz2⟩ := info_parts infoB
    have hb' : Hid (SlB (w.alloc (.cells #[] 5)) (.slice a m cap) x.f.b) := by rw [← hv]; exact B.out.tch0 (Tch.alloc _ _)
    clear h hf hx hv
    go_enter Try.func26, Try.ntmps26
    go_wp2_with (first
      | (go_at_call 50; go_must (refine hc.out.mono ?_); rintro e w1 ⟨rfl, rfl⟩; unfold ptrOf)
      | (at_builtin; go_must (refine wpList_app _ rfl _ _ 22 rfl 5 i0 Try.underlying22 hi0 hz0 hz1 hz2 (.slice (some ⟨w.heap.size, 0, none⟩) 0 0) [] rfl (own_empty _ _) _ x.f.b rfl hb'.out (by simpa using hbl) x.f.b (by simp [Hid]) ?_); intro a1 n1 cap1 w1 hA hn1))
    go_ret2
    refine ⟨.slice a1 n1 cap1, by rw [hg.out]; rfl, by rw [hg.out]; exact SlB.ofRow hA.own hbl, fun k hk => ?_, (Tch.alloc w _).fresh (Tch.grown hA.grow (F := fun k => w.heap.size = k) (fun k hk _ => by simpa [Value.ownBlock] using hk)) (fun i hi => by omega)⟩
    rcases hA.loc with e | e
    · rw [e] at hk; simp [Value.ownBlock] at hk; omega
    · rw [e] at hk; simp at hk; omega

/-- What a call that turns a disk leaves. -/
def DiskPost (w : World) (db mb room : Nat) (L : List FL) (res : Value) (M : List FE) (e : Ending) (w' : World) : Prop :=
  e = .returned res ∧ ∃ L', L'.map (·.f) = M ∧ IsDisk w' db mb room L' ∧ Tch (DiskF db mb L) w w' ∧ ∀ k, DiskF db mb L' k → DiskF db mb L k ∨ w.heap.size ≤ k

def errno (n : Nat) : Value := .int .i64 (n : Int)

def mSync (M : List FE) (n : Key) : List FE := M.map fun x => if x.name = n then { x with sure := x.b.length, named := true } else x

/-- One entry is laid anew. -/
def setL (L : List FL) (n : Key) (g : FE → FE) : List FL := L.map fun x => if x.f.name = n then { x with f := g x.f } else x
theorem setL_f (L : List FL) (n : Key) (g : FE → FE) : (setL L n g).map (·.f) = (L.map (·.f)).map fun x => if x.name = n then g x else x := by
  unfold setL
  rw [List.map_map, List.map_map]
  refine List.map_congr_left fun x _ => ?_
  simp only [Function.comp]
  split <;> rfl
theorem setL_mem {L : List FL} {n : Key} {g : FE → FE} {y : FL} (hy : y ∈ setL L n g) : ∃ x ∈ L, y.eb = x.eb ∧ y.v = x.v ∧ y.f = if x.f.name = n then g x.f else x.f := by
  obtain ⟨x, hx, rfl⟩ := List.mem_map.1 hy
  refine ⟨x, hx, ?_⟩
  split <;> simp_all
theorem nodup_eb {L : List FL} (h : (L.map (·.eb)).Nodup) {x y : FL} (hx : x ∈ L) (hy : y ∈ L) (e : x.eb = y.eb) : x = y := by
  induction L with
  | nil => cases hx
  | cons z r ih =>
    simp only [List.map_cons, List.nodup_cons] at h
    simp only [List.mem_cons] at hx hy
    rcases hx with rfl | hx <;> rcases hy with rfl | hy
    · rfl
    · exact absurd (e ▸ List.mem_map_of_mem hy) h.1
    · exact absurd (e ▸ List.mem_map_of_mem hx) h.1
    · exact ih h.2 hx hy
theorem nodup_name {L : List FL} (h : (L.map (·.f.name)).Nodup) {x y : FL} (hx : x ∈ L) (hy : y ∈ L) (e : x.f.name = y.f.name) : x = y := by
  induction L with
  | nil => cases hx
  | cons z r ih =>
    simp only [List.map_cons, List.nodup_cons] at h
    simp only [List.mem_cons] at hx hy
    rcases hx with rfl | hx <;> rcases hy with rfl | hy
    · rfl
    · exact absurd (e ▸ List.mem_map_of_mem (f := fun x : FL => x.f.name) hy) h.1
    · exact absurd (e ▸ List.mem_map_of_mem (f := fun x : FL => x.f.name) hx) h.1
    · exact ih h.2 hx hy

/-- An entry's three cells are written: the disk with that entry laid anew. Only the entry's block may have turned. -/
theorem IsDisk.set {w w' : World} {db mb room : Nat} {L : List FL} (h : IsDisk w db mb room L) {x : FL} (hx : x ∈ L) (g : FE → FE) (hname : (g x.f).name = x.f.name) (hb : (g x.f).b = x.f.b) (hsure : (g x.f).sure ≤ (g x.f).b.length)
    (ht : Tch (fun k => k = x.eb) w w') (he : w'.heap[x.eb]? = some (.cells #[x.v, .int .i64 (g x.f).sure, .bool (g x.f).named] 80 (0, 0))) :
    IsDisk w' db mb room (setL L x.f.name g) := by
  obtain ⟨nn, D, hm, hM⟩ := h.map
  have hmem : ∀ y ∈ setL L x.f.name g, ∃ z ∈ L, y.eb = z.eb ∧ y.v = z.v ∧ y.f.b = z.f.b ∧ y.f.name = z.f.name ∧ y.f.sure ≤ y.f.b.length ∧ (z = x → y.f = g x.f) ∧ (z ≠ x → y.f = z.f) := by
    intro y hy
    obtain ⟨z, hz, h1, h2, h3⟩ := setL_mem hy
    refine ⟨z, hz, h1, h2, ?_⟩
    by_cases e : z.f.name = x.f.name
    · have : z = x := nodup_name hM.nodup hz hx e
      subst this
      rw [if_pos rfl] at h3
      rw [h3]
      exact ⟨hb, hname, hsure, fun _ => rfl, fun q => absurd rfl q⟩
    · rw [if_neg e] at h3
      rw [h3]
      exact ⟨rfl, rfl, h.le z hz, fun q => absurd (by rw [q]) e, fun _ => rfl⟩
  have hpair : (setL L x.f.name g).map (fun y => (y.f.name, y.eb)) = L.map (fun y => (y.f.name, y.eb)) := by
    unfold setL
    rw [List.map_map]
    refine List.map_congr_left fun y hy => ?_
    simp only [Function.comp]
    split
    · rename_i e
      have : y = x := nodup_name hM.nodup hy hx e
      subst this
      simp [hname]
    · rfl
  have heb : (setL L x.f.name g).map (·.eb) = L.map (·.eb) := by
    have := congrArg (List.map Prod.snd) hpair
    simpa [Function.comp_def] using this
  refine ⟨blk_tch ht h.disk (fun e => h.dne.2 x hx e.symm), ⟨nn, D, own_map_tch hm ht (fun e => h.mbne x hx e.symm), hM.congr hpair⟩, ?_, ?_, by rw [heb]; exact h.ebs, ⟨h.dne.1, ?_⟩, ?_, ?_, ?_, h.sz.2⟩
  · intro y hy
    obtain ⟨z, hz, h1, h2, h3, h4, h5, h6, h7⟩ := hmem y hy
    by_cases e : z = x
    · rw [h1, e, h2, e, h6 e]; exact he
    · rw [h1, h2, h7 e]
      exact blk_tch ht (h.ent z hz) (fun q => e (nodup_eb h.ebs hz hx q))
  · intro y hy
    obtain ⟨z, hz, h1, h2, h3, _⟩ := hmem y hy
    rw [h2, h3]
    exact (h.bts z hz).tch ht (fun k hk q => (h.vne z hz).2 x hx (by rw [hk, q]))
  · intro y hy
    obtain ⟨z, hz, h1, _⟩ := hmem y hy
    rw [h1]; exact h.dne.2 z hz
  · intro y hy
    obtain ⟨z, hz, h1, h2, _⟩ := hmem y hy
    refine ⟨by rw [h2]; exact (h.vne z hz).1, fun y' hy' => ?_⟩
    obtain ⟨z', hz', h1', _⟩ := hmem y' hy'
    rw [h2, h1']; exact (h.vne z hz).2 z' hz'
  · intro y hy
    obtain ⟨z, hz, _, _, _, _, h5, _⟩ := hmem y hy
    exact h5
  · have : ((setL L x.f.name g).map (·.f)).map (fun y : FE => y.b.length) = (L.map (·.f)).map (fun y : FE => y.b.length) := by
      unfold setL
      rw [List.map_map, List.map_map, List.map_map]
      refine List.map_congr_left fun y hy => ?_
      simp only [Function.comp]
      split
      · rename_i e
        have : y = x := nodup_name hM.nodup hy hx e
        subst this
        simp [hb]
      · rfl
    unfold mUsed
    rw [this]; exact h.sz.1

theorem setF {db mb : Nat} {L : List FL} {n : Key} {g : FE → FE} : ∀ k, DiskF db mb (setL L n g) k → DiskF db mb L k := by
  rintro k (rfl | rfl | ⟨y, hy, hk⟩)
  · exact .inl rfl
  · exact .inr (.inl rfl)
  · obtain ⟨x, hx, h1, h2, _⟩ := setL_mem hy
    exact .inr (.inr ⟨x, hx, by rw [← h1, ← h2]; exact hk⟩)

set_option maxRecDepth 100000 in
set_option maxHeartbeats 1000000 in
theorem sync_nil (s : ByteArray) (w : World) : Calls Try.prog 53 #[.pointer none, .string s] w fun e w' => e = .returned (.int .i64 7) ∧ w = w' := by
  go_enter Try.func53, Try.ntmps53
  go_wp2_with (go_at_call 50; go_must (refine (get_nil s w).mono ?_); rintro e w1 ⟨rfl, rfl⟩)
  go_ret
  exact ⟨rfl, rfl⟩

theorem DiskPost.same {w : World} {db mb room : Nat} {L : List FL} {res : Value} (h : IsDisk w db mb room L) : DiskPost w db mb room L res (L.map (·.f)) (.returned res) w :=
  ⟨rfl, L, rfl, h, Tch.refl _ _, fun _ hk => .inl hk⟩

set_option maxRecDepth 100000 in
set_option maxHeartbeats 1000000 in
theorem sync_any (db mb room : Nat) (L : List FL) (s : ByteArray) (w : World) (h : IsDisk w db mb room L) (hs : s.size ≤ maxLen) :
    Calls Try.prog 53 #[.pointer (some ⟨db, 0, none⟩), .string s] w
      (DiskPost w db mb room L (.int .i64 (if (mGet (L.map (·.f)) s.data.toList).isSome then 0 else 6)) (mSync (L.map (·.f)) s.data.toList)) := by
  have hc := Lib.hid (get_any db mb room L s w h hs)
  rw [mGet_findL]
  cases hf : findL L s.data.toList with
  | none =>
    rw [hf] at hc
    have hsame : Hid (mSync (L.map (·.f)) s.data.toList = L.map (·.f)) := by
      refine (List.map_congr_left (g := id) fun x hx => ?_).trans (List.map_id _)
      obtain ⟨y, hy, rfl⟩ := List.mem_map.1 hx
      rw [if_neg (fun e => findL_none hf (by rw [← e]; exact List.mem_map_of_mem (f := fun x : FL => x.f.name) hy))]; rfl
    have H := Lib.hid h
    clear h hf
    go_enter Try.func53, Try.ntmps53
    go_wp2_with (go_at_call 50; go_must (refine hc.out.mono ?_); rintro e w1 ⟨rfl, rfl⟩; unfold ptrOf)
    go_ret
    rw [hsame.out]; exact DiskPost.same H.out
  | some x =>
    rw [hf] at hc
    have hx := findL_some hf
    have c0 := h.ent0 hx.1
    have c1 := h.ent1 hx.1
    have c2 := h.ent2 hx.1
    have f1 := blk_free (h.ent x hx.1) 1
    have f2 := blk_free (h.ent x hx.1) 2
    have hb := (h.bts x hx.1)
    obtain ⟨a, m, cap, hv, hm⟩ := hb.shape'
    rw [hv] at c0
    have H := Lib.hid h
    have HX := Lib.hid hx
    clear h hf hx hv hb
    go_enter Try.func53, Try.ntmps53
    go_wp2_with (go_at_call 50; go_must (refine hc.out.mono ?_); rintro e w1 ⟨rfl, rfl⟩; unfold ptrOf)
    go_ret
    have hxn := HX.out.2
    have hset := H.out.set HX.out.1 (fun f => { f with sure := f.b.length, named := true }) rfl rfl (Nat.le_refl _)
      (w' := (w.setCell ⟨x.eb, 1, none⟩ (.int .i64 (m : Int))).setCell ⟨x.eb, 2, none⟩ (.bool true))
      ((Tch.setCell (F := fun k => k = x.eb) _ _ _ (fun _ => rfl)).trans (Tch.setCell (F := fun k => k = x.eb) _ _ _ (fun _ => rfl)) (fun _ _ h => h))
      (by
        have e1 := blk_set (H.out.ent x HX.out.1) 1 (.int .i64 (m : Int))
        have e2 := blk_set e1 2 (.bool true)
        rw [hm.out] at e2 ⊢
        simpa using e2)
    refine ⟨rfl, _, ?_, hset, ?_, fun k hk => .inl (setF k hk)⟩
    · rw [setL_f, hxn]; rfl
    · exact ((Tch.setCell (F := fun k => k = x.eb) _ _ _ (fun _ => rfl)).trans (Tch.setCell (F := fun k => k = x.eb) _ _ _ (fun _ => rfl)) (fun _ _ h => h)).mono (fun k _ e => .inr (.inr ⟨x, HX.out.1, .inl e⟩))

def mDel (M : List FE) (n : Key) : List FE := M.filter fun x => x.name != n
def delL (L : List FL) (n : Key) : List FL := L.filter fun x => x.f.name != n
theorem delL_f (L : List FL) (n : Key) : (delL L n).map (·.f) = mDel (L.map (·.f)) n := by
  unfold delL mDel
  rw [List.filter_map]; rfl

theorem sum_filter_le (p : FE → Bool) : ∀ M : List FE, mUsed (M.filter p) ≤ mUsed M
  | [] => Nat.le_refl _
  | x :: r => by
    have := sum_filter_le p r
    unfold mUsed at *
    rw [List.filter_cons]
    split <;> simp <;> omega

/-- Some entries of the map go. -/
theorem IsDisk.del {w w' : World} {db mb room : Nat} {L : List FL} (h : IsDisk w db mb room L) (n : Key) {nn : Nat} {D : Dt} (hM : MapIs D L)
    (hm : w'.ownsMap Try.prog 9 ptrR mb nn (D.del (.string n))) (hg : w.grownBy w' (some mb)) : IsDisk w' db mb room (delL L n) := by
  have ht : Tch (fun k => k = mb) w w' := Tch.grown hg (fun k hk _ => by injection hk with hk; exact hk.symm)
  have hsub : ∀ x ∈ delL L n, x ∈ L := fun x hx => (List.mem_filter.1 hx).1
  refine ⟨blk_tch ht h.disk h.dne.1, ⟨nn, _, hm, hM.del n⟩, fun x hx => blk_tch ht (h.ent x (hsub x hx)) (h.mbne x (hsub x hx)), fun x hx => (h.bts x (hsub x hx)).tch ht (fun k hk e => (h.vne x (hsub x hx)).1 (by rw [hk, e])),
    (List.filter_sublist.map _).nodup h.ebs, ⟨h.dne.1, fun x hx => h.dne.2 x (hsub x hx)⟩, fun x hx => ⟨(h.vne x (hsub x hx)).1, fun y hy => (h.vne x (hsub x hx)).2 y (hsub y hy)⟩, fun x hx => h.le x (hsub x hx), ?_, h.sz.2⟩
  rw [delL_f]; exact Nat.le_trans (sum_filter_le _ _) h.sz.1

theorem delF {db mb : Nat} {L : List FL} {n : Key} : ∀ k, DiskF db mb (delL L n) k → DiskF db mb L k := by
  rintro k (rfl | rfl | ⟨y, hy, hk⟩)
  · exact .inl rfl
  · exact .inr (.inl rfl)
  · exact .inr (.inr ⟨y, (List.mem_filter.1 hy).1, hk⟩)

set_option maxRecDepth 100000 in
set_option maxHeartbeats 1000000 in
theorem delete_nil (s : ByteArray) (w : World) : Calls Try.prog 47 #[.pointer none, .string s] w fun e w' => e = .returned (.int .i64 7) ∧ w = w' := by
  go_enter Try.func47, Try.ntmps47
  go_wp2
  go_ret
  exact ⟨rfl, rfl⟩

theorem mDel_none {L : List FL} {n : Key} (hf : findL L n = none) : mDel (L.map (·.f)) n = L.map (·.f) := by
  unfold mDel
  rw [List.filter_eq_self]
  intro y hy
  obtain ⟨x, hx, rfl⟩ := List.mem_map.1 hy
  have := fun e : x.f.name = n => findL_none hf (by rw [← e]; exact List.mem_map_of_mem (f := fun x : FL => x.f.name) hx)
  simpa using this

set_option maxRecDepth 100000 in
set_option maxHeartbeats 1000000 in
theorem delete_any (db mb room : Nat) (L : List FL) (s : ByteArray) (w : World) (h : IsDisk w db mb room L) (hs : s.size ≤ maxLen) :
    Calls Try.prog 47 #[.pointer (some ⟨db, 0, none⟩), .string s] w
      (DiskPost w db mb room L (.int .i64 (if (mGet (L.map (·.f)) s.data.toList).isSome then 0 else 6)) (mDel (L.map (·.f)) s.data.toList)) := by
  have hc := Lib.hid (get_any db mb room L s w h hs)
  rw [mGet_findL]
  cases hf : findL L s.data.toList with
  | none =>
    rw [hf] at hc
    have hsame := Lib.hid (mDel_none hf)
    have H := Lib.hid h
    clear h hf
    go_enter Try.func47, Try.ntmps47
    go_wp2_with (go_at_call 50; go_must (refine hc.out.mono ?_); rintro e w1 ⟨rfl, rfl⟩; unfold ptrOf)
    go_ret
    rw [hsame.out]; exact DiskPost.same H.out
  | some x =>
    rw [hf] at hc
    have c1 := h.cell1
    obtain ⟨nn, D, hown, hM⟩ := h.map
    have hkey := Go.WideMaps.keyOf_string_mk Try.underlying9 hs
    have H := Lib.hid h
    have HM := Lib.hid hM
    clear h hf hM
    go_enter Try.func47, Try.ntmps47
    go_wp2_with (first
      | (go_at_call 50; go_must (refine hc.out.mono ?_); rintro e w1 ⟨rfl, rfl⟩; unfold ptrOf)
      | (at_delete; go_must (refine wpList_delete_own _ rfl _ _ 68 9 rfl 77 lawS Try.underlying68 _ mb nn D rfl hown _ _ rfl hkey ?_); intro w1 hown1 hturn1))
    go_ret
    refine ⟨rfl, _, delL_f _ _, H.out.del _ HM.out hown1 hturn1.grown, Tch.grown hturn1.grown (fun k hk _ => .inr (.inl (by injection hk with hk; exact hk.symm))), fun k hk => .inl (delF k hk)⟩
end Go.Proofs.Ytcjlgdldhcbcjaa
