import Derived.Test.YtcjlgdldhcbcjaaMem
import Derived.Sort.KeysCollected
import Derived.StringKeys
namespace Go.Proofs.Ytcjlgdldhcbcjaa
open Go.RowKit Go.Maps
set_option linter.unusedVariables false
set_option linter.unusedSimpArgs false

abbrev Key := List UInt8
/-- A file of a disk, as the document has it. -/
structure FE where
  name : Key
  b : List UInt8
  sure : Nat
  named : Bool
/-- .. and where it lies. -/
structure FL where
  f : FE
  eb : Nat
  v : Value

def names (M : List FE) : List Key := M.map (·.name)
def mUsed (M : List FE) : Nat := (M.map (·.b.length)).sum
def mGet (M : List FE) (n : Key) : Option FE := M.find? (fun x => x.name == n)

abbrev Dt := DataW Unit
/-- How a pointer to an entry reads. -/
def ptrR : Value → Option (Dt × List MemPlace)
  | .pointer (some ⟨b, 0, none⟩) => some (.lit (.int .i64 b), [])
  | .pointer none => some (.nil, [])
  | _ => none
theorem ptrR_some (b : Nat) : ptrR (.pointer (some ⟨b, 0, none⟩)) = some (.lit (.int .i64 b), []) := rfl
theorem ptrR_none : ptrR (.pointer none) = some (.nil, []) := rfl
theorem ptrR_lit {v : Value} {b : Nat} {ps : List MemPlace} (h : ptrR v = some (.lit (.int .i64 b), ps)) : v = .pointer (some ⟨b, 0, none⟩) := by
  unfold ptrR at h
  split at h
  · simp at h; have := h.1; congr 3; omega
  · simp at h
  · cases h
theorem ptrR_nil {v : Value} {ps : List MemPlace} (h : ptrR v = some (.nil, ps)) : v = .pointer none := by
  unfold ptrR at h
  split at h
  · simp at h
  · rfl
  · cases h

/-- What the map's datum says of the files. -/
structure MapIs (D : Dt) (L : List FL) : Prop where
  has : ∀ k : Key, Maps.has D (.string k) = true ↔ k ∈ L.map (·.f.name)
  at' : ∀ x ∈ L, ∀ z, D.atKey (.string x.f.name) z = .lit (.int .i64 x.eb)
  nodup : (L.map (·.f.name)).Nodup

theorem MapIs.perm {D : Dt} {L L' : List FL} (h : MapIs D L) (hp : L.Perm L') : MapIs D L' :=
  ⟨fun k => (h.has k).trans ((hp.map _).mem_iff), fun x hx => h.at' x (hp.mem_iff.2 hx), (hp.map _).nodup_iff.1 h.nodup⟩
theorem isKey (k : Key) : WideAt.IsKeyLit (.string k) := by simp [WideAt.IsKeyLit]
theorem key_ne {a b : Key} (h : a ≠ b) : (Lit.string a) ≠ (Lit.string b) := fun e => h (by injection e)

theorem MapIs.put_new {D : Dt} {L : List FL} (h : MapIs D L) (hD : Maps.IsMap D) {x : FL} (hx : x.f.name ∉ L.map (·.f.name)) : MapIs (D.put (.string x.f.name) (.lit (.int .i64 x.eb))) (L ++ [x]) := by
  refine ⟨fun k => ?_, fun y hy z => ?_, ?_⟩
  · by_cases hk : k = x.f.name
    · subst hk
      rw [has_put_same hD (isKey _)]; simp
    · rw [has_put_other (key_ne hk), h.has k]; simp [hk]
  · simp only [List.mem_append, List.mem_singleton] at hy
    rcases hy with hy | rfl
    · rw [atKey_put_other (key_ne (fun e => hx (by rw [← e]; exact List.mem_map_of_mem (f := fun x : FL => x.f.name) hy)))]
      exact h.at' y hy z
    · exact atKey_put_same hD (isKey _) _ _
  · rw [List.map_append, List.nodup_append]
    exact ⟨h.nodup, by simp, fun a ha b hb => by simp at hb; subst hb; exact fun e => hx (e ▸ ha)⟩

theorem MapIs.del {D : Dt} {L : List FL} (h : MapIs D L) (n : Key) : MapIs (D.del (.string n)) (L.filter (fun x => x.f.name != n)) := by
  refine ⟨fun k => ?_, fun y hy z => ?_, ?_⟩
  · by_cases hk : k = n
    · subst hk
      rw [has_del_same]; simp
    · rw [has_del_other (key_ne hk), h.has k]
      simp only [List.mem_map, List.mem_filter]
      constructor
      · rintro ⟨x, hx, rfl⟩; exact ⟨x, ⟨hx, by simpa using hk⟩, rfl⟩
      · rintro ⟨x, ⟨hx, _⟩, rfl⟩; exact ⟨x, hx, rfl⟩
  · rw [List.mem_filter] at hy
    rw [atKey_del_other (key_ne (by simpa using hy.2))]
    exact h.at' y hy.1 z
  · exact (List.filter_sublist.map _).nodup h.nodup

/-- The lay of a map's files may be told anew, name by name and block by block alike. -/
theorem MapIs.congr {D : Dt} {L L' : List FL} (h : MapIs D L) (he : L'.map (fun x => (x.f.name, x.eb)) = L.map (fun x => (x.f.name, x.eb))) : MapIs D L' := by
  have hn : L'.map (·.f.name) = L.map (·.f.name) := by
    have := congrArg (List.map Prod.fst) he
    simpa [Function.comp_def] using this
  refine ⟨fun k => by rw [hn]; exact h.has k, fun y hy z => ?_, by rw [hn]; exact h.nodup⟩
  have : (y.f.name, y.eb) ∈ L.map (fun x => (x.f.name, x.eb)) := by rw [← he]; exact List.mem_map_of_mem (f := fun x : FL => (x.f.name, x.eb)) hy
  obtain ⟨x, hx, hxe⟩ := List.mem_map.1 this
  simp only [Prod.mk.injEq] at hxe
  rw [← hxe.1, ← hxe.2]; exact h.at' x hx z

/-- Block db is a disk; mb: its map. -/
structure IsDisk (w : World) (db mb : Nat) (room : Nat) (L : List FL) : Prop where
  disk : w.heap[db]? = some (.cells #[.int .i64 room, .map (some mb)] 70 (0, 0))
  map : ∃ nn D, w.ownsMap Try.prog 9 ptrR mb nn D ∧ MapIs D L
  ent : ∀ x ∈ L, w.heap[x.eb]? = some (.cells #[x.v, .int .i64 x.f.sure, .bool x.f.named] 80 (0, 0))
  bts : ∀ x ∈ L, SlB w x.v x.f.b
  ebs : (L.map (·.eb)).Nodup
  dne : db ≠ mb ∧ ∀ x ∈ L, x.eb ≠ db
  vne : ∀ x ∈ L, x.v.ownBlock ≠ some mb ∧ ∀ y ∈ L, x.v.ownBlock ≠ some y.eb
  le : ∀ x ∈ L, x.f.sure ≤ x.f.b.length
  sz : mUsed (L.map (·.f)) ≤ 1048576 ∧ room ≤ 1048576

def DiskF (db mb : Nat) (L : List FL) : Nat → Prop := fun k => k = db ∨ k = mb ∨ ∃ x ∈ L, k = x.eb ∨ x.v.ownBlock = some k

theorem IsDisk.mbne {w : World} {db mb room : Nat} {L : List FL} (h : IsDisk w db mb room L) : ∀ x ∈ L, x.eb ≠ mb := by
  intro x hx e
  obtain ⟨nn, D, ⟨es, clock, hb, _⟩, _⟩ := h.map
  have := h.ent x hx
  rw [e, hb] at this
  cases this

theorem own_map_tch {F : Nat → Prop} {w w' : World} {P : Program} {k : TypeId} {R : Value → Option (Dt × List MemPlace)} {b n : Nat} {D : Dt} (h : w.ownsMap P k R b n D) (ht : Tch F w w') (hF : ¬ F b) : w'.ownsMap P k R b n D := by
  obtain ⟨es, clock, hb, F', hs, hD⟩ := h
  exact ⟨es, clock, blk_tch ht hb hF, F', hs, hD⟩

theorem IsDisk.tch {F : Nat → Prop} {w w' : World} {db mb room : Nat} {L : List FL} (h : IsDisk w db mb room L) (ht : Tch F w w') (hF : ∀ k, DiskF db mb L k → ¬ F k) : IsDisk w' db mb room L := by
  obtain ⟨nn, D, hm, hM⟩ := h.map
  exact ⟨blk_tch ht h.disk (hF db (.inl rfl)), ⟨nn, D, own_map_tch hm ht (hF mb (.inr (.inl rfl))), hM⟩,
    fun x hx => blk_tch ht (h.ent x hx) (hF x.eb (.inr (.inr ⟨x, hx, .inl rfl⟩))),
    fun x hx => (h.bts x hx).tch ht (fun k hk => hF k (.inr (.inr ⟨x, hx, .inr hk⟩))), h.ebs, h.dne, h.vne, h.le, h.sz⟩
theorem IsDisk.tch0 {w w' : World} {db mb room : Nat} {L : List FL} (h : IsDisk w db mb room L) (ht : Tch No w w') : IsDisk w' db mb room L := h.tch ht (fun _ _ h => h)

theorem DiskF.lt {w : World} {db mb room : Nat} {L : List FL} (h : IsDisk w db mb room L) : ∀ k, DiskF db mb L k → k < w.heap.size := by
  rintro k (rfl | rfl | ⟨x, hx, rfl | hk⟩)
  · exact blk_lt h.disk
  · obtain ⟨nn, D, hm, _⟩ := h.map; exact hm.lt
  · exact blk_lt (h.ent x hx)
  · exact (h.bts x hx).blt k hk

/-- Where a name leads. -/
def findL (L : List FL) (n : Key) : Option FL := L.find? (fun x => x.f.name == n)
theorem findL_some {L : List FL} {n : Key} {x : FL} (h : findL L n = some x) : x ∈ L ∧ x.f.name = n :=
  ⟨List.mem_of_find?_eq_some h, by have := List.find?_some h; simpa using this⟩
theorem findL_none {L : List FL} {n : Key} (h : findL L n = none) : n ∉ L.map (·.f.name) := by
  intro hn
  obtain ⟨x, hx, rfl⟩ := List.mem_map.1 hn
  have := List.find?_eq_none.1 h x hx
  simp at this
theorem mGet_findL (L : List FL) (n : Key) : mGet (L.map (·.f)) n = (findL L n).map (·.f) := by
  unfold mGet findL
  rw [List.find?_map]; rfl

theorem zeroE (w : World) : (zeroValue 77).run Try.prog w = .ok (.pointer none) w := by kernel_rfl
theorem lawS : Keyed Try.prog 9 := string_keyed Try.underlying9

/-- 'd.files[name]': the run. -/
theorem IsDisk.look {w : World} {db mb room : Nat} {L : List FL} (h : IsDisk w db mb room L) (s : ByteArray) (hs : s.size ≤ maxLen) :
    (Instr.lookup 68 (.map (some mb)) (.string s) false).run Try.prog w = .ok (.pointer ((findL L s.data.toList).map fun x => ⟨x.eb, 0, none⟩)) w := by
  obtain ⟨nn, D, hm, hM⟩ := h.map
  obtain ⟨v, ps, hrun, hv⟩ := hm.lookup lawS Try.underlying68 (zeroE w) ptrR_none (Go.WideMaps.keyOf_string_mk Try.underlying9 hs)
  rw [hrun]
  cases hf : findL L s.data.toList with
  | none =>
    have hh : Maps.has D (.string s.data.toList) = false := by
      cases hh : Maps.has D (.string s.data.toList)
      · rfl
      · exact absurd ((hM.has _).1 hh) (findL_none hf)
    rw [atKey_of_not_has hh] at hv
    rw [ptrR_nil hv]; rfl
  | some x =>
    obtain ⟨hx, hn⟩ := findL_some hf
    rw [← hn, hM.at' x hx] at hv
    rw [ptrR_lit hv]; rfl
end Go.Proofs.Ytcjlgdldhcbcjaa
