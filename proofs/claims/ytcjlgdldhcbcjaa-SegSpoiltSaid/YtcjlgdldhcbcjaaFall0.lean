import Derived.Test.YtcjlgdldhcbcjaaFile4
namespace Go.Proofs.Ytcjlgdldhcbcjaa
open Go.RowKit Go.Maps
set_option linter.unusedVariables false
set_option linter.unusedSimpArgs false

theorem cat_fresh {w w1 : World} {bs : List UInt8} {v' : Value} {o : Obj} (hA : AppPost 5 (w.alloc o) (.slice (some ⟨w.heap.size, 0, none⟩) 0 0) bs v' w1) (hb : bs.length ≤ lim) :
    SlB w1 v' bs ∧ (∀ k, v'.ownBlock = some k → w.heap.size ≤ k) ∧ Tch No w w1 := by
  refine ⟨SlB.ofRow hA.own hb, fun k hk => ?_, (Tch.alloc w _).fresh (Tch.grown hA.grow (F := fun k => w.heap.size = k) (fun k hk _ => by simpa [Value.ownBlock] using hk)) (fun i hi => by omega)⟩
  rcases hA.loc with e | e
  · rw [e] at hk; simp [Value.ownBlock] at hk; omega
  · rw [e] at hk; simp at hk; omega

set_option maxRecDepth 100000 in
set_option maxHeartbeats 1000000 in
theorem clone_any (a : Option Addr) (m cap : Nat) (bs : List UInt8) (w : World) (h : SlB w (.slice a m cap) bs) :
    Calls Try.prog 46 #[.slice a m cap] w (CatPost w bs) := by
  obtain ⟨i0, hi0, hz0, hz1, hz2⟩ := info_parts infoB
  have hb := h.1
  cases a with
  | none =>
    have hbs : bs = [] := by
      rcases h.2 with ⟨_, h⟩ | ⟨b, o, cap', hx, _⟩
      · exact h
      · injection hx with hx; cases hx
    subst hbs
    have heq := fun (w : World) (a : Option Addr) (n c : Nat) => Lib.run_eql_slice_nil (P := Try.prog) w 22 5 a n c 0 0 Try.underlying22
    clear h hb
    go_enter Try.func46, Try.ntmps46
    go_wp2
    go_ret
    exact ⟨_, rfl, SlB.nil _, fun k hk => by simp [Value.ownBlock] at hk, Tch.refl _ _⟩
  | some ad =>
    have H := Lib.hid (h.tch0 (Tch.alloc w (.cells #[] 5)))
    have heq := fun (w : World) (a : Option Addr) (n c : Nat) => Lib.run_eql_slice_nil (P := Try.prog) w 22 5 a n c 0 0 Try.underlying22
    clear h
    go_enter Try.func46, Try.ntmps46
    go_wp2_with (at_builtin; go_must (refine wpList_app _ rfl _ _ 22 rfl 5 i0 Try.underlying22 hi0 hz0 hz1 hz2 (.slice (some ⟨w.heap.size, 0, none⟩) 0 0) [] rfl (own_empty _ _) _ bs rfl H.out (by simpa using hb) bs (by simp [Hid]) ?_); intro a1 n1 cap1 w1 hA hn1)
    go_ret
    exact ⟨_, rfl, cat_fresh hA hb⟩

/-- What New gives. -/
def NewPost (room : Nat) (w : World) (e : Ending) (w' : World) : Prop :=
  ∃ db mb, e = .returned (.pointer (some ⟨db, 0, none⟩)) ∧ IsDisk w' db mb room [] ∧ w.heap.size ≤ db ∧ w.heap.size ≤ mb ∧ Tch No w w'

def roomOf (n : Int) : Nat := (min (max n 0) 1048576).toNat

set_option maxRecDepth 100000 in
set_option maxHeartbeats 1000000 in
theorem new_any (n : Int) (w : World) : Calls Try.prog 23 #[.int .i64 n] w (NewPost (roomOf n) w) := by
  have hmm := @run_makeMap Try.prog
  have hfin : Hid (∀ r : Nat, r ≤ 1048576 → NewPost r w (.returned (.pointer (some ⟨w.heap.size + 1, 0, none⟩))) ((w.alloc (.map #[] 0)).alloc (.cells #[.int .i64 r, .map (some w.heap.size)] 70))) := by
    intro r hr
    have hT : Tch No w ((w.alloc (.map #[] 0)).alloc (.cells #[.int .i64 r, .map (some w.heap.size)] 70)) := (Tch.alloc _ _).trans0 (Tch.alloc _ _)
    refine ⟨_, w.heap.size, rfl, ⟨?_, ⟨0, .map [], ?_, ?_⟩, ?_, ?_, ?_, ?_, ?_, ?_, ?_⟩, by omega, by omega, hT⟩
    · have := blk_new (w.alloc (.map #[] 0)) (.cells #[.int .i64 r, .map (some w.heap.size)] 70)
      simpa using this
    · exact (World.ownsMap_made _ _ _ _).alloc _
    · exact ⟨fun k => by simp [Maps.has], fun x hx => by simp at hx, by simp⟩
    · intro x hx; simp at hx
    · intro x hx; simp at hx
    · simp
    · exact ⟨by omega, fun x hx => by simp at hx⟩
    · intro x hx; simp at hx
    · intro x hx; simp at hx
    · exact ⟨by simp [mUsed], hr⟩
  have hr : Hid (min (max n 0) 1048576 = ((roomOf n : Nat) : Int)) := by rw [Hid, roomOf]; omega
  have hle : roomOf n ≤ 1048576 := by unfold roomOf; omega
  go_enter Try.func23, Try.ntmps23
  go_wp2
  rw [hr.out]
  go_ret
  exact hfin.out _ hle

theorem IsDisk.perm {w : World} {db mb room : Nat} {L L' : List FL} (h : IsDisk w db mb room L) (hp : L.Perm L') : IsDisk w db mb room L' := by
  obtain ⟨nn, D, hm, hM⟩ := h.map
  have hmem : ∀ x, x ∈ L' → x ∈ L := fun x hx => hp.mem_iff.2 hx
  exact ⟨h.disk, ⟨nn, D, hm, hM.perm hp⟩, fun x hx => h.ent x (hmem x hx), fun x hx => h.bts x (hmem x hx), (hp.map _).nodup_iff.1 h.ebs, ⟨h.dne.1, fun x hx => h.dne.2 x (hmem x hx)⟩,
    fun x hx => ⟨(h.vne x (hmem x hx)).1, fun y hy => (h.vne x (hmem x hx)).2 y (hmem y hy)⟩, fun x hx => h.le x (hmem x hx),
    by
      have : mUsed (L.map (·.f)) = mUsed (L'.map (·.f)) := by
        unfold mUsed; exact ((hp.map _).map _).sum_nat
      rw [← this]; exact h.sz⟩
theorem permF {db mb : Nat} {L L' : List FL} (hp : L.Perm L') : ∀ k, DiskF db mb L' k → DiskF db mb L k := by
  rintro k (rfl | rfl | ⟨x, hx, hk⟩)
  · exact .inl rfl
  · exact .inr (.inl rfl)
  · exact .inr (.inr ⟨x, hp.mem_iff.2 hx, hk⟩)

/-- How much of a file a fall leaves; the file then. -/
def stays (n : Int) (f : FE) : Nat := f.sure + (n % ((f.b.length : Int) - f.sure + 1)).toNat * (if 0 < n then 1 else 0)
def fallE (n : Int) (f : FE) : Option FE := if 0 < stays n f ∨ f.named = true then some ⟨f.name, f.b.take (stays n f), stays n f, true⟩ else none
def mFall (n : Int) (M : List FE) : List FE := M.filterMap (fallE n)

theorem stays_le {n : Int} {f : FE} (h : f.sure ≤ f.b.length) : stays n f ≤ f.b.length := by
  unfold stays
  split
  · have h1 : 0 ≤ n % ((f.b.length : Int) - f.sure + 1) := Int.emod_nonneg _ (by omega)
    have h2 : n % ((f.b.length : Int) - f.sure + 1) < (f.b.length : Int) - f.sure + 1 := Int.emod_lt_of_pos _ (by omega)
    omega
  · omega
end Go.Proofs.Ytcjlgdldhcbcjaa
