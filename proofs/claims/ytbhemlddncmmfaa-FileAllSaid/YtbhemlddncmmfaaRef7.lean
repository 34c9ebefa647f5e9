/- The reference's disk: Fall. No condition. -/
import Derived.Test.YtbhemlddncmmfaaRef6
import Derived.Test.YtbhemlddncmmfaaFall1
import Derived.Test.YtbhemlddncmmfaaReg
namespace Go.Proofs.Ytbhemlddncmmfaa
open Go.RowKit Go.Maps
set_option linter.unusedVariables false
set_option linter.unusedSimpArgs false

/-- A new entry stands behind the others, whatever it holds. -/
theorem add_closeG {w wA w1 : World} {rb room : Nat} {v : Value} {L : List RE} (h : IsRef w rb room v L) (x' : RE) (hn : x'.f.name ∉ L.map (·.f.name)) (hnl : x'.f.name.length ≤ lim) (hle : x'.f.sure ≤ x'.f.b.length) (hus : mUsed (L.map (·.f)) + x'.f.b.length ≤ 1048576)
    (tA : Tch No w wA) (hx : SlB wA x'.v x'.f.b) (hxf : ∀ k, x'.v.ownBlock = some k → w.heap.size ≤ k) {a : Option Addr} {n' cap : Nat} (hA : AppF wA v (L.length + 1) (rcells L ++ rcs x') (.slice a n' cap) w1) :
    IsRef (w1.setCell ⟨rb, 1, none⟩ (.slice a n' cap)) rb room (.slice a n' cap) (L ++ [x']) ∧ Tch (RefF rb v L) w (w1.setCell ⟨rb, 1, none⟩ (.slice a n' cap)) ∧ (∀ k, RefF rb (.slice a n' cap) (L ++ [x']) k → RefF rb v L k ∨ w.heap.size ≤ k) := by
  have hrb : rb < w.heap.size := blk_lt h.disk
  have t1 : Tch (fun k => v.ownBlock = some k) wA w1 := Tch.grown hA.grow (fun k hk _ => hk)
  have t0 : Tch (fun k => v.ownBlock = some k) w w1 := (tA.no (F := fun k => v.ownBlock = some k)).trans t1 (fun _ _ h => h)
  have t4 : Tch (fun j => j = rb) w1 (w1.setCell ⟨rb, 1, none⟩ (.slice a n' cap)) := Tch.setCell _ _ _ (fun _ => rfl)
  have hszA := tA.size
  have hloc : ∀ k, (Value.slice a n' cap).ownBlock = some k → v.ownBlock = some k ∨ k = wA.heap.size := by
    intro k hk
    rcases hA.loc with e | e
    · exact .inl (by rw [← e]; exact hk)
    · rw [e] at hk; simp at hk; exact .inr hk.symm
  have hE : rcells L ++ rcs x' = rcells (L ++ [x']) := by rw [rcells_append]; simp [rcells]
  have hrv : (Value.slice a n' cap).ownBlock ≠ some rb := fun e => by
    rcases hloc rb e with q | q
    · exact h.vne q
    · omega
  have hmem : ∀ x, x ∈ L ++ [x'] → x ∈ L ∨ x = x' := fun x hx => by simpa using hx
  refine ⟨⟨?_, ?_, fun x hxm => ?_, hrv, fun x hxm => ?_, fun x hxm => ?_, ⟨?_, h.sz.2⟩, ?_, fun x hxm => ?_⟩, ?_, ?_⟩
  · have hd := blk_tch t0 h.disk h.vne
    simpa using blk_set hd 1 (.slice a n' cap)
  · rw [List.length_append, ← hE]
    exact own_tch hA.own t4 (fun j hj e => hrv (by rw [← show j = rb from e]; exact hj))
  · rcases hmem x hxm with hxm | rfl
    · exact ((h.bts x hxm).tch t0 (fun k hk e => (h.bne x hxm).2 k hk e)).tch t4 (fun k hk e => (h.bne x hxm).1 (by rw [hk, e]))
    · exact (hx.tch t1 (fun k hk e => by have := hxf k hk; have := (h.row.lt k e).2; omega)).tch t4 (fun k hk e => by have := hxf k hk; have e' : k = rb := e; omega)
  · rcases hmem x hxm with hxm | rfl
    · refine ⟨(h.bne x hxm).1, fun k hk e => ?_⟩
      rcases hloc k e with q | q
      · exact (h.bne x hxm).2 k hk q
      · have := (h.bts x hxm).blt k hk; omega
    · refine ⟨fun e => by have := hxf _ e; omega, fun k hk e => ?_⟩
      have h1 := hxf k hk
      have h2 := hx.blt k hk
      rcases hloc k e with q | q
      · have := (h.row.lt k q).2; omega
      · omega
  · rcases hmem x hxm with hxm | rfl
    · exact h.le x hxm
    · exact hle
  · rw [List.map_append, mUsed_append]; simp only [mUsed, List.map_cons, List.map_nil, List.sum_cons, List.sum_nil] at hus ⊢; omega
  · rw [List.map_append, List.nodup_append]
    exact ⟨h.nodup, by simp, fun a ha b hb => by simp at hb; subst hb; exact fun e => hn (e ▸ ha)⟩
  · rcases hmem x hxm with hxm | rfl
    · exact h.nlen x hxm
    · exact hnl
  · exact (t0.mono (fun k _ e => .inr (.inl e))).trans t4 (fun j _ e => .inl e)
  · rintro k (rfl | hk | ⟨x, hxm, hk⟩)
    · exact .inl (.inl rfl)
    · rcases hloc k hk with q | q
      · exact .inl (.inr (.inl q))
      · exact .inr (by omega)
    · rcases hmem x hxm with hxm | rfl
      · exact .inl (.inr (.inr ⟨x, hxm, hk⟩))
      · exact .inr (hxf k hk)

/-- What holds behind k rounds. -/
structure RFall (w : World) (n : Int) (room : Nat) (M : List FE) (ob k : Nat) (vo : Value) (Lo : List RE) (wr : World) : Prop where
  ref : IsRef wr ob room vo Lo
  is : Lo.map (·.f) = mFall n (M.take k)
  fresh : ∀ j, RefF ob vo Lo j → w.heap.size ≤ j
  tch : Tch No w wr
theorem mFall_succ (n : Int) (M : List FE) (k : Nat) (hk : k < M.length) : mFall n (M.take (k + 1)) = mFall n (M.take k) ++ (match fallE n M[k] with | some y => [y] | none => []) := by
  unfold mFall
  rw [List.take_succ_eq_append_getElem hk, List.filterMap_append]
  congr 1
  rw [List.filterMap_cons]
  cases fallE n M[k] <;> simp
theorem fallE_nm {n : Int} {x y : FE} (h : fallE n x = some y) : y.name = x.name := by
  unfold fallE at h
  split at h
  · injection h with h; rw [← h]
  · cases h
theorem nodup_take {M : List FE} (h : (names M).Nodup) {k : Nat} (hk : k < M.length) : M[k].name ∉ names (M.take k) := by
  intro q
  unfold names at q h
  rw [List.map_take] at q
  obtain ⟨i, hi, e⟩ := List.getElem_of_mem q
  have hi' : i < k := by simp at hi; omega
  rw [List.getElem_take] at e
  have h1 := (List.pairwise_iff_getElem.1 h) i k (by simp; omega) (by simpa using hk) hi'
  exact h1 (by rw [e]; simp)

theorem rfall_skip {w : World} {n : Int} {room : Nat} {M : List FE} {ob k : Nat} {vo : Value} {Lo : List RE} {wr : World} (h : RFall w n room M ob k vo Lo wr) (hk : k < M.length) (he : fallE n M[k] = none) {w' : World} (t : Tch No wr w') : RFall w n room M ob (k + 1) vo Lo w' :=
  ⟨h.ref.tch0 t, by rw [mFall_succ n M k hk, he, h.is]; simp, h.fresh, h.tch.trans0 t⟩
theorem rfall_keep {w : World} {n : Int} {room : Nat} {M : List FE} {ob k : Nat} {vo : Value} {Lo : List RE} {wr : World} (h : RFall w n room M ob k vo Lo wr) (hk : k < M.length) (hnd : (names M).Nodup) (hsure : ∀ f ∈ M, f.sure ≤ f.b.length) (hus : mUsed M ≤ 1048576) (hnl : M[k].name.length ≤ lim)
    {y : FE} (he : fallE n M[k] = some y) (hy : y.sure ≤ y.b.length) {wA w1 : World} (tA : Tch No wr wA) {nv : Value} (hx : SlB wA nv y.b) (hxf : ∀ j, nv.ownBlock = some j → wr.heap.size ≤ j)
    {a : Option Addr} {n' cap : Nat} (hA : AppF wA vo (Lo.length + 1) (rcells Lo ++ rcs ⟨y, nv⟩) (.slice a n' cap) w1) :
    RFall w n room M ob (k + 1) (.slice a n' cap) (Lo ++ [⟨y, nv⟩]) (w1.setCell ⟨ob, 1, none⟩ (.slice a n' cap)) := by
  have hM : (Lo ++ [(⟨y, nv⟩ : RE)]).map (·.f) = mFall n (M.take (k + 1)) := by rw [mFall_succ n M k hk, he, List.map_append, h.is]; rfl
  have hu : mUsed (mFall n (M.take (k + 1))) ≤ 1048576 := by
    have h1 := used_fall (n := n) (M := M.take (k + 1)) (fun f hf => hsure f (List.mem_of_mem_take hf))
    have h2 := mUsed_take_le M (k + 1)
    unfold mFall
    omega
  have hc := add_closeG h.ref ⟨y, nv⟩ (fun q => by
      have q1 : y.name ∈ names (mFall n (M.take k)) := by
        rw [← h.is]; unfold names; rw [List.map_map]; exact q
      have q2 : y.name ∈ names (M.take k) := by
        unfold names mFall at q1
        obtain ⟨z, hz, e⟩ := List.mem_map.1 q1
        obtain ⟨x, hx, hxe⟩ := List.mem_filterMap.1 hz
        rw [← e, fallE_nm hxe]
        exact List.mem_map_of_mem (f := fun x : FE => x.name) hx
      rw [fallE_nm he] at q2
      exact nodup_take hnd hk q2) (by rw [fallE_nm he]; exact hnl) hy (by
      rw [← hM, List.map_append, mUsed_append] at hu
      simp only [mUsed, List.map_cons, List.map_nil, List.sum_cons, List.sum_nil] at hu ⊢; omega) tA hx hxf hA
  have hs := h.tch.size
  exact ⟨hc.1, hM, fun j hj => by
    rcases hc.2.2 j hj with q | q
    · exact h.fresh j q
    · omega, h.tch.fresh hc.2.1 h.fresh⟩

theorem src_one (w : World) (s : ByteArray) (nv : Value) (st : Nat) (b : Bool) (x : RE) (hx : rcs x = [.string s, nv, .int .i64 (st : Int), .bool b]) (hnv : nv.oneCell' = true) : SrcF (w.alloc (.cells #[.string s, nv, .int .i64 (st : Int), .bool b] 63)) (.slice (some ⟨w.heap.size, 0, none⟩) 1 1) 1 (rcs x) := by
  rw [hx]
  refine ⟨rfl, fun x hx => ?_, .inr ⟨_, _, rfl, fun j x hx => ?_⟩⟩
  · simp only [List.mem_cons, List.mem_nil_iff, or_false] at hx
    rcases hx with rfl | rfl | rfl | rfl
    · rfl
    · exact hnv
    · rfl
    · rfl
  · rw [addr_add, Nat.zero_add, World.cell?_alloc_mark, ← hx]; simp
/-- What a round's region reads. -/
def FS (ob fb : Nat) (vo : Value) (nm : ByteArray) (vb : Value) (s0 : Nat) (W : World) : Prop :=
  W.cell? ⟨ob, 1, none⟩ = some vo ∧ W.cell? ⟨fb, 0, none⟩ = some (.string nm) ∧ W.cell? ⟨fb, 1, none⟩ = some vb ∧ W.cell? ⟨fb, 2, none⟩ = some (.int .i64 (s0 : Int))
theorem FS.tch {ob fb : Nat} {vo : Value} {nm : ByteArray} {vb : Value} {s0 : Nat} {W W' : World} (h : FS ob fb vo nm vb s0 W) (t : Tch No W W') : FS ob fb vo nm vb s0 W' :=
  ⟨t.cell h.1 (fun h => h), t.cell h.2.1 (fun h => h), t.cell h.2.2.1 (fun h => h), t.cell h.2.2.2 (fun h => h)⟩
theorem FS.grown {ob fb : Nat} {vo : Value} {nm : ByteArray} {vb : Value} {s0 : Nat} {W W' : World} {row : Option Nat} (h : FS ob fb vo nm vb s0 W) (g : W.grownBy W' row) (h1 : some ob ≠ row) (h2 : some fb ≠ row) : FS ob fb vo nm vb s0 W' :=
  ⟨g.cell h.1 h1, g.cell h.2.1 h2, g.cell h.2.2.1 h2, g.cell h.2.2.2 h2⟩
theorem FS.mk0 {ob : Nat} {vo : Value} {nm : ByteArray} {vb : Value} {s0 : Nat} {w : World} (h : w.cell? ⟨ob, 1, none⟩ = some vo) (bn : Bool) : FS ob w.heap.size vo nm vb s0 (w.alloc (.cells #[.string nm, vb, .int .i64 (s0 : Int), .bool bn] 63)).drew :=
  ⟨((Tch.alloc w _).trans0 (Tch.drew _)).cell h (fun h => h), by simp, by simp, by simp⟩
/-- What a reference's Fall gives. -/
def RFallPost (room : Nat) (M : List FE) (w : World) (e : Ending) (w' : World) : Prop :=
  ∃ ob vo Lo, e = .returned (.pointer (some ⟨ob, 0, none⟩)) ∧ Lo.map (·.f) = M ∧ IsRef w' ob room vo Lo ∧ (∀ k, RefF ob vo Lo k → w.heap.size ≤ k) ∧ Tch No w w'

set_option maxRecDepth 100000 in
set_option maxHeartbeats 4000000 in
theorem rfall_any (rb room : Nat) (v : Value) (L : List RE) (n : Int) (w : World) (h : IsRef w rb room v L) (hcnt : L.length ≤ 999999) (hn1 : -9223372036854775808 ≤ n) (hn2 : n ≤ 9223372036854775807) :
    Calls Try.prog 20 #[.pointer (some ⟨rb, 0, none⟩), .int .i64 n] w (RFallPost room (mFall n (L.map (·.f))) w) := by
  obtain ⟨i0, hi0, hz0, hz1, hz2⟩ := info_parts infoB
  have c0 := h.cell0
  have H := Lib.hid h
  have hND := Lib.hid (nd_map h.nodup)
  have hSU : Hid (∀ f ∈ L.map (·.f), f.sure ≤ f.b.length) := fun f hf => by obtain ⟨x, hx, rfl⟩ := List.mem_map.1 hf; exact h.le x hx
  have hUS := Lib.hid h.sz.1
  obtain ⟨a, m, cap, hv, hm⟩ := h.shape
  subst hv
  have hml : m ≤ 999999 := by rw [hm.out]; exact hcnt
  have R0 : Hid (RFall w n room (L.map (·.f)) w.heap.size 0 (.slice none 0 0) [] (w.alloc (.cells #[.int .i64 room, .slice none 0 0] 61))) := by
    refine ⟨⟨blk_new w _, World.ownsRow_nil _ _ _ _, ?_, ?_, ?_, ?_, ⟨?_, h.sz.2⟩, ?_, ?_⟩, by simp [mFall], ?_, Tch.alloc _ _⟩
    · intro x hx; simp at hx
    · simp [Value.ownBlock]
    · intro x hx; simp at hx
    · intro x hx; simp at hx
    · simp [mUsed]
    · simp
    · intro x hx; simp at hx
    · rintro k (rfl | hk | ⟨x, hx, _⟩)
      · exact Nat.le_refl _
      · simp [Value.ownBlock] at hk
      · simp at hx
  obtain ⟨ob, hob⟩ : ∃ ob, w.heap.size = ob := ⟨_, rfl⟩
  clear h hcnt
  go_enter Try.func20, Try.ntmps20
  go_wp2_with fail
  clear c0
  rw [hob] at R0
  go_loopw [6] (fun i wr => ∃ (k : Nat) (vo : Value) (Lo : List RE), k ≤ m ∧ i = .int .i64 k ∧ Hid (RFall w n room (L.map (·.f)) ob k vo Lo wr)) (fun i _ => m - (intOf i).toNat)
  case atStart => exact ⟨0, _, _, by omega, rfl, R0⟩
  case round =>
    clear R0
    obtain ⟨k, vo, Lo, hk, rfl, hR⟩ := hrel
    have c1 := (H.out.tch0 hR.out.tch).cell1
    by_cases hlt : k < m
    · have hkL : k < L.length := by rw [← hm.out]; exact hlt
      obtain ⟨g, cap', hsl, k0, k1, k2, k3⟩ := (H.out.tch0 hR.out.tch).at_ hkL
      simp only [Value.slice.injEq] at hsl
      obtain ⟨rfl, hq, rfl⟩ := hsl
      clear hq
      obtain ⟨f, hf⟩ : ∃ f, L[k].f = f := ⟨L[k].f, rfl⟩
      have hB := (H.out.tch0 hR.out.tch).bts _ (List.getElem_mem hkL)
      have hle := H.out.le _ (List.getElem_mem hkL)
      have hnl := H.out.nlen _ (List.getElem_mem hkL)
      have hbu := used_at (L.map (·.f)) k (by simpa using hkL)
      simp only [List.getElem_map] at hbu
      rw [hf] at k0 k2 k3 hB hle hnl hbu
      obtain ⟨a0, m0, cap0, hv0, hm0⟩ := hB.shape'
      rw [hv0] at k1 hB
      have hmb : m0 ≤ 1048576 := by have := hUS.out; rw [hm0.out]; omega
      obtain ⟨s0, hs0⟩ : ∃ s0, f.sure = s0 := ⟨f.sure, rfl⟩
      have hsm : s0 ≤ m0 := by rw [← hs0, hm0.out]; exact hle
      have hmc : m0 ≤ cap0 := by
        obtain ⟨a', c', e, h1, h2⟩ := hB.shape
        injection e with e1 e2 e3; subst e3; rw [e2]; exact h1
      obtain ⟨nm, hnm⟩ : ∃ nm : ByteArray, (⟨f.name.toArray⟩ : ByteArray) = nm := ⟨_, rfl⟩
      obtain ⟨bn, hbn⟩ : ∃ bn, f.named = bn := ⟨f.named, rfl⟩
      rw [hs0] at k2
      rw [hnm] at k0
      rw [hbn] at k3
      have HF : Hid ((L.map (·.f))[k]'(by simpa using hkL) = f) := by rw [Hid, List.getElem_map, hf]
      have HS0 := Lib.hid hs0
      have HNM := Lib.hid hnm
      have HBN := Lib.hid hbn
      have HB := Lib.hid hB
      have HNL := Lib.hid hnl
      have HkM : Hid (k < (L.map (·.f)).length) := by simpa [Hid] using hkL
      have p1 : (k : Int) < (m : Int) := by omega
      have p2 : (0 : Int) ≤ (k : Int) := by omega
      have ho1 := hR.out.ref.cell1
      have fo1 := blk_free hR.out.ref.disk 1
      have hob1 : ob < wr.heap.size := RefF.lt hR.out.ref ob (.inl rfl)
      have OL := Lib.hid (own_shape' hR.out.ref.row)
      obtain ⟨aO, mO, cO, hvo, hmO⟩ := OL.out
      subst hvo
      clear OL
      have hlo : Lo.length ≤ 999999 := by
        have h1 := congrArg List.length hR.out.is
        rw [List.length_map] at h1
        have h2 : (mFall n ((L.map (·.f)).take k)).length ≤ ((L.map (·.f)).take k).length := List.length_filterMap_le _ _
        simp at h2
        omega
      have E1 : IntKind.i64.wrap ((m0 : Int) - (s0 : Int)) = (m0 : Int) - (s0 : Int) := IntWalk.i64_in _ ⟨by omega, by omega⟩
      have E2 : IntKind.i64.wrap ((m0 : Int) - (s0 : Int) + 1) = (m0 : Int) - (s0 : Int) + 1 := IntWalk.i64_in _ ⟨by omega, by omega⟩
      have hobne : ob ≠ wr.heap.size := by omega
      clear hB hle hnl hbu hv0 hs0 hnm hbn hf
      by_cases hn0 : 0 ≤ n
      · obtain ⟨kk, hk1, hk2⟩ : ∃ kk : Nat, n % ((m0 : Int) - (s0 : Int) + 1) = (kk : Int) ∧ s0 + kk ≤ m0 := by
          have h1 : 0 ≤ n % ((m0 : Int) - (s0 : Int) + 1) := Int.emod_nonneg _ (by omega)
          have h2 : n % ((m0 : Int) - (s0 : Int) + 1) < (m0 : Int) - (s0 : Int) + 1 := Int.emod_lt_of_pos _ (by omega)
          exact ⟨(n % ((m0 : Int) - (s0 : Int) + 1)).toNat, by omega, by omega⟩
        have hk3 : n.tmod ((m0 : Int) - (s0 : Int) + 1) = (kk : Int) := by rw [Int.tmod_eq_emod_of_nonneg hn0]; exact hk1
        have HST : Hid (stays n f = s0 + kk) := by
          have := HS0.out
          unfold stays
          rw [Hid, this, ← hm0.out, hk1]
          by_cases h0 : 0 < n
          · rw [if_pos h0]; simp
          · have : n = 0 := by omega
            subst this
            rw [if_neg h0]
            simp at hk1 ⊢; omega
        obtain ⟨st, hst⟩ : ∃ st, s0 + kk = st := ⟨_, rfl⟩
        rw [hst] at HST
        have E3 : IntKind.i64.wrap ((s0 : Int) + (kk : Int)) = (st : Int) := by rw [← hst]; rw [IntWalk.i64_in _ ⟨by omega, by omega⟩]; omega
        have E4 : (s0 : Int) + (kk : Int) = (st : Int) := by omega
        have E5 : IntKind.i64.wrap (st : Int) = (st : Int) := by rw [← E4]; exact E3.trans E4.symm
        have q1 : (0 : Int) ≤ (st : Int) := by omega
        have q2 : (st : Int) ≤ (cap0 : Int) := by omega
        have q3 : st ≤ m0 := by omega
        clear hst
        have HBT : Hid (∀ W, Tch No wr W → SlS W (.slice a0 st cap0) (f.b.take st)) := fun W hW => ((HB.out.tch0 hW).take st (by rw [← hm0.out]; exact q3)).toS
        have hbl : Hid ((f.b.take st).length = st) := by rw [Hid, List.length_take, ← hm0.out]; omega
        by_cases hz : st = 0
        · have hz' : (st : Int) = 0 := by omega
          cases bn with
          | false =>
            have HE : Hid (fallE n ((L.map (·.f))[k]'HkM.out) = none) := by
              rw [Hid, HF.out, fallE, HST.out, HBN.out, if_neg (by simp; omega)]
            go_wp2_with fail
            exact ⟨⟨k + 1, _, Lo, by omega, by go_num, rfall_skip hR.out HkM.out HE.out (Tch.alloc _ _)⟩, by simp [intOf]; omega⟩
          | true =>
            have HE : Hid (fallE n ((L.map (·.f))[k]'HkM.out) = some ⟨f.name, f.b.take st, st, true⟩) := by
              rw [Hid, HF.out, fallE, HST.out, HBN.out, if_pos (by simp)]
            clear hz
            go_wp2_with fail
            refine wp_region_ZT 25 #[false, false, false, false, false, false, false, false, false, false, false, false, false, false, false, false, false, false, false, false, false, false, false, false, false] (z := 24) (S := FS ob wr.heap.size (.slice aO mO cO) nm (.slice a0 m0 cap0) s0) rfl (by kernel_rfl) (by kernel_rfl) ?_
            have hH : FS ob wr.heap.size (.slice aO mO cO) nm (.slice a0 m0 cap0) s0 (wr.alloc (.cells #[.string nm, .slice a0 m0 cap0, .int .i64 (s0 : Int), .bool true] 63)).drew := FS.mk0 ho1 true
            clear hz'
            refine wpAnyZ_takeT 52 #[true, false, false, false, false, false, false, false, false, false, false, false, false, false, false, false, false, false, false, false, false, false, false, false, false] (z := 24) (i := 0) (v := ?_) (oi := ⟨some 52, _, _, _, _, none⟩) (by kernel_rfl) rfl rfl rfl (by kernel_rfl) (by kernel_rfl) (by kernel_rfl) (by kernel_rfl) (by kernel_rfl) (fun _ _ _ h => h) (Or.inl ⟨by rfl, fun W hSW => ?_⟩) hH ?_
            rotate_left
            · (obtain ⟨y1, y2, y3, y4⟩ := hSW; go_simp; first | done | with_reducible rfl)
            try simp only [Act.put, List.setIfInBounds_toArray, List.set_cons_zero, List.set_cons_succ]
            refine wpAnyZ_takeT 53 #[true, true, false, false, false, false, false, false, false, false, false, false, false, false, false, false, false, false, false, false, false, false, false, false, false] (z := 24) (i := 1) (v := ?_) (oi := ⟨some 53, _, _, _, _, none⟩) (by kernel_rfl) rfl rfl rfl (by kernel_rfl) (by kernel_rfl) (by kernel_rfl) (by kernel_rfl) (by kernel_rfl) (fun _ _ _ h => h) (Or.inl ⟨by rfl, fun W hSW => ?_⟩) hH ?_
            rotate_left
            · (obtain ⟨y1, y2, y3, y4⟩ := hSW; go_simp; first | done | with_reducible rfl)
            try simp only [Act.put, List.setIfInBounds_toArray, List.set_cons_zero, List.set_cons_succ]
            refine wpAnyZ_takeT 54 #[true, true, true, false, false, false, false, false, false, false, false, false, false, false, false, false, false, false, false, false, false, false, false, false, false] (z := 24) (i := 2) (v := ?_) (oi := ⟨some 54, _, _, _, _, none⟩) (by kernel_rfl) rfl rfl rfl (by kernel_rfl) (by kernel_rfl) (by kernel_rfl) (by kernel_rfl) (by kernel_rfl) (fun _ _ _ h => h) (Or.inl ⟨by rfl, fun W hSW => ?_⟩) hH ?_
            rotate_left
            · (obtain ⟨y1, y2, y3, y4⟩ := hSW; go_simp; first | done | with_reducible rfl)
            try simp only [Act.put, List.setIfInBounds_toArray, List.set_cons_zero, List.set_cons_succ]
            refine wpAnyZ_takeT 55 #[true, true, true, true, false, false, false, false, false, false, false, false, false, false, false, false, false, false, false, false, false, false, false, false, false] (z := 24) (i := 3) (v := ?_) (oi := ⟨some 55, _, _, _, _, none⟩) (by kernel_rfl) rfl rfl rfl (by kernel_rfl) (by kernel_rfl) (by kernel_rfl) (by kernel_rfl) (by kernel_rfl) (fun _ _ _ h => h) (Or.inl ⟨by rfl, fun W hSW => ?_⟩) hH ?_
            rotate_left
            · (obtain ⟨y1, y2, y3, y4⟩ := hSW; go_simp; first | done | with_reducible rfl)
            try simp only [Act.put, List.setIfInBounds_toArray, List.set_cons_zero, List.set_cons_succ]
            refine wpAnyZ_takeT 56 #[true, true, true, true, true, false, false, false, false, false, false, false, false, false, false, false, false, false, false, false, false, false, false, false, false] (z := 24) (i := 4) (v := ?_) (oi := ⟨some 56, _, _, _, _, none⟩) (by kernel_rfl) rfl rfl rfl (by kernel_rfl) (by kernel_rfl) (by kernel_rfl) (by kernel_rfl) (by kernel_rfl) (fun _ _ _ h => h) (Or.inl ⟨by rfl, fun W hSW => ?_⟩) hH ?_
            rotate_left
            · (obtain ⟨y1, y2, y3, y4⟩ := hSW; go_simp; first | done | with_reducible rfl)
            try simp only [Act.put, List.setIfInBounds_toArray, List.set_cons_zero, List.set_cons_succ]
            refine wpAnyZ_takeT 57 #[true, true, true, true, true, true, false, false, false, false, false, false, false, false, false, false, false, false, false, false, false, false, false, false, false] (z := 24) (i := 5) (v := ?_) (oi := ⟨some 57, _, _, _, _, none⟩) (by kernel_rfl) rfl rfl rfl (by kernel_rfl) (by kernel_rfl) (by kernel_rfl) (by kernel_rfl) (by kernel_rfl) (fun _ _ _ h => h) (Or.inl ⟨by rfl, fun W hSW => ?_⟩) hH ?_
            rotate_left
            · (obtain ⟨y1, y2, y3, y4⟩ := hSW; go_simp; first | done | with_reducible rfl)
            try simp only [Act.put, List.setIfInBounds_toArray, List.set_cons_zero, List.set_cons_succ]
            refine wpAnyZ_takeT 58 #[true, true, true, true, true, true, true, false, false, false, false, false, false, false, false, false, false, false, false, false, false, false, false, false, false] (z := 24) (i := 6) (v := ?_) (oi := ⟨some 58, _, _, _, _, none⟩) (by kernel_rfl) rfl rfl rfl (by kernel_rfl) (by kernel_rfl) (by kernel_rfl) (by kernel_rfl) (by kernel_rfl) (fun _ _ _ h => h) (Or.inl ⟨by rfl, fun W hSW => ?_⟩) hH ?_
            rotate_left
            · (obtain ⟨y1, y2, y3, y4⟩ := hSW; go_simp; first | done | with_reducible rfl)
            try simp only [Act.put, List.setIfInBounds_toArray, List.set_cons_zero, List.set_cons_succ]
            refine wpAnyZ_takeT 59 #[true, true, true, true, true, true, true, true, false, false, false, false, false, false, false, false, false, false, false, false, false, false, false, false, false] (z := 24) (i := 7) (v := ?_) (oi := ⟨some 59, _, _, _, _, none⟩) (by kernel_rfl) rfl rfl rfl (by kernel_rfl) (by kernel_rfl) (by kernel_rfl) (by kernel_rfl) (by kernel_rfl) (fun _ _ _ h => h) (Or.inl ⟨by rfl, fun W hSW => ?_⟩) hH ?_
            rotate_left
            · (obtain ⟨y1, y2, y3, y4⟩ := hSW; go_simp; first | done | with_reducible rfl)
            try simp only [Act.put, List.setIfInBounds_toArray, List.set_cons_zero, List.set_cons_succ]
            refine wpAnyZ_takeT 60 #[true, true, true, true, true, true, true, true, true, false, false, false, false, false, false, false, false, false, false, false, false, false, false, false, false] (z := 24) (i := 8) (v := ?_) (oi := ⟨some 60, _, _, _, _, none⟩) (by kernel_rfl) rfl rfl rfl (by kernel_rfl) (by kernel_rfl) (by kernel_rfl) (by kernel_rfl) (by kernel_rfl) (fun _ _ _ h => h) (Or.inl ⟨by rfl, fun W hSW => ?_⟩) hH ?_
            rotate_left
            · (obtain ⟨y1, y2, y3, y4⟩ := hSW; go_simp; first | done | with_reducible rfl)
            try simp only [Act.put, List.setIfInBounds_toArray, List.set_cons_zero, List.set_cons_succ]
            refine wpAnyZ_takeT 61 #[true, true, true, true, true, true, true, true, true, true, false, false, false, false, false, false, false, false, false, false, false, false, false, false, false] (z := 24) (i := 9) (v := ?_) (oi := ⟨some 61, _, _, _, _, none⟩) (by kernel_rfl) rfl rfl rfl (by kernel_rfl) (by kernel_rfl) (by kernel_rfl) (by kernel_rfl) (by kernel_rfl) (fun _ _ _ h => h) (Or.inl ⟨by rfl, fun W hSW => ?_⟩) hH ?_
            rotate_left
            · (obtain ⟨y1, y2, y3, y4⟩ := hSW; go_simp; first | done | with_reducible rfl)
            try simp only [Act.put, List.setIfInBounds_toArray, List.set_cons_zero, List.set_cons_succ]
            refine wpAnyZ_takeT 62 #[true, true, true, true, true, true, true, true, true, true, true, false, false, false, false, false, false, false, false, false, false, false, false, false, false] (z := 24) (i := 10) (v := ?_) (oi := ⟨some 62, _, _, _, _, none⟩) (by kernel_rfl) rfl rfl rfl (by kernel_rfl) (by kernel_rfl) (by kernel_rfl) (by kernel_rfl) (by kernel_rfl) (fun _ _ _ h => h) (Or.inl ⟨by rfl, fun W hSW => ?_⟩) hH ?_
            rotate_left
            · (obtain ⟨y1, y2, y3, y4⟩ := hSW; go_simp; first | done | with_reducible rfl)
            try simp only [Act.put, List.setIfInBounds_toArray, List.set_cons_zero, List.set_cons_succ]
            refine wpAnyZ_takeT 63 #[true, true, true, true, true, true, true, true, true, true, true, true, false, false, false, false, false, false, false, false, false, false, false, false, false] (z := 24) (i := 11) (v := ?_) (oi := ⟨some 63, _, _, _, _, none⟩) (by kernel_rfl) rfl rfl rfl (by kernel_rfl) (by kernel_rfl) (by kernel_rfl) (by kernel_rfl) (by kernel_rfl) (fun _ _ _ h => h) (Or.inl ⟨by rfl, fun W hSW => ?_⟩) hH ?_
            rotate_left
            · (obtain ⟨y1, y2, y3, y4⟩ := hSW; go_simp; first | done | with_reducible rfl)
            try simp only [Act.put, List.setIfInBounds_toArray, List.set_cons_zero, List.set_cons_succ]
            refine wpAnyZ_takeT 64 #[true, true, true, true, true, true, true, true, true, true, true, true, true, false, false, false, false, false, false, false, false, false, false, false, false] (z := 24) (i := 12) (v := ?_) (oi := ⟨some 64, _, _, _, _, none⟩) (by kernel_rfl) rfl rfl rfl (by kernel_rfl) (by kernel_rfl) (by kernel_rfl) (by kernel_rfl) (by kernel_rfl) (fun _ _ _ h => h) (Or.inl ⟨by rfl, fun W hSW => ?_⟩) hH ?_
            rotate_left
            · (obtain ⟨y1, y2, y3, y4⟩ := hSW; go_simp; first | done | with_reducible rfl)
            try simp only [Act.put, List.setIfInBounds_toArray, List.set_cons_zero, List.set_cons_succ]
            refine wpAnyZ_takeT 65 #[true, true, true, true, true, true, true, true, true, true, true, true, true, true, false, false, false, false, false, false, false, false, false, false, false] (z := 24) (i := 13) (v := ?_) (oi := ⟨some 65, _, _, _, _, none⟩) (by kernel_rfl) rfl rfl rfl (by kernel_rfl) (by kernel_rfl) (by kernel_rfl) (by kernel_rfl) (by kernel_rfl) (fun _ _ _ h => h) (Or.inl ⟨by rfl, fun W hSW => ?_⟩) hH ?_
            rotate_left
            · (obtain ⟨y1, y2, y3, y4⟩ := hSW; go_simp; first | done | with_reducible rfl)
            try simp only [Act.put, List.setIfInBounds_toArray, List.set_cons_zero, List.set_cons_succ]
            refine wpAnyZ_takeT 67 #[true, true, true, true, true, true, true, true, true, true, true, true, true, true, false, true, false, false, false, false, false, false, false, false, false] (z := 24) (i := 15) (v := ?_) (oi := ⟨some 67, _, _, _, _, none⟩) (by kernel_rfl) rfl rfl rfl (by kernel_rfl) (by kernel_rfl) (by kernel_rfl) (by kernel_rfl) (by kernel_rfl) (fun _ _ _ h => h) (Or.inl ⟨by rfl, fun W hSW => ?_⟩) hH ?_
            rotate_left
            · (obtain ⟨y1, y2, y3, y4⟩ := hSW; go_simp; first | done | with_reducible rfl)
            try simp only [Act.put, List.setIfInBounds_toArray, List.set_cons_zero, List.set_cons_succ]
            refine wpAnyZ_takeT 68 #[true, true, true, true, true, true, true, true, true, true, true, true, true, true, false, true, true, false, false, false, false, false, false, false, false] (z := 24) (i := 16) (v := ?_) (oi := ⟨some 68, _, _, _, _, none⟩) (by kernel_rfl) rfl rfl rfl (by kernel_rfl) (by kernel_rfl) (by kernel_rfl) (by kernel_rfl) (by kernel_rfl) (fun _ _ _ h => h) (Or.inl ⟨by rfl, fun W hSW => ?_⟩) hH ?_
            rotate_left
            · (obtain ⟨y1, y2, y3, y4⟩ := hSW; go_simp; first | done | with_reducible rfl)
            try simp only [Act.put, List.setIfInBounds_toArray, List.set_cons_zero, List.set_cons_succ]
            refine wpAnyZ_takeT 69 #[true, true, true, true, true, true, true, true, true, true, true, true, true, true, false, true, true, true, false, false, false, false, false, false, false] (z := 24) (i := 17) (v := ?_) (oi := ⟨some 69, _, _, _, _, none⟩) (by kernel_rfl) rfl rfl rfl (by kernel_rfl) (by kernel_rfl) (by kernel_rfl) (by kernel_rfl) (by kernel_rfl) (fun _ _ _ h => h) (Or.inl ⟨by rfl, fun W hSW => ?_⟩) hH ?_
            rotate_left
            · (obtain ⟨y1, y2, y3, y4⟩ := hSW; go_simp; first | done | with_reducible rfl)
            try simp only [Act.put, List.setIfInBounds_toArray, List.set_cons_zero, List.set_cons_succ]
            refine wpAnyZ_takeT 70 #[true, true, true, true, true, true, true, true, true, true, true, true, true, true, false, true, true, true, true, false, false, false, false, false, false] (z := 24) (i := 18) (v := ?_) (oi := ⟨some 70, _, _, _, _, none⟩) (by kernel_rfl) rfl rfl rfl (by kernel_rfl) (by kernel_rfl) (by kernel_rfl) (by kernel_rfl) (by kernel_rfl) (fun _ _ _ h => h) (Or.inl ⟨by rfl, fun W hSW => ?_⟩) hH ?_
            rotate_left
            · (obtain ⟨y1, y2, y3, y4⟩ := hSW; go_simp; first | done | with_reducible rfl)
            try simp only [Act.put, List.setIfInBounds_toArray, List.set_cons_zero, List.set_cons_succ]
            refine wpAnyZ_oneT #[true, true, true, true, true, true, true, true, true, true, true, true, true, true, true, true, true, true, true, false, false, false, false, false, false] (z := 24) (i := 14) (o := ⟨some 66, _, _, _, _, none⟩) (by kernel_rfl) rfl (by kernel_rfl) (fun K hK => ?_)
            refine step_appS rfl _ (.tmp 65) 30 rfl 5 i0 Try.underlying30 hi0 hz0 hz1 hz2 (.slice none 0 0) [] rfl (World.ownsRow_nil _ _ _ _) (.slice a0 st cap0) (f.b.take st) rfl (HBT.out _ ((Tch.alloc _ _).trans0 (Tch.drew _))) (by rw [hbl.out]; unfold lim; simp only [List.length_nil]; omega) (f.b.take st) (by simp [Hid]) ?_
            intro a1 n1 cp1 w1 hA1 hn1
            have T1' : Tch No (wr.alloc (.cells #[.string nm, .slice a0 m0 cap0, .int .i64 (s0 : Int), .bool true] 63)).drew w1 := Tch.grown hA1.grow (fun q hq _ => by simp [Value.ownBlock] at hq)
            have T1 : Tch No wr w1 := ((Tch.alloc _ _).trans0 (Tch.drew _)).trans0 T1'
            have hH1 := hH.tch T1'
            refine hK _ _ (fun _ => hH1) ?_
            clear hK K hH
            try simp only [Act.put, List.setIfInBounds_toArray, List.set_cons_zero, List.set_cons_succ]
            have hH := hH1
            clear hH1
            refine wpAnyZ_takeT 71 #[true, true, true, true, true, true, true, true, true, true, true, true, true, true, true, true, true, true, true, true, false, false, false, false, false] (z := 24) (i := 19) (v := ?_) (oi := ⟨some 71, _, _, _, _, none⟩) (by kernel_rfl) rfl rfl rfl (by kernel_rfl) (by kernel_rfl) (by kernel_rfl) (by kernel_rfl) (by kernel_rfl) (fun _ _ _ h => h) (Or.inl ⟨by rfl, fun W hSW => ?_⟩) hH ?_
            rotate_left
            · (obtain ⟨y1, y2, y3, y4⟩ := hSW; go_simp; first | done | with_reducible rfl)
            try simp only [Act.put, List.setIfInBounds_toArray, List.set_cons_zero, List.set_cons_succ]
            refine wpAnyZ_oneT #[true, true, true, true, true, true, true, true, true, true, true, true, true, true, true, true, true, true, true, true, true, false, false, false, false] (z := 24) (i := 20) (o := ⟨some 72, _, _, _, _, none⟩) (by kernel_rfl) rfl (by kernel_rfl) (fun K hK => ?_)
            rw [if_pos (by rfl)]
            go_simp
            have hH2 := hH.tch (Tch.alloc w1 (.cells #[.string nm, .slice a1 n1 cp1, .int .i64 (st : Int), .bool true] 63))
            refine hK _ _ (fun _ => hH2) ?_
            clear hK K hH
            try simp only [Act.put, List.setIfInBounds_toArray, List.set_cons_zero, List.set_cons_succ]
            refine wpAnyZ_oneT #[true, true, true, true, true, true, true, true, true, true, true, true, true, true, true, true, true, true, true, true, true, true, false, false, false] (z := 24) (i := 21) (o := ⟨some 73, _, _, _, _, none⟩) (by kernel_rfl) rfl (by kernel_rfl) (fun K hK => ?_)
            refine step_appF rfl _ (.tmp 72) rfl _ _ _ rfl (own_tch hR.out.ref.row (T1.trans0 (Tch.alloc _ _)) (fun _ _ h => h)) _ _ _ rfl (src_one w1 nm (.slice a1 n1 cp1) st true ⟨⟨f.name, f.b.take st, st, true⟩, .slice a1 n1 cp1⟩ (by simp only [rcs]; rw [HNM.out]) rfl) (by omega) ?_
            intro aF nF cpF wF hF
            have B2 := blk_tch (T1.trans0 (Tch.alloc w1 (.cells #[.string nm, .slice a1 n1 cp1, .int .i64 (st : Int), .bool true] 63))) hR.out.ref.disk (fun h => h)
            have j6 := hF.grow.cell hH2.1 (fun e => hR.out.ref.vne e.symm)
            have j7 := blk_free ((hF.grow.block ob (blk_lt B2) (fun e => hR.out.ref.vne e.symm)).trans B2) 1
            have hH3 : FS ob wr.heap.size (.slice aO mO cO) nm (.slice a0 m0 cap0) s0 wF := hH2.grown hF.grow (fun e => hR.out.ref.vne e.symm) (fun e => by have := (hR.out.ref.row.lt _ e.symm).2; omega)
            have T2 := Lib.hid T1
            have A2 := Lib.hid hA1
            have F2 := Lib.hid hF
            refine hK _ _ (fun _ => hH3) ?_
            clear hK K hH2 B2 T1 T1' hA1 hF
            try simp only [Act.put, List.setIfInBounds_toArray, List.set_cons_zero, List.set_cons_succ]
            have hH := hH3
            clear hH3
            refine wpAnyZ_takeT 74 #[true, true, true, true, true, true, true, true, true, true, true, true, true, true, true, true, true, true, true, true, true, true, true, false, false] (z := 24) (i := 22) (v := ?_) (oi := ⟨some 74, _, _, _, _, none⟩) (by kernel_rfl) rfl rfl rfl (by kernel_rfl) (by kernel_rfl) (by kernel_rfl) (by kernel_rfl) (by kernel_rfl) (fun _ _ _ h => h) (Or.inl ⟨by rfl, fun W hSW => ?_⟩) hH ?_
            rotate_left
            · (obtain ⟨y1, y2, y3, y4⟩ := hSW; go_simp; first | done | with_reducible rfl)
            try simp only [Act.put, List.setIfInBounds_toArray, List.set_cons_zero, List.set_cons_succ]
            refine wpAnyZ_takeT 75 #[true, true, true, true, true, true, true, true, true, true, true, true, true, true, true, true, true, true, true, true, true, true, true, true, false] (z := 24) (i := 23) (v := ?_) (oi := ⟨some 75, _, _, _, _, none⟩) (by kernel_rfl) rfl rfl rfl (by kernel_rfl) (by kernel_rfl) (by kernel_rfl) (by kernel_rfl) (by kernel_rfl) (fun _ _ _ h => h) (Or.inl ⟨by rfl, fun W hSW => ?_⟩) hH ?_
            rotate_left
            · (obtain ⟨y1, y2, y3, y4⟩ := hSW; go_simp; first | done | with_reducible rfl)
            try simp only [Act.put, List.setIfInBounds_toArray, List.set_cons_zero, List.set_cons_succ]
            clear hH
            refine wpAnyZ_oneT #[true, true, true, true, true, true, true, true, true, true, true, true, true, true, true, true, true, true, true, true, true, true, true, true, true] (z := 24) (i := 24) (o := ⟨none, _, _, _, _, none⟩) (by kernel_rfl) rfl (by kernel_rfl) (fun K hK => ?_)
            rw [if_pos (by rfl)]
            go_simp
            refine hK _ _ (fun h => absurd rfl h) ?_
            clear hK K
            try simp only [Act.put, List.setIfInBounds_toArray, List.set_cons_zero, List.set_cons_succ]
            refine wpAnyZ_done (by kernel_rfl) ?_ _
            go_wp2_with fail
            exact ⟨⟨k + 1, .slice aF nF cpF, Lo ++ [(⟨⟨f.name, f.b.take st, st, true⟩, .slice a1 n1 cp1⟩ : RE)], by omega, by go_num, rfall_keep hR.out HkM.out hND.out hSU.out hUS.out (by rw [HF.out]; exact HNL.out) HE.out (Nat.le_of_eq hbl.out.symm) (T2.out.trans0 (Tch.alloc _ _)) ((SlB.ofRow A2.out.own (by rw [hbl.out]; unfold lim; omega)).tch0 (Tch.alloc _ _)) (fun j hj => by
              rcases A2.out.loc with e | e
              · rw [e] at hj; simp [Value.ownBlock] at hj
              · rw [e] at hj; simp at hj; omega) F2.out⟩, by simp [intOf]; omega⟩
        · have hz' : ¬ (st : Int) = 0 := by omega
          have HE : Hid (fallE n ((L.map (·.f))[k]'HkM.out) = some ⟨f.name, f.b.take st, st, true⟩) := by
            rw [Hid, HF.out, fallE, HST.out, if_pos (by left; omega)]
          go_wp2_with fail
          refine wp_region_ZT 25 #[false, false, false, false, false, false, false, false, false, false, false, false, false, false, false, false, false, false, false, false, false, false, false, false, false] (z := 24) (S := FS ob wr.heap.size (.slice aO mO cO) nm (.slice a0 m0 cap0) s0) rfl (by kernel_rfl) (by kernel_rfl) ?_
          have hH : FS ob wr.heap.size (.slice aO mO cO) nm (.slice a0 m0 cap0) s0 (wr.alloc (.cells #[.string nm, .slice a0 m0 cap0, .int .i64 (s0 : Int), .bool bn] 63)).drew := FS.mk0 ho1 bn
          refine wpAnyZ_takeT 52 #[true, false, false, false, false, false, false, false, false, false, false, false, false, false, false, false, false, false, false, false, false, false, false, false, false] (z := 24) (i := 0) (v := ?_) (oi := ⟨some 52, _, _, _, _, none⟩) (by kernel_rfl) rfl rfl rfl (by kernel_rfl) (by kernel_rfl) (by kernel_rfl) (by kernel_rfl) (by kernel_rfl) (fun _ _ _ h => h) (Or.inl ⟨by rfl, fun W hSW => ?_⟩) hH ?_
          rotate_left
          · (obtain ⟨y1, y2, y3, y4⟩ := hSW; go_simp; first | done | with_reducible rfl)
          try simp only [Act.put, List.setIfInBounds_toArray, List.set_cons_zero, List.set_cons_succ]
          refine wpAnyZ_takeT 53 #[true, true, false, false, false, false, false, false, false, false, false, false, false, false, false, false, false, false, false, false, false, false, false, false, false] (z := 24) (i := 1) (v := ?_) (oi := ⟨some 53, _, _, _, _, none⟩) (by kernel_rfl) rfl rfl rfl (by kernel_rfl) (by kernel_rfl) (by kernel_rfl) (by kernel_rfl) (by kernel_rfl) (fun _ _ _ h => h) (Or.inl ⟨by rfl, fun W hSW => ?_⟩) hH ?_
          rotate_left
          · (obtain ⟨y1, y2, y3, y4⟩ := hSW; go_simp; first | done | with_reducible rfl)
          try simp only [Act.put, List.setIfInBounds_toArray, List.set_cons_zero, List.set_cons_succ]
          refine wpAnyZ_takeT 54 #[true, true, true, false, false, false, false, false, false, false, false, false, false, false, false, false, false, false, false, false, false, false, false, false, false] (z := 24) (i := 2) (v := ?_) (oi := ⟨some 54, _, _, _, _, none⟩) (by kernel_rfl) rfl rfl rfl (by kernel_rfl) (by kernel_rfl) (by kernel_rfl) (by kernel_rfl) (by kernel_rfl) (fun _ _ _ h => h) (Or.inl ⟨by rfl, fun W hSW => ?_⟩) hH ?_
          rotate_left
          · (obtain ⟨y1, y2, y3, y4⟩ := hSW; go_simp; first | done | with_reducible rfl)
          try simp only [Act.put, List.setIfInBounds_toArray, List.set_cons_zero, List.set_cons_succ]
          refine wpAnyZ_takeT 55 #[true, true, true, true, false, false, false, false, false, false, false, false, false, false, false, false, false, false, false, false, false, false, false, false, false] (z := 24) (i := 3) (v := ?_) (oi := ⟨some 55, _, _, _, _, none⟩) (by kernel_rfl) rfl rfl rfl (by kernel_rfl) (by kernel_rfl) (by kernel_rfl) (by kernel_rfl) (by kernel_rfl) (fun _ _ _ h => h) (Or.inl ⟨by rfl, fun W hSW => ?_⟩) hH ?_
          rotate_left
          · (obtain ⟨y1, y2, y3, y4⟩ := hSW; go_simp; first | done | with_reducible rfl)
          try simp only [Act.put, List.setIfInBounds_toArray, List.set_cons_zero, List.set_cons_succ]
          refine wpAnyZ_takeT 56 #[true, true, true, true, true, false, false, false, false, false, false, false, false, false, false, false, false, false, false, false, false, false, false, false, false] (z := 24) (i := 4) (v := ?_) (oi := ⟨some 56, _, _, _, _, none⟩) (by kernel_rfl) rfl rfl rfl (by kernel_rfl) (by kernel_rfl) (by kernel_rfl) (by kernel_rfl) (by kernel_rfl) (fun _ _ _ h => h) (Or.inl ⟨by rfl, fun W hSW => ?_⟩) hH ?_
          rotate_left
          · (obtain ⟨y1, y2, y3, y4⟩ := hSW; go_simp; first | done | with_reducible rfl)
          try simp only [Act.put, List.setIfInBounds_toArray, List.set_cons_zero, List.set_cons_succ]
          refine wpAnyZ_takeT 57 #[true, true, true, true, true, true, false, false, false, false, false, false, false, false, false, false, false, false, false, false, false, false, false, false, false] (z := 24) (i := 5) (v := ?_) (oi := ⟨some 57, _, _, _, _, none⟩) (by kernel_rfl) rfl rfl rfl (by kernel_rfl) (by kernel_rfl) (by kernel_rfl) (by kernel_rfl) (by kernel_rfl) (fun _ _ _ h => h) (Or.inl ⟨by rfl, fun W hSW => ?_⟩) hH ?_
          rotate_left
          · (obtain ⟨y1, y2, y3, y4⟩ := hSW; go_simp; first | done | with_reducible rfl)
          try simp only [Act.put, List.setIfInBounds_toArray, List.set_cons_zero, List.set_cons_succ]
          refine wpAnyZ_takeT 58 #[true, true, true, true, true, true, true, false, false, false, false, false, false, false, false, false, false, false, false, false, false, false, false, false, false] (z := 24) (i := 6) (v := ?_) (oi := ⟨some 58, _, _, _, _, none⟩) (by kernel_rfl) rfl rfl rfl (by kernel_rfl) (by kernel_rfl) (by kernel_rfl) (by kernel_rfl) (by kernel_rfl) (fun _ _ _ h => h) (Or.inl ⟨by rfl, fun W hSW => ?_⟩) hH ?_
          rotate_left
          · (obtain ⟨y1, y2, y3, y4⟩ := hSW; go_simp; first | done | with_reducible rfl)
          try simp only [Act.put, List.setIfInBounds_toArray, List.set_cons_zero, List.set_cons_succ]
          refine wpAnyZ_takeT 59 #[true, true, true, true, true, true, true, true, false, false, false, false, false, false, false, false, false, false, false, false, false, false, false, false, false] (z := 24) (i := 7) (v := ?_) (oi := ⟨some 59, _, _, _, _, none⟩) (by kernel_rfl) rfl rfl rfl (by kernel_rfl) (by kernel_rfl) (by kernel_rfl) (by kernel_rfl) (by kernel_rfl) (fun _ _ _ h => h) (Or.inl ⟨by rfl, fun W hSW => ?_⟩) hH ?_
          rotate_left
          · (obtain ⟨y1, y2, y3, y4⟩ := hSW; go_simp; first | done | with_reducible rfl)
          try simp only [Act.put, List.setIfInBounds_toArray, List.set_cons_zero, List.set_cons_succ]
          refine wpAnyZ_takeT 60 #[true, true, true, true, true, true, true, true, true, false, false, false, false, false, false, false, false, false, false, false, false, false, false, false, false] (z := 24) (i := 8) (v := ?_) (oi := ⟨some 60, _, _, _, _, none⟩) (by kernel_rfl) rfl rfl rfl (by kernel_rfl) (by kernel_rfl) (by kernel_rfl) (by kernel_rfl) (by kernel_rfl) (fun _ _ _ h => h) (Or.inl ⟨by rfl, fun W hSW => ?_⟩) hH ?_
          rotate_left
          · (obtain ⟨y1, y2, y3, y4⟩ := hSW; go_simp; first | done | with_reducible rfl)
          try simp only [Act.put, List.setIfInBounds_toArray, List.set_cons_zero, List.set_cons_succ]
          refine wpAnyZ_takeT 61 #[true, true, true, true, true, true, true, true, true, true, false, false, false, false, false, false, false, false, false, false, false, false, false, false, false] (z := 24) (i := 9) (v := ?_) (oi := ⟨some 61, _, _, _, _, none⟩) (by kernel_rfl) rfl rfl rfl (by kernel_rfl) (by kernel_rfl) (by kernel_rfl) (by kernel_rfl) (by kernel_rfl) (fun _ _ _ h => h) (Or.inl ⟨by rfl, fun W hSW => ?_⟩) hH ?_
          rotate_left
          · (obtain ⟨y1, y2, y3, y4⟩ := hSW; go_simp; first | done | with_reducible rfl)
          try simp only [Act.put, List.setIfInBounds_toArray, List.set_cons_zero, List.set_cons_succ]
          refine wpAnyZ_takeT 62 #[true, true, true, true, true, true, true, true, true, true, true, false, false, false, false, false, false, false, false, false, false, false, false, false, false] (z := 24) (i := 10) (v := ?_) (oi := ⟨some 62, _, _, _, _, none⟩) (by kernel_rfl) rfl rfl rfl (by kernel_rfl) (by kernel_rfl) (by kernel_rfl) (by kernel_rfl) (by kernel_rfl) (fun _ _ _ h => h) (Or.inl ⟨by rfl, fun W hSW => ?_⟩) hH ?_
          rotate_left
          · (obtain ⟨y1, y2, y3, y4⟩ := hSW; go_simp; first | done | with_reducible rfl)
          try simp only [Act.put, List.setIfInBounds_toArray, List.set_cons_zero, List.set_cons_succ]
          refine wpAnyZ_takeT 63 #[true, true, true, true, true, true, true, true, true, true, true, true, false, false, false, false, false, false, false, false, false, false, false, false, false] (z := 24) (i := 11) (v := ?_) (oi := ⟨some 63, _, _, _, _, none⟩) (by kernel_rfl) rfl rfl rfl (by kernel_rfl) (by kernel_rfl) (by kernel_rfl) (by kernel_rfl) (by kernel_rfl) (fun _ _ _ h => h) (Or.inl ⟨by rfl, fun W hSW => ?_⟩) hH ?_
          rotate_left
          · (obtain ⟨y1, y2, y3, y4⟩ := hSW; go_simp; first | done | with_reducible rfl)
          try simp only [Act.put, List.setIfInBounds_toArray, List.set_cons_zero, List.set_cons_succ]
          refine wpAnyZ_takeT 64 #[true, true, true, true, true, true, true, true, true, true, true, true, true, false, false, false, false, false, false, false, false, false, false, false, false] (z := 24) (i := 12) (v := ?_) (oi := ⟨some 64, _, _, _, _, none⟩) (by kernel_rfl) rfl rfl rfl (by kernel_rfl) (by kernel_rfl) (by kernel_rfl) (by kernel_rfl) (by kernel_rfl) (fun _ _ _ h => h) (Or.inl ⟨by rfl, fun W hSW => ?_⟩) hH ?_
          rotate_left
          · (obtain ⟨y1, y2, y3, y4⟩ := hSW; go_simp; first | done | with_reducible rfl)
          try simp only [Act.put, List.setIfInBounds_toArray, List.set_cons_zero, List.set_cons_succ]
          refine wpAnyZ_takeT 65 #[true, true, true, true, true, true, true, true, true, true, true, true, true, true, false, false, false, false, false, false, false, false, false, false, false] (z := 24) (i := 13) (v := ?_) (oi := ⟨some 65, _, _, _, _, none⟩) (by kernel_rfl) rfl rfl rfl (by kernel_rfl) (by kernel_rfl) (by kernel_rfl) (by kernel_rfl) (by kernel_rfl) (fun _ _ _ h => h) (Or.inl ⟨by rfl, fun W hSW => ?_⟩) hH ?_
          rotate_left
          · (obtain ⟨y1, y2, y3, y4⟩ := hSW; go_simp; first | done | with_reducible rfl)
          try simp only [Act.put, List.setIfInBounds_toArray, List.set_cons_zero, List.set_cons_succ]
          refine wpAnyZ_takeT 67 #[true, true, true, true, true, true, true, true, true, true, true, true, true, true, false, true, false, false, false, false, false, false, false, false, false] (z := 24) (i := 15) (v := ?_) (oi := ⟨some 67, _, _, _, _, none⟩) (by kernel_rfl) rfl rfl rfl (by kernel_rfl) (by kernel_rfl) (by kernel_rfl) (by kernel_rfl) (by kernel_rfl) (fun _ _ _ h => h) (Or.inl ⟨by rfl, fun W hSW => ?_⟩) hH ?_
          rotate_left
          · (obtain ⟨y1, y2, y3, y4⟩ := hSW; go_simp; first | done | with_reducible rfl)
          try simp only [Act.put, List.setIfInBounds_toArray, List.set_cons_zero, List.set_cons_succ]
          refine wpAnyZ_takeT 68 #[true, true, true, true, true, true, true, true, true, true, true, true, true, true, false, true, true, false, false, false, false, false, false, false, false] (z := 24) (i := 16) (v := ?_) (oi := ⟨some 68, _, _, _, _, none⟩) (by kernel_rfl) rfl rfl rfl (by kernel_rfl) (by kernel_rfl) (by kernel_rfl) (by kernel_rfl) (by kernel_rfl) (fun _ _ _ h => h) (Or.inl ⟨by rfl, fun W hSW => ?_⟩) hH ?_
          rotate_left
          · (obtain ⟨y1, y2, y3, y4⟩ := hSW; go_simp; first | done | with_reducible rfl)
          try simp only [Act.put, List.setIfInBounds_toArray, List.set_cons_zero, List.set_cons_succ]
          refine wpAnyZ_takeT 69 #[true, true, true, true, true, true, true, true, true, true, true, true, true, true, false, true, true, true, false, false, false, false, false, false, false] (z := 24) (i := 17) (v := ?_) (oi := ⟨some 69, _, _, _, _, none⟩) (by kernel_rfl) rfl rfl rfl (by kernel_rfl) (by kernel_rfl) (by kernel_rfl) (by kernel_rfl) (by kernel_rfl) (fun _ _ _ h => h) (Or.inl ⟨by rfl, fun W hSW => ?_⟩) hH ?_
          rotate_left
          · (obtain ⟨y1, y2, y3, y4⟩ := hSW; go_simp; first | done | with_reducible rfl)
          try simp only [Act.put, List.setIfInBounds_toArray, List.set_cons_zero, List.set_cons_succ]
          refine wpAnyZ_takeT 70 #[true, true, true, true, true, true, true, true, true, true, true, true, true, true, false, true, true, true, true, false, false, false, false, false, false] (z := 24) (i := 18) (v := ?_) (oi := ⟨some 70, _, _, _, _, none⟩) (by kernel_rfl) rfl rfl rfl (by kernel_rfl) (by kernel_rfl) (by kernel_rfl) (by kernel_rfl) (by kernel_rfl) (fun _ _ _ h => h) (Or.inl ⟨by rfl, fun W hSW => ?_⟩) hH ?_
          rotate_left
          · (obtain ⟨y1, y2, y3, y4⟩ := hSW; go_simp; first | done | with_reducible rfl)
          try simp only [Act.put, List.setIfInBounds_toArray, List.set_cons_zero, List.set_cons_succ]
          refine wpAnyZ_oneT #[true, true, true, true, true, true, true, true, true, true, true, true, true, true, true, true, true, true, true, false, false, false, false, false, false] (z := 24) (i := 14) (o := ⟨some 66, _, _, _, _, none⟩) (by kernel_rfl) rfl (by kernel_rfl) (fun K hK => ?_)
          refine step_appS rfl _ (.tmp 65) 30 rfl 5 i0 Try.underlying30 hi0 hz0 hz1 hz2 (.slice none 0 0) [] rfl (World.ownsRow_nil _ _ _ _) (.slice a0 st cap0) (f.b.take st) rfl (HBT.out _ ((Tch.alloc _ _).trans0 (Tch.drew _))) (by rw [hbl.out]; unfold lim; simp only [List.length_nil]; omega) (f.b.take st) (by simp [Hid]) ?_
          intro a1 n1 cp1 w1 hA1 hn1
          have T1' : Tch No (wr.alloc (.cells #[.string nm, .slice a0 m0 cap0, .int .i64 (s0 : Int), .bool bn] 63)).drew w1 := Tch.grown hA1.grow (fun q hq _ => by simp [Value.ownBlock] at hq)
          have T1 : Tch No wr w1 := ((Tch.alloc _ _).trans0 (Tch.drew _)).trans0 T1'
          have hH1 := hH.tch T1'
          refine hK _ _ (fun _ => hH1) ?_
          clear hK K hH
          try simp only [Act.put, List.setIfInBounds_toArray, List.set_cons_zero, List.set_cons_succ]
          have hH := hH1
          clear hH1
          refine wpAnyZ_takeT 71 #[true, true, true, true, true, true, true, true, true, true, true, true, true, true, true, true, true, true, true, true, false, false, false, false, false] (z := 24) (i := 19) (v := ?_) (oi := ⟨some 71, _, _, _, _, none⟩) (by kernel_rfl) rfl rfl rfl (by kernel_rfl) (by kernel_rfl) (by kernel_rfl) (by kernel_rfl) (by kernel_rfl) (fun _ _ _ h => h) (Or.inl ⟨by rfl, fun W hSW => ?_⟩) hH ?_
          rotate_left
          · (obtain ⟨y1, y2, y3, y4⟩ := hSW; go_simp; first | done | with_reducible rfl)
          try simp only [Act.put, List.setIfInBounds_toArray, List.set_cons_zero, List.set_cons_succ]
          refine wpAnyZ_oneT #[true, true, true, true, true, true, true, true, true, true, true, true, true, true, true, true, true, true, true, true, true, false, false, false, false] (z := 24) (i := 20) (o := ⟨some 72, _, _, _, _, none⟩) (by kernel_rfl) rfl (by kernel_rfl) (fun K hK => ?_)
          rw [if_pos (by rfl)]
          go_simp
          have hH2 := hH.tch (Tch.alloc w1 (.cells #[.string nm, .slice a1 n1 cp1, .int .i64 (st : Int), .bool true] 63))
          refine hK _ _ (fun _ => hH2) ?_
          clear hK K hH
          try simp only [Act.put, List.setIfInBounds_toArray, List.set_cons_zero, List.set_cons_succ]
          refine wpAnyZ_oneT #[true, true, true, true, true, true, true, true, true, true, true, true, true, true, true, true, true, true, true, true, true, true, false, false, false] (z := 24) (i := 21) (o := ⟨some 73, _, _, _, _, none⟩) (by kernel_rfl) rfl (by kernel_rfl) (fun K hK => ?_)
          refine step_appF rfl _ (.tmp 72) rfl _ _ _ rfl (own_tch hR.out.ref.row (T1.trans0 (Tch.alloc _ _)) (fun _ _ h => h)) _ _ _ rfl (src_one w1 nm (.slice a1 n1 cp1) st true ⟨⟨f.name, f.b.take st, st, true⟩, .slice a1 n1 cp1⟩ (by simp only [rcs]; rw [HNM.out]) rfl) (by omega) ?_
          intro aF nF cpF wF hF
          have B2 := blk_tch (T1.trans0 (Tch.alloc w1 (.cells #[.string nm, .slice a1 n1 cp1, .int .i64 (st : Int), .bool true] 63))) hR.out.ref.disk (fun h => h)
          have j6 := hF.grow.cell hH2.1 (fun e => hR.out.ref.vne e.symm)
          have j7 := blk_free ((hF.grow.block ob (blk_lt B2) (fun e => hR.out.ref.vne e.symm)).trans B2) 1
          have hH3 : FS ob wr.heap.size (.slice aO mO cO) nm (.slice a0 m0 cap0) s0 wF := hH2.grown hF.grow (fun e => hR.out.ref.vne e.symm) (fun e => by have := (hR.out.ref.row.lt _ e.symm).2; omega)
          have T2 := Lib.hid T1
          have A2 := Lib.hid hA1
          have F2 := Lib.hid hF
          refine hK _ _ (fun _ => hH3) ?_
          clear hK K hH2 B2 T1 T1' hA1 hF
          try simp only [Act.put, List.setIfInBounds_toArray, List.set_cons_zero, List.set_cons_succ]
          have hH := hH3
          clear hH3
          refine wpAnyZ_takeT 74 #[true, true, true, true, true, true, true, true, true, true, true, true, true, true, true, true, true, true, true, true, true, true, true, false, false] (z := 24) (i := 22) (v := ?_) (oi := ⟨some 74, _, _, _, _, none⟩) (by kernel_rfl) rfl rfl rfl (by kernel_rfl) (by kernel_rfl) (by kernel_rfl) (by kernel_rfl) (by kernel_rfl) (fun _ _ _ h => h) (Or.inl ⟨by rfl, fun W hSW => ?_⟩) hH ?_
          rotate_left
          · (obtain ⟨y1, y2, y3, y4⟩ := hSW; go_simp; first | done | with_reducible rfl)
          try simp only [Act.put, List.setIfInBounds_toArray, List.set_cons_zero, List.set_cons_succ]
          refine wpAnyZ_takeT 75 #[true, true, true, true, true, true, true, true, true, true, true, true, true, true, true, true, true, true, true, true, true, true, true, true, false] (z := 24) (i := 23) (v := ?_) (oi := ⟨some 75, _, _, _, _, none⟩) (by kernel_rfl) rfl rfl rfl (by kernel_rfl) (by kernel_rfl) (by kernel_rfl) (by kernel_rfl) (by kernel_rfl) (fun _ _ _ h => h) (Or.inl ⟨by rfl, fun W hSW => ?_⟩) hH ?_
          rotate_left
          · (obtain ⟨y1, y2, y3, y4⟩ := hSW; go_simp; first | done | with_reducible rfl)
          try simp only [Act.put, List.setIfInBounds_toArray, List.set_cons_zero, List.set_cons_succ]
          clear hH
          refine wpAnyZ_oneT #[true, true, true, true, true, true, true, true, true, true, true, true, true, true, true, true, true, true, true, true, true, true, true, true, true] (z := 24) (i := 24) (o := ⟨none, _, _, _, _, none⟩) (by kernel_rfl) rfl (by kernel_rfl) (fun K hK => ?_)
          rw [if_pos (by rfl)]
          go_simp
          refine hK _ _ (fun h => absurd rfl h) ?_
          clear hK K
          try simp only [Act.put, List.setIfInBounds_toArray, List.set_cons_zero, List.set_cons_succ]
          refine wpAnyZ_done (by kernel_rfl) ?_ _
          go_wp2_with fail
          exact ⟨⟨k + 1, .slice aF nF cpF, Lo ++ [(⟨⟨f.name, f.b.take st, st, true⟩, .slice a1 n1 cp1⟩ : RE)], by omega, by go_num, rfall_keep hR.out HkM.out hND.out hSU.out hUS.out (by rw [HF.out]; exact HNL.out) HE.out (Nat.le_of_eq hbl.out.symm) (T2.out.trans0 (Tch.alloc _ _)) ((SlB.ofRow A2.out.own (by rw [hbl.out]; unfold lim; omega)).tch0 (Tch.alloc _ _)) (fun j hj => by
            rcases A2.out.loc with e | e
            · rw [e] at hj; simp [Value.ownBlock] at hj
            · rw [e] at hj; simp at hj; omega) F2.out⟩, by simp [intOf]; omega⟩

      · have HST : Hid (stays n f = s0) := by
          have := HS0.out
          unfold stays
          rw [Hid, this, if_neg (by omega)]; simp
        obtain ⟨st, hst⟩ : ∃ st, s0 = st := ⟨_, rfl⟩
        subst hst
        have E3 : IntKind.i64.wrap ((s0 : Int) + 0) = (s0 : Int) := by rw [IntWalk.i64_in _ ⟨by omega, by omega⟩]; omega
        have E4 : IntKind.i64.wrap (s0 : Int) = (s0 : Int) := by rw [IntWalk.i64_in _ ⟨by omega, by omega⟩]
        have q1 : (0 : Int) ≤ (s0 : Int) := by omega
        have q2 : (s0 : Int) ≤ (cap0 : Int) := by omega
        have q3 : s0 ≤ m0 := by omega
        have HBT : Hid (∀ W, Tch No wr W → SlS W (.slice a0 s0 cap0) (f.b.take s0)) := fun W hW => ((HB.out.tch0 hW).take s0 (by rw [← hm0.out]; exact q3)).toS
        have hbl : Hid ((f.b.take s0).length = s0) := by rw [Hid, List.length_take, ← hm0.out]; omega
        by_cases hz : s0 = 0
        · have hz' : (s0 : Int) = 0 := by omega
          cases bn with
          | false =>
            have HE : Hid (fallE n ((L.map (·.f))[k]'HkM.out) = none) := by
              rw [Hid, HF.out, fallE, HST.out, HBN.out, if_neg (by simp; omega)]
            go_wp2_with fail
            exact ⟨⟨k + 1, _, Lo, by omega, by go_num, rfall_skip hR.out HkM.out HE.out (Tch.alloc _ _)⟩, by simp [intOf]; omega⟩
          | true =>
            have HE : Hid (fallE n ((L.map (·.f))[k]'HkM.out) = some ⟨f.name, f.b.take s0, s0, true⟩) := by
              rw [Hid, HF.out, fallE, HST.out, HBN.out, if_pos (by simp)]
            clear hz
            go_wp2_with fail
            refine wp_region_ZT 25 #[false, false, false, false, false, false, false, false, false, false, false, false, false, false, false, false, false, false, false, false, false, false, false, false, false] (z := 24) (S := FS ob wr.heap.size (.slice aO mO cO) nm (.slice a0 m0 cap0) s0) rfl (by kernel_rfl) (by kernel_rfl) ?_
            have hH : FS ob wr.heap.size (.slice aO mO cO) nm (.slice a0 m0 cap0) s0 (wr.alloc (.cells #[.string nm, .slice a0 m0 cap0, .int .i64 0, .bool true] 63)).drew := by have hq := FS.mk0 (w := wr) (nm := nm) (vb := .slice a0 m0 cap0) (s0 := s0) ho1 true; rw [hz'] at hq; exact hq
            clear hz'
            refine wpAnyZ_takeT 52 #[true, false, false, false, false, false, false, false, false, false, false, false, false, false, false, false, false, false, false, false, false, false, false, false, false] (z := 24) (i := 0) (v := ?_) (oi := ⟨some 52, _, _, _, _, none⟩) (by kernel_rfl) rfl rfl rfl (by kernel_rfl) (by kernel_rfl) (by kernel_rfl) (by kernel_rfl) (by kernel_rfl) (fun _ _ _ h => h) (Or.inl ⟨by rfl, fun W hSW => ?_⟩) hH ?_
            rotate_left
            · (obtain ⟨y1, y2, y3, y4⟩ := hSW; go_simp; first | done | with_reducible rfl)
            try simp only [Act.put, List.setIfInBounds_toArray, List.set_cons_zero, List.set_cons_succ]
            refine wpAnyZ_takeT 53 #[true, true, false, false, false, false, false, false, false, false, false, false, false, false, false, false, false, false, false, false, false, false, false, false, false] (z := 24) (i := 1) (v := ?_) (oi := ⟨some 53, _, _, _, _, none⟩) (by kernel_rfl) rfl rfl rfl (by kernel_rfl) (by kernel_rfl) (by kernel_rfl) (by kernel_rfl) (by kernel_rfl) (fun _ _ _ h => h) (Or.inl ⟨by rfl, fun W hSW => ?_⟩) hH ?_
            rotate_left
            · (obtain ⟨y1, y2, y3, y4⟩ := hSW; go_simp; first | done | with_reducible rfl)
            try simp only [Act.put, List.setIfInBounds_toArray, List.set_cons_zero, List.set_cons_succ]
            refine wpAnyZ_takeT 54 #[true, true, true, false, false, false, false, false, false, false, false, false, false, false, false, false, false, false, false, false, false, false, false, false, false] (z := 24) (i := 2) (v := ?_) (oi := ⟨some 54, _, _, _, _, none⟩) (by kernel_rfl) rfl rfl rfl (by kernel_rfl) (by kernel_rfl) (by kernel_rfl) (by kernel_rfl) (by kernel_rfl) (fun _ _ _ h => h) (Or.inl ⟨by rfl, fun W hSW => ?_⟩) hH ?_
            rotate_left
            · (obtain ⟨y1, y2, y3, y4⟩ := hSW; go_simp; first | done | with_reducible rfl)
            try simp only [Act.put, List.setIfInBounds_toArray, List.set_cons_zero, List.set_cons_succ]
            refine wpAnyZ_takeT 55 #[true, true, true, true, false, false, false, false, false, false, false, false, false, false, false, false, false, false, false, false, false, false, false, false, false] (z := 24) (i := 3) (v := ?_) (oi := ⟨some 55, _, _, _, _, none⟩) (by kernel_rfl) rfl rfl rfl (by kernel_rfl) (by kernel_rfl) (by kernel_rfl) (by kernel_rfl) (by kernel_rfl) (fun _ _ _ h => h) (Or.inl ⟨by rfl, fun W hSW => ?_⟩) hH ?_
            rotate_left
            · (obtain ⟨y1, y2, y3, y4⟩ := hSW; go_simp; first | done | with_reducible rfl)
            try simp only [Act.put, List.setIfInBounds_toArray, List.set_cons_zero, List.set_cons_succ]
            refine wpAnyZ_takeT 56 #[true, true, true, true, true, false, false, false, false, false, false, false, false, false, false, false, false, false, false, false, false, false, false, false, false] (z := 24) (i := 4) (v := ?_) (oi := ⟨some 56, _, _, _, _, none⟩) (by kernel_rfl) rfl rfl rfl (by kernel_rfl) (by kernel_rfl) (by kernel_rfl) (by kernel_rfl) (by kernel_rfl) (fun _ _ _ h => h) (Or.inl ⟨by rfl, fun W hSW => ?_⟩) hH ?_
            rotate_left
            · (obtain ⟨y1, y2, y3, y4⟩ := hSW; go_simp; first | done | with_reducible rfl)
            try simp only [Act.put, List.setIfInBounds_toArray, List.set_cons_zero, List.set_cons_succ]
            refine wpAnyZ_takeT 57 #[true, true, true, true, true, true, false, false, false, false, false, false, false, false, false, false, false, false, false, false, false, false, false, false, false] (z := 24) (i := 5) (v := ?_) (oi := ⟨some 57, _, _, _, _, none⟩) (by kernel_rfl) rfl rfl rfl (by kernel_rfl) (by kernel_rfl) (by kernel_rfl) (by kernel_rfl) (by kernel_rfl) (fun _ _ _ h => h) (Or.inl ⟨by rfl, fun W hSW => ?_⟩) hH ?_
            rotate_left
            · (obtain ⟨y1, y2, y3, y4⟩ := hSW; go_simp; first | done | with_reducible rfl)
            try simp only [Act.put, List.setIfInBounds_toArray, List.set_cons_zero, List.set_cons_succ]
            refine wpAnyZ_takeT 58 #[true, true, true, true, true, true, true, false, false, false, false, false, false, false, false, false, false, false, false, false, false, false, false, false, false] (z := 24) (i := 6) (v := ?_) (oi := ⟨some 58, _, _, _, _, none⟩) (by kernel_rfl) rfl rfl rfl (by kernel_rfl) (by kernel_rfl) (by kernel_rfl) (by kernel_rfl) (by kernel_rfl) (fun _ _ _ h => h) (Or.inl ⟨by rfl, fun W hSW => ?_⟩) hH ?_
            rotate_left
            · (obtain ⟨y1, y2, y3, y4⟩ := hSW; go_simp; first | done | with_reducible rfl)
            try simp only [Act.put, List.setIfInBounds_toArray, List.set_cons_zero, List.set_cons_succ]
            refine wpAnyZ_takeT 59 #[true, true, true, true, true, true, true, true, false, false, false, false, false, false, false, false, false, false, false, false, false, false, false, false, false] (z := 24) (i := 7) (v := ?_) (oi := ⟨some 59, _, _, _, _, none⟩) (by kernel_rfl) rfl rfl rfl (by kernel_rfl) (by kernel_rfl) (by kernel_rfl) (by kernel_rfl) (by kernel_rfl) (fun _ _ _ h => h) (Or.inl ⟨by rfl, fun W hSW => ?_⟩) hH ?_
            rotate_left
            · (obtain ⟨y1, y2, y3, y4⟩ := hSW; go_simp; first | done | with_reducible rfl)
            try simp only [Act.put, List.setIfInBounds_toArray, List.set_cons_zero, List.set_cons_succ]
            refine wpAnyZ_takeT 60 #[true, true, true, true, true, true, true, true, true, false, false, false, false, false, false, false, false, false, false, false, false, false, false, false, false] (z := 24) (i := 8) (v := ?_) (oi := ⟨some 60, _, _, _, _, none⟩) (by kernel_rfl) rfl rfl rfl (by kernel_rfl) (by kernel_rfl) (by kernel_rfl) (by kernel_rfl) (by kernel_rfl) (fun _ _ _ h => h) (Or.inl ⟨by rfl, fun W hSW => ?_⟩) hH ?_
            rotate_left
            · (obtain ⟨y1, y2, y3, y4⟩ := hSW; go_simp; first | done | with_reducible rfl)
            try simp only [Act.put, List.setIfInBounds_toArray, List.set_cons_zero, List.set_cons_succ]
            refine wpAnyZ_takeT 61 #[true, true, true, true, true, true, true, true, true, true, false, false, false, false, false, false, false, false, false, false, false, false, false, false, false] (z := 24) (i := 9) (v := ?_) (oi := ⟨some 61, _, _, _, _, none⟩) (by kernel_rfl) rfl rfl rfl (by kernel_rfl) (by kernel_rfl) (by kernel_rfl) (by kernel_rfl) (by kernel_rfl) (fun _ _ _ h => h) (Or.inl ⟨by rfl, fun W hSW => ?_⟩) hH ?_
            rotate_left
            · (obtain ⟨y1, y2, y3, y4⟩ := hSW; go_simp; first | done | with_reducible rfl)
            try simp only [Act.put, List.setIfInBounds_toArray, List.set_cons_zero, List.set_cons_succ]
            refine wpAnyZ_takeT 62 #[true, true, true, true, true, true, true, true, true, true, true, false, false, false, false, false, false, false, false, false, false, false, false, false, false] (z := 24) (i := 10) (v := ?_) (oi := ⟨some 62, _, _, _, _, none⟩) (by kernel_rfl) rfl rfl rfl (by kernel_rfl) (by kernel_rfl) (by kernel_rfl) (by kernel_rfl) (by kernel_rfl) (fun _ _ _ h => h) (Or.inl ⟨by rfl, fun W hSW => ?_⟩) hH ?_
            rotate_left
            · (obtain ⟨y1, y2, y3, y4⟩ := hSW; go_simp; first | done | with_reducible rfl)
            try simp only [Act.put, List.setIfInBounds_toArray, List.set_cons_zero, List.set_cons_succ]
            refine wpAnyZ_takeT 63 #[true, true, true, true, true, true, true, true, true, true, true, true, false, false, false, false, false, false, false, false, false, false, false, false, false] (z := 24) (i := 11) (v := ?_) (oi := ⟨some 63, _, _, _, _, none⟩) (by kernel_rfl) rfl rfl rfl (by kernel_rfl) (by kernel_rfl) (by kernel_rfl) (by kernel_rfl) (by kernel_rfl) (fun _ _ _ h => h) (Or.inl ⟨by rfl, fun W hSW => ?_⟩) hH ?_
            rotate_left
            · (obtain ⟨y1, y2, y3, y4⟩ := hSW; go_simp; first | done | with_reducible rfl)
            try simp only [Act.put, List.setIfInBounds_toArray, List.set_cons_zero, List.set_cons_succ]
            refine wpAnyZ_takeT 64 #[true, true, true, true, true, true, true, true, true, true, true, true, true, false, false, false, false, false, false, false, false, false, false, false, false] (z := 24) (i := 12) (v := ?_) (oi := ⟨some 64, _, _, _, _, none⟩) (by kernel_rfl) rfl rfl rfl (by kernel_rfl) (by kernel_rfl) (by kernel_rfl) (by kernel_rfl) (by kernel_rfl) (fun _ _ _ h => h) (Or.inl ⟨by rfl, fun W hSW => ?_⟩) hH ?_
            rotate_left
            · (obtain ⟨y1, y2, y3, y4⟩ := hSW; go_simp; first | done | with_reducible rfl)
            try simp only [Act.put, List.setIfInBounds_toArray, List.set_cons_zero, List.set_cons_succ]
            refine wpAnyZ_takeT 65 #[true, true, true, true, true, true, true, true, true, true, true, true, true, true, false, false, false, false, false, false, false, false, false, false, false] (z := 24) (i := 13) (v := ?_) (oi := ⟨some 65, _, _, _, _, none⟩) (by kernel_rfl) rfl rfl rfl (by kernel_rfl) (by kernel_rfl) (by kernel_rfl) (by kernel_rfl) (by kernel_rfl) (fun _ _ _ h => h) (Or.inl ⟨by rfl, fun W hSW => ?_⟩) hH ?_
            rotate_left
            · (obtain ⟨y1, y2, y3, y4⟩ := hSW; go_simp; first | done | with_reducible rfl)
            try simp only [Act.put, List.setIfInBounds_toArray, List.set_cons_zero, List.set_cons_succ]
            refine wpAnyZ_takeT 67 #[true, true, true, true, true, true, true, true, true, true, true, true, true, true, false, true, false, false, false, false, false, false, false, false, false] (z := 24) (i := 15) (v := ?_) (oi := ⟨some 67, _, _, _, _, none⟩) (by kernel_rfl) rfl rfl rfl (by kernel_rfl) (by kernel_rfl) (by kernel_rfl) (by kernel_rfl) (by kernel_rfl) (fun _ _ _ h => h) (Or.inl ⟨by rfl, fun W hSW => ?_⟩) hH ?_
            rotate_left
            · (obtain ⟨y1, y2, y3, y4⟩ := hSW; go_simp; first | done | with_reducible rfl)
            try simp only [Act.put, List.setIfInBounds_toArray, List.set_cons_zero, List.set_cons_succ]
            refine wpAnyZ_takeT 68 #[true, true, true, true, true, true, true, true, true, true, true, true, true, true, false, true, true, false, false, false, false, false, false, false, false] (z := 24) (i := 16) (v := ?_) (oi := ⟨some 68, _, _, _, _, none⟩) (by kernel_rfl) rfl rfl rfl (by kernel_rfl) (by kernel_rfl) (by kernel_rfl) (by kernel_rfl) (by kernel_rfl) (fun _ _ _ h => h) (Or.inl ⟨by rfl, fun W hSW => ?_⟩) hH ?_
            rotate_left
            · (obtain ⟨y1, y2, y3, y4⟩ := hSW; go_simp; first | done | with_reducible rfl)
            try simp only [Act.put, List.setIfInBounds_toArray, List.set_cons_zero, List.set_cons_succ]
            refine wpAnyZ_takeT 69 #[true, true, true, true, true, true, true, true, true, true, true, true, true, true, false, true, true, true, false, false, false, false, false, false, false] (z := 24) (i := 17) (v := ?_) (oi := ⟨some 69, _, _, _, _, none⟩) (by kernel_rfl) rfl rfl rfl (by kernel_rfl) (by kernel_rfl) (by kernel_rfl) (by kernel_rfl) (by kernel_rfl) (fun _ _ _ h => h) (Or.inl ⟨by rfl, fun W hSW => ?_⟩) hH ?_
            rotate_left
            · (obtain ⟨y1, y2, y3, y4⟩ := hSW; go_simp; first | done | with_reducible rfl)
            try simp only [Act.put, List.setIfInBounds_toArray, List.set_cons_zero, List.set_cons_succ]
            refine wpAnyZ_takeT 70 #[true, true, true, true, true, true, true, true, true, true, true, true, true, true, false, true, true, true, true, false, false, false, false, false, false] (z := 24) (i := 18) (v := ?_) (oi := ⟨some 70, _, _, _, _, none⟩) (by kernel_rfl) rfl rfl rfl (by kernel_rfl) (by kernel_rfl) (by kernel_rfl) (by kernel_rfl) (by kernel_rfl) (fun _ _ _ h => h) (Or.inl ⟨by rfl, fun W hSW => ?_⟩) hH ?_
            rotate_left
            · (obtain ⟨y1, y2, y3, y4⟩ := hSW; go_simp; first | done | with_reducible rfl)
            try simp only [Act.put, List.setIfInBounds_toArray, List.set_cons_zero, List.set_cons_succ]
            refine wpAnyZ_oneT #[true, true, true, true, true, true, true, true, true, true, true, true, true, true, true, true, true, true, true, false, false, false, false, false, false] (z := 24) (i := 14) (o := ⟨some 66, _, _, _, _, none⟩) (by kernel_rfl) rfl (by kernel_rfl) (fun K hK => ?_)
            refine step_appS rfl _ (.tmp 65) 30 rfl 5 i0 Try.underlying30 hi0 hz0 hz1 hz2 (.slice none 0 0) [] rfl (World.ownsRow_nil _ _ _ _) (.slice a0 s0 cap0) (f.b.take s0) rfl (HBT.out _ ((Tch.alloc _ _).trans0 (Tch.drew _))) (by rw [hbl.out]; unfold lim; simp only [List.length_nil]; omega) (f.b.take s0) (by simp [Hid]) ?_
            intro a1 n1 cp1 w1 hA1 hn1
            have T1' : Tch No (wr.alloc (.cells #[.string nm, .slice a0 m0 cap0, .int .i64 0, .bool true] 63)).drew w1 := Tch.grown hA1.grow (fun q hq _ => by simp [Value.ownBlock] at hq)
            have T1 : Tch No wr w1 := ((Tch.alloc _ _).trans0 (Tch.drew _)).trans0 T1'
            have hH1 := hH.tch T1'
            refine hK _ _ (fun _ => hH1) ?_
            clear hK K hH
            try simp only [Act.put, List.setIfInBounds_toArray, List.set_cons_zero, List.set_cons_succ]
            have hH := hH1
            clear hH1
            refine wpAnyZ_takeT 71 #[true, true, true, true, true, true, true, true, true, true, true, true, true, true, true, true, true, true, true, true, false, false, false, false, false] (z := 24) (i := 19) (v := ?_) (oi := ⟨some 71, _, _, _, _, none⟩) (by kernel_rfl) rfl rfl rfl (by kernel_rfl) (by kernel_rfl) (by kernel_rfl) (by kernel_rfl) (by kernel_rfl) (fun _ _ _ h => h) (Or.inl ⟨by rfl, fun W hSW => ?_⟩) hH ?_
            rotate_left
            · (obtain ⟨y1, y2, y3, y4⟩ := hSW; go_simp; first | done | with_reducible rfl)
            try simp only [Act.put, List.setIfInBounds_toArray, List.set_cons_zero, List.set_cons_succ]
            refine wpAnyZ_oneT #[true, true, true, true, true, true, true, true, true, true, true, true, true, true, true, true, true, true, true, true, true, false, false, false, false] (z := 24) (i := 20) (o := ⟨some 72, _, _, _, _, none⟩) (by kernel_rfl) rfl (by kernel_rfl) (fun K hK => ?_)
            rw [if_pos (by rfl)]
            go_simp
            have hH2 := hH.tch (Tch.alloc w1 (.cells #[.string nm, .slice a1 n1 cp1, .int .i64 (s0 : Int), .bool true] 63))
            refine hK _ _ (fun _ => hH2) ?_
            clear hK K hH
            try simp only [Act.put, List.setIfInBounds_toArray, List.set_cons_zero, List.set_cons_succ]
            refine wpAnyZ_oneT #[true, true, true, true, true, true, true, true, true, true, true, true, true, true, true, true, true, true, true, true, true, true, false, false, false] (z := 24) (i := 21) (o := ⟨some 73, _, _, _, _, none⟩) (by kernel_rfl) rfl (by kernel_rfl) (fun K hK => ?_)
            refine step_appF rfl _ (.tmp 72) rfl _ _ _ rfl (own_tch hR.out.ref.row (T1.trans0 (Tch.alloc _ _)) (fun _ _ h => h)) _ _ _ rfl (src_one w1 nm (.slice a1 n1 cp1) s0 true ⟨⟨f.name, f.b.take s0, s0, true⟩, .slice a1 n1 cp1⟩ (by simp only [rcs]; rw [HNM.out]) rfl) (by omega) ?_
            intro aF nF cpF wF hF
            have B2 := blk_tch (T1.trans0 (Tch.alloc w1 (.cells #[.string nm, .slice a1 n1 cp1, .int .i64 (s0 : Int), .bool true] 63))) hR.out.ref.disk (fun h => h)
            have j6 := hF.grow.cell hH2.1 (fun e => hR.out.ref.vne e.symm)
            have j7 := blk_free ((hF.grow.block ob (blk_lt B2) (fun e => hR.out.ref.vne e.symm)).trans B2) 1
            have hH3 : FS ob wr.heap.size (.slice aO mO cO) nm (.slice a0 m0 cap0) s0 wF := hH2.grown hF.grow (fun e => hR.out.ref.vne e.symm) (fun e => by have := (hR.out.ref.row.lt _ e.symm).2; omega)
            have T2 := Lib.hid T1
            have A2 := Lib.hid hA1
            have F2 := Lib.hid hF
            refine hK _ _ (fun _ => hH3) ?_
            clear hK K hH2 B2 T1 T1' hA1 hF
            try simp only [Act.put, List.setIfInBounds_toArray, List.set_cons_zero, List.set_cons_succ]
            have hH := hH3
            clear hH3
            refine wpAnyZ_takeT 74 #[true, true, true, true, true, true, true, true, true, true, true, true, true, true, true, true, true, true, true, true, true, true, true, false, false] (z := 24) (i := 22) (v := ?_) (oi := ⟨some 74, _, _, _, _, none⟩) (by kernel_rfl) rfl rfl rfl (by kernel_rfl) (by kernel_rfl) (by kernel_rfl) (by kernel_rfl) (by kernel_rfl) (fun _ _ _ h => h) (Or.inl ⟨by rfl, fun W hSW => ?_⟩) hH ?_
            rotate_left
            · (obtain ⟨y1, y2, y3, y4⟩ := hSW; go_simp; first | done | with_reducible rfl)
            try simp only [Act.put, List.setIfInBounds_toArray, List.set_cons_zero, List.set_cons_succ]
            refine wpAnyZ_takeT 75 #[true, true, true, true, true, true, true, true, true, true, true, true, true, true, true, true, true, true, true, true, true, true, true, true, false] (z := 24) (i := 23) (v := ?_) (oi := ⟨some 75, _, _, _, _, none⟩) (by kernel_rfl) rfl rfl rfl (by kernel_rfl) (by kernel_rfl) (by kernel_rfl) (by kernel_rfl) (by kernel_rfl) (fun _ _ _ h => h) (Or.inl ⟨by rfl, fun W hSW => ?_⟩) hH ?_
            rotate_left
            · (obtain ⟨y1, y2, y3, y4⟩ := hSW; go_simp; first | done | with_reducible rfl)
            try simp only [Act.put, List.setIfInBounds_toArray, List.set_cons_zero, List.set_cons_succ]
            clear hH
            refine wpAnyZ_oneT #[true, true, true, true, true, true, true, true, true, true, true, true, true, true, true, true, true, true, true, true, true, true, true, true, true] (z := 24) (i := 24) (o := ⟨none, _, _, _, _, none⟩) (by kernel_rfl) rfl (by kernel_rfl) (fun K hK => ?_)
            rw [if_pos (by rfl)]
            go_simp
            refine hK _ _ (fun h => absurd rfl h) ?_
            clear hK K
            try simp only [Act.put, List.setIfInBounds_toArray, List.set_cons_zero, List.set_cons_succ]
            refine wpAnyZ_done (by kernel_rfl) ?_ _
            go_wp2_with fail
            exact ⟨⟨k + 1, .slice aF nF cpF, Lo ++ [(⟨⟨f.name, f.b.take s0, s0, true⟩, .slice a1 n1 cp1⟩ : RE)], by omega, by go_num, rfall_keep hR.out HkM.out hND.out hSU.out hUS.out (by rw [HF.out]; exact HNL.out) HE.out (Nat.le_of_eq hbl.out.symm) (T2.out.trans0 (Tch.alloc _ _)) ((SlB.ofRow A2.out.own (by rw [hbl.out]; unfold lim; omega)).tch0 (Tch.alloc _ _)) (fun j hj => by
              rcases A2.out.loc with e | e
              · rw [e] at hj; simp [Value.ownBlock] at hj
              · rw [e] at hj; simp at hj; omega) F2.out⟩, by simp [intOf]; omega⟩
        · have hz' : ¬ (s0 : Int) = 0 := by omega
          have HE : Hid (fallE n ((L.map (·.f))[k]'HkM.out) = some ⟨f.name, f.b.take s0, s0, true⟩) := by
            rw [Hid, HF.out, fallE, HST.out, if_pos (by left; omega)]
          go_wp2_with fail
          refine wp_region_ZT 25 #[false, false, false, false, false, false, false, false, false, false, false, false, false, false, false, false, false, false, false, false, false, false, false, false, false] (z := 24) (S := FS ob wr.heap.size (.slice aO mO cO) nm (.slice a0 m0 cap0) s0) rfl (by kernel_rfl) (by kernel_rfl) ?_
          have hH : FS ob wr.heap.size (.slice aO mO cO) nm (.slice a0 m0 cap0) s0 (wr.alloc (.cells #[.string nm, .slice a0 m0 cap0, .int .i64 (s0 : Int), .bool bn] 63)).drew := FS.mk0 ho1 bn
          refine wpAnyZ_takeT 52 #[true, false, false, false, false, false, false, false, false, false, false, false, false, false, false, false, false, false, false, false, false, false, false, false, false] (z := 24) (i := 0) (v := ?_) (oi := ⟨some 52, _, _, _, _, none⟩) (by kernel_rfl) rfl rfl rfl (by kernel_rfl) (by kernel_rfl) (by kernel_rfl) (by kernel_rfl) (by kernel_rfl) (fun _ _ _ h => h) (Or.inl ⟨by rfl, fun W hSW => ?_⟩) hH ?_
          rotate_left
          · (obtain ⟨y1, y2, y3, y4⟩ := hSW; go_simp; first | done | with_reducible rfl)
          try simp only [Act.put, List.setIfInBounds_toArray, List.set_cons_zero, List.set_cons_succ]
          refine wpAnyZ_takeT 53 #[true, true, false, false, false, false, false, false, false, false, false, false, false, false, false, false, false, false, false, false, false, false, false, false, false] (z := 24) (i := 1) (v := ?_) (oi := ⟨some 53, _, _, _, _, none⟩) (by kernel_rfl) rfl rfl rfl (by kernel_rfl) (by kernel_rfl) (by kernel_rfl) (by kernel_rfl) (by kernel_rfl) (fun _ _ _ h => h) (Or.inl ⟨by rfl, fun W hSW => ?_⟩) hH ?_
          rotate_left
          · (obtain ⟨y1, y2, y3, y4⟩ := hSW; go_simp; first | done | with_reducible rfl)
          try simp only [Act.put, List.setIfInBounds_toArray, List.set_cons_zero, List.set_cons_succ]
          refine wpAnyZ_takeT 54 #[true, true, true, false, false, false, false, false, false, false, false, false, false, false, false, false, false, false, false, false, false, false, false, false, false] (z := 24) (i := 2) (v := ?_) (oi := ⟨some 54, _, _, _, _, none⟩) (by kernel_rfl) rfl rfl rfl (by kernel_rfl) (by kernel_rfl) (by kernel_rfl) (by kernel_rfl) (by kernel_rfl) (fun _ _ _ h => h) (Or.inl ⟨by rfl, fun W hSW => ?_⟩) hH ?_
          rotate_left
          · (obtain ⟨y1, y2, y3, y4⟩ := hSW; go_simp; first | done | with_reducible rfl)
          try simp only [Act.put, List.setIfInBounds_toArray, List.set_cons_zero, List.set_cons_succ]
          refine wpAnyZ_takeT 55 #[true, true, true, true, false, false, false, false, false, false, false, false, false, false, false, false, false, false, false, false, false, false, false, false, false] (z := 24) (i := 3) (v := ?_) (oi := ⟨some 55, _, _, _, _, none⟩) (by kernel_rfl) rfl rfl rfl (by kernel_rfl) (by kernel_rfl) (by kernel_rfl) (by kernel_rfl) (by kernel_rfl) (fun _ _ _ h => h) (Or.inl ⟨by rfl, fun W hSW => ?_⟩) hH ?_
          rotate_left
          · (obtain ⟨y1, y2, y3, y4⟩ := hSW; go_simp; first | done | with_reducible rfl)
          try simp only [Act.put, List.setIfInBounds_toArray, List.set_cons_zero, List.set_cons_succ]
          refine wpAnyZ_takeT 56 #[true, true, true, true, true, false, false, false, false, false, false, false, false, false, false, false, false, false, false, false, false, false, false, false, false] (z := 24) (i := 4) (v := ?_) (oi := ⟨some 56, _, _, _, _, none⟩) (by kernel_rfl) rfl rfl rfl (by kernel_rfl) (by kernel_rfl) (by kernel_rfl) (by kernel_rfl) (by kernel_rfl) (fun _ _ _ h => h) (Or.inl ⟨by rfl, fun W hSW => ?_⟩) hH ?_
          rotate_left
          · (obtain ⟨y1, y2, y3, y4⟩ := hSW; go_simp; first | done | with_reducible rfl)
          try simp only [Act.put, List.setIfInBounds_toArray, List.set_cons_zero, List.set_cons_succ]
          refine wpAnyZ_takeT 57 #[true, true, true, true, true, true, false, false, false, false, false, false, false, false, false, false, false, false, false, false, false, false, false, false, false] (z := 24) (i := 5) (v := ?_) (oi := ⟨some 57, _, _, _, _, none⟩) (by kernel_rfl) rfl rfl rfl (by kernel_rfl) (by kernel_rfl) (by kernel_rfl) (by kernel_rfl) (by kernel_rfl) (fun _ _ _ h => h) (Or.inl ⟨by rfl, fun W hSW => ?_⟩) hH ?_
          rotate_left
          · (obtain ⟨y1, y2, y3, y4⟩ := hSW; go_simp; first | done | with_reducible rfl)
          try simp only [Act.put, List.setIfInBounds_toArray, List.set_cons_zero, List.set_cons_succ]
          refine wpAnyZ_takeT 58 #[true, true, true, true, true, true, true, false, false, false, false, false, false, false, false, false, false, false, false, false, false, false, false, false, false] (z := 24) (i := 6) (v := ?_) (oi := ⟨some 58, _, _, _, _, none⟩) (by kernel_rfl) rfl rfl rfl (by kernel_rfl) (by kernel_rfl) (by kernel_rfl) (by kernel_rfl) (by kernel_rfl) (fun _ _ _ h => h) (Or.inl ⟨by rfl, fun W hSW => ?_⟩) hH ?_
          rotate_left
          · (obtain ⟨y1, y2, y3, y4⟩ := hSW; go_simp; first | done | with_reducible rfl)
          try simp only [Act.put, List.setIfInBounds_toArray, List.set_cons_zero, List.set_cons_succ]
          refine wpAnyZ_takeT 59 #[true, true, true, true, true, true, true, true, false, false, false, false, false, false, false, false, false, false, false, false, false, false, false, false, false] (z := 24) (i := 7) (v := ?_) (oi := ⟨some 59, _, _, _, _, none⟩) (by kernel_rfl) rfl rfl rfl (by kernel_rfl) (by kernel_rfl) (by kernel_rfl) (by kernel_rfl) (by kernel_rfl) (fun _ _ _ h => h) (Or.inl ⟨by rfl, fun W hSW => ?_⟩) hH ?_
          rotate_left
          · (obtain ⟨y1, y2, y3, y4⟩ := hSW; go_simp; first | done | with_reducible rfl)
          try simp only [Act.put, List.setIfInBounds_toArray, List.set_cons_zero, List.set_cons_succ]
          refine wpAnyZ_takeT 60 #[true, true, true, true, true, true, true, true, true, false, false, false, false, false, false, false, false, false, false, false, false, false, false, false, false] (z := 24) (i := 8) (v := ?_) (oi := ⟨some 60, _, _, _, _, none⟩) (by kernel_rfl) rfl rfl rfl (by kernel_rfl) (by kernel_rfl) (by kernel_rfl) (by kernel_rfl) (by kernel_rfl) (fun _ _ _ h => h) (Or.inl ⟨by rfl, fun W hSW => ?_⟩) hH ?_
          rotate_left
          · (obtain ⟨y1, y2, y3, y4⟩ := hSW; go_simp; first | done | with_reducible rfl)
          try simp only [Act.put, List.setIfInBounds_toArray, List.set_cons_zero, List.set_cons_succ]
          refine wpAnyZ_takeT 61 #[true, true, true, true, true, true, true, true, true, true, false, false, false, false, false, false, false, false, false, false, false, false, false, false, false] (z := 24) (i := 9) (v := ?_) (oi := ⟨some 61, _, _, _, _, none⟩) (by kernel_rfl) rfl rfl rfl (by kernel_rfl) (by kernel_rfl) (by kernel_rfl) (by kernel_rfl) (by kernel_rfl) (fun _ _ _ h => h) (Or.inl ⟨by rfl, fun W hSW => ?_⟩) hH ?_
          rotate_left
          · (obtain ⟨y1, y2, y3, y4⟩ := hSW; go_simp; first | done | with_reducible rfl)
          try simp only [Act.put, List.setIfInBounds_toArray, List.set_cons_zero, List.set_cons_succ]
          refine wpAnyZ_takeT 62 #[true, true, true, true, true, true, true, true, true, true, true, false, false, false, false, false, false, false, false, false, false, false, false, false, false] (z := 24) (i := 10) (v := ?_) (oi := ⟨some 62, _, _, _, _, none⟩) (by kernel_rfl) rfl rfl rfl (by kernel_rfl) (by kernel_rfl) (by kernel_rfl) (by kernel_rfl) (by kernel_rfl) (fun _ _ _ h => h) (Or.inl ⟨by rfl, fun W hSW => ?_⟩) hH ?_
          rotate_left
          · (obtain ⟨y1, y2, y3, y4⟩ := hSW; go_simp; first | done | with_reducible rfl)
          try simp only [Act.put, List.setIfInBounds_toArray, List.set_cons_zero, List.set_cons_succ]
          refine wpAnyZ_takeT 63 #[true, true, true, true, true, true, true, true, true, true, true, true, false, false, false, false, false, false, false, false, false, false, false, false, false] (z := 24) (i := 11) (v := ?_) (oi := ⟨some 63, _, _, _, _, none⟩) (by kernel_rfl) rfl rfl rfl (by kernel_rfl) (by kernel_rfl) (by kernel_rfl) (by kernel_rfl) (by kernel_rfl) (fun _ _ _ h => h) (Or.inl ⟨by rfl, fun W hSW => ?_⟩) hH ?_
          rotate_left
          · (obtain ⟨y1, y2, y3, y4⟩ := hSW; go_simp; first | done | with_reducible rfl)
          try simp only [Act.put, List.setIfInBounds_toArray, List.set_cons_zero, List.set_cons_succ]
          refine wpAnyZ_takeT 64 #[true, true, true, true, true, true, true, true, true, true, true, true, true, false, false, false, false, false, false, false, false, false, false, false, false] (z := 24) (i := 12) (v := ?_) (oi := ⟨some 64, _, _, _, _, none⟩) (by kernel_rfl) rfl rfl rfl (by kernel_rfl) (by kernel_rfl) (by kernel_rfl) (by kernel_rfl) (by kernel_rfl) (fun _ _ _ h => h) (Or.inl ⟨by rfl, fun W hSW => ?_⟩) hH ?_
          rotate_left
          · (obtain ⟨y1, y2, y3, y4⟩ := hSW; go_simp; first | done | with_reducible rfl)
          try simp only [Act.put, List.setIfInBounds_toArray, List.set_cons_zero, List.set_cons_succ]
          refine wpAnyZ_takeT 65 #[true, true, true, true, true, true, true, true, true, true, true, true, true, true, false, false, false, false, false, false, false, false, false, false, false] (z := 24) (i := 13) (v := ?_) (oi := ⟨some 65, _, _, _, _, none⟩) (by kernel_rfl) rfl rfl rfl (by kernel_rfl) (by kernel_rfl) (by kernel_rfl) (by kernel_rfl) (by kernel_rfl) (fun _ _ _ h => h) (Or.inl ⟨by rfl, fun W hSW => ?_⟩) hH ?_
          rotate_left
          · (obtain ⟨y1, y2, y3, y4⟩ := hSW; go_simp; first | done | with_reducible rfl)
          try simp only [Act.put, List.setIfInBounds_toArray, List.set_cons_zero, List.set_cons_succ]
          refine wpAnyZ_takeT 67 #[true, true, true, true, true, true, true, true, true, true, true, true, true, true, false, true, false, false, false, false, false, false, false, false, false] (z := 24) (i := 15) (v := ?_) (oi := ⟨some 67, _, _, _, _, none⟩) (by kernel_rfl) rfl rfl rfl (by kernel_rfl) (by kernel_rfl) (by kernel_rfl) (by kernel_rfl) (by kernel_rfl) (fun _ _ _ h => h) (Or.inl ⟨by rfl, fun W hSW => ?_⟩) hH ?_
          rotate_left
          · (obtain ⟨y1, y2, y3, y4⟩ := hSW; go_simp; first | done | with_reducible rfl)
          try simp only [Act.put, List.setIfInBounds_toArray, List.set_cons_zero, List.set_cons_succ]
          refine wpAnyZ_takeT 68 #[true, true, true, true, true, true, true, true, true, true, true, true, true, true, false, true, true, false, false, false, false, false, false, false, false] (z := 24) (i := 16) (v := ?_) (oi := ⟨some 68, _, _, _, _, none⟩) (by kernel_rfl) rfl rfl rfl (by kernel_rfl) (by kernel_rfl) (by kernel_rfl) (by kernel_rfl) (by kernel_rfl) (fun _ _ _ h => h) (Or.inl ⟨by rfl, fun W hSW => ?_⟩) hH ?_
          rotate_left
          · (obtain ⟨y1, y2, y3, y4⟩ := hSW; go_simp; first | done | with_reducible rfl)
          try simp only [Act.put, List.setIfInBounds_toArray, List.set_cons_zero, List.set_cons_succ]
          refine wpAnyZ_takeT 69 #[true, true, true, true, true, true, true, true, true, true, true, true, true, true, false, true, true, true, false, false, false, false, false, false, false] (z := 24) (i := 17) (v := ?_) (oi := ⟨some 69, _, _, _, _, none⟩) (by kernel_rfl) rfl rfl rfl (by kernel_rfl) (by kernel_rfl) (by kernel_rfl) (by kernel_rfl) (by kernel_rfl) (fun _ _ _ h => h) (Or.inl ⟨by rfl, fun W hSW => ?_⟩) hH ?_
          rotate_left
          · (obtain ⟨y1, y2, y3, y4⟩ := hSW; go_simp; first | done | with_reducible rfl)
          try simp only [Act.put, List.setIfInBounds_toArray, List.set_cons_zero, List.set_cons_succ]
          refine wpAnyZ_takeT 70 #[true, true, true, true, true, true, true, true, true, true, true, true, true, true, false, true, true, true, true, false, false, false, false, false, false] (z := 24) (i := 18) (v := ?_) (oi := ⟨some 70, _, _, _, _, none⟩) (by kernel_rfl) rfl rfl rfl (by kernel_rfl) (by kernel_rfl) (by kernel_rfl) (by kernel_rfl) (by kernel_rfl) (fun _ _ _ h => h) (Or.inl ⟨by rfl, fun W hSW => ?_⟩) hH ?_
          rotate_left
          · (obtain ⟨y1, y2, y3, y4⟩ := hSW; go_simp; first | done | with_reducible rfl)
          try simp only [Act.put, List.setIfInBounds_toArray, List.set_cons_zero, List.set_cons_succ]
          refine wpAnyZ_oneT #[true, true, true, true, true, true, true, true, true, true, true, true, true, true, true, true, true, true, true, false, false, false, false, false, false] (z := 24) (i := 14) (o := ⟨some 66, _, _, _, _, none⟩) (by kernel_rfl) rfl (by kernel_rfl) (fun K hK => ?_)
          refine step_appS rfl _ (.tmp 65) 30 rfl 5 i0 Try.underlying30 hi0 hz0 hz1 hz2 (.slice none 0 0) [] rfl (World.ownsRow_nil _ _ _ _) (.slice a0 s0 cap0) (f.b.take s0) rfl (HBT.out _ ((Tch.alloc _ _).trans0 (Tch.drew _))) (by rw [hbl.out]; unfold lim; simp only [List.length_nil]; omega) (f.b.take s0) (by simp [Hid]) ?_
          intro a1 n1 cp1 w1 hA1 hn1
          have T1' : Tch No (wr.alloc (.cells #[.string nm, .slice a0 m0 cap0, .int .i64 (s0 : Int), .bool bn] 63)).drew w1 := Tch.grown hA1.grow (fun q hq _ => by simp [Value.ownBlock] at hq)
          have T1 : Tch No wr w1 := ((Tch.alloc _ _).trans0 (Tch.drew _)).trans0 T1'
          have hH1 := hH.tch T1'
          refine hK _ _ (fun _ => hH1) ?_
          clear hK K hH
          try simp only [Act.put, List.setIfInBounds_toArray, List.set_cons_zero, List.set_cons_succ]
          have hH := hH1
          clear hH1
          refine wpAnyZ_takeT 71 #[true, true, true, true, true, true, true, true, true, true, true, true, true, true, true, true, true, true, true, true, false, false, false, false, false] (z := 24) (i := 19) (v := ?_) (oi := ⟨some 71, _, _, _, _, none⟩) (by kernel_rfl) rfl rfl rfl (by kernel_rfl) (by kernel_rfl) (by kernel_rfl) (by kernel_rfl) (by kernel_rfl) (fun _ _ _ h => h) (Or.inl ⟨by rfl, fun W hSW => ?_⟩) hH ?_
          rotate_left
          · (obtain ⟨y1, y2, y3, y4⟩ := hSW; go_simp; first | done | with_reducible rfl)
          try simp only [Act.put, List.setIfInBounds_toArray, List.set_cons_zero, List.set_cons_succ]
          refine wpAnyZ_oneT #[true, true, true, true, true, true, true, true, true, true, true, true, true, true, true, true, true, true, true, true, true, false, false, false, false] (z := 24) (i := 20) (o := ⟨some 72, _, _, _, _, none⟩) (by kernel_rfl) rfl (by kernel_rfl) (fun K hK => ?_)
          rw [if_pos (by rfl)]
          go_simp
          have hH2 := hH.tch (Tch.alloc w1 (.cells #[.string nm, .slice a1 n1 cp1, .int .i64 (s0 : Int), .bool true] 63))
          refine hK _ _ (fun _ => hH2) ?_
          clear hK K hH
          try simp only [Act.put, List.setIfInBounds_toArray, List.set_cons_zero, List.set_cons_succ]
          refine wpAnyZ_oneT #[true, true, true, true, true, true, true, true, true, true, true, true, true, true, true, true, true, true, true, true, true, true, false, false, false] (z := 24) (i := 21) (o := ⟨some 73, _, _, _, _, none⟩) (by kernel_rfl) rfl (by kernel_rfl) (fun K hK => ?_)
          refine step_appF rfl _ (.tmp 72) rfl _ _ _ rfl (own_tch hR.out.ref.row (T1.trans0 (Tch.alloc _ _)) (fun _ _ h => h)) _ _ _ rfl (src_one w1 nm (.slice a1 n1 cp1) s0 true ⟨⟨f.name, f.b.take s0, s0, true⟩, .slice a1 n1 cp1⟩ (by simp only [rcs]; rw [HNM.out]) rfl) (by omega) ?_
          intro aF nF cpF wF hF
          have B2 := blk_tch (T1.trans0 (Tch.alloc w1 (.cells #[.string nm, .slice a1 n1 cp1, .int .i64 (s0 : Int), .bool true] 63))) hR.out.ref.disk (fun h => h)
          have j6 := hF.grow.cell hH2.1 (fun e => hR.out.ref.vne e.symm)
          have j7 := blk_free ((hF.grow.block ob (blk_lt B2) (fun e => hR.out.ref.vne e.symm)).trans B2) 1
          have hH3 : FS ob wr.heap.size (.slice aO mO cO) nm (.slice a0 m0 cap0) s0 wF := hH2.grown hF.grow (fun e => hR.out.ref.vne e.symm) (fun e => by have := (hR.out.ref.row.lt _ e.symm).2; omega)
          have T2 := Lib.hid T1
          have A2 := Lib.hid hA1
          have F2 := Lib.hid hF
          refine hK _ _ (fun _ => hH3) ?_
          clear hK K hH2 B2 T1 T1' hA1 hF
          try simp only [Act.put, List.setIfInBounds_toArray, List.set_cons_zero, List.set_cons_succ]
          have hH := hH3
          clear hH3
          refine wpAnyZ_takeT 74 #[true, true, true, true, true, true, true, true, true, true, true, true, true, true, true, true, true, true, true, true, true, true, true, false, false] (z := 24) (i := 22) (v := ?_) (oi := ⟨some 74, _, _, _, _, none⟩) (by kernel_rfl) rfl rfl rfl (by kernel_rfl) (by kernel_rfl) (by kernel_rfl) (by kernel_rfl) (by kernel_rfl) (fun _ _ _ h => h) (Or.inl ⟨by rfl, fun W hSW => ?_⟩) hH ?_
          rotate_left
          · (obtain ⟨y1, y2, y3, y4⟩ := hSW; go_simp; first | done | with_reducible rfl)
          try simp only [Act.put, List.setIfInBounds_toArray, List.set_cons_zero, List.set_cons_succ]
          refine wpAnyZ_takeT 75 #[true, true, true, true, true, true, true, true, true, true, true, true, true, true, true, true, true, true, true, true, true, true, true, true, false] (z := 24) (i := 23) (v := ?_) (oi := ⟨some 75, _, _, _, _, none⟩) (by kernel_rfl) rfl rfl rfl (by kernel_rfl) (by kernel_rfl) (by kernel_rfl) (by kernel_rfl) (by kernel_rfl) (fun _ _ _ h => h) (Or.inl ⟨by rfl, fun W hSW => ?_⟩) hH ?_
          rotate_left
          · (obtain ⟨y1, y2, y3, y4⟩ := hSW; go_simp; first | done | with_reducible rfl)
          try simp only [Act.put, List.setIfInBounds_toArray, List.set_cons_zero, List.set_cons_succ]
          clear hH
          refine wpAnyZ_oneT #[true, true, true, true, true, true, true, true, true, true, true, true, true, true, true, true, true, true, true, true, true, true, true, true, true] (z := 24) (i := 24) (o := ⟨none, _, _, _, _, none⟩) (by kernel_rfl) rfl (by kernel_rfl) (fun K hK => ?_)
          rw [if_pos (by rfl)]
          go_simp
          refine hK _ _ (fun h => absurd rfl h) ?_
          clear hK K
          try simp only [Act.put, List.setIfInBounds_toArray, List.set_cons_zero, List.set_cons_succ]
          refine wpAnyZ_done (by kernel_rfl) ?_ _
          go_wp2_with fail
          exact ⟨⟨k + 1, .slice aF nF cpF, Lo ++ [(⟨⟨f.name, f.b.take s0, s0, true⟩, .slice a1 n1 cp1⟩ : RE)], by omega, by go_num, rfall_keep hR.out HkM.out hND.out hSU.out hUS.out (by rw [HF.out]; exact HNL.out) HE.out (Nat.le_of_eq hbl.out.symm) (T2.out.trans0 (Tch.alloc _ _)) ((SlB.ofRow A2.out.own (by rw [hbl.out]; unfold lim; omega)).tch0 (Tch.alloc _ _)) (fun j hj => by
            rcases A2.out.loc with e | e
            · rw [e] at hj; simp [Value.ownBlock] at hj
            · rw [e] at hj; simp at hj; omega) F2.out⟩, by simp [intOf]; omega⟩

    · have hfin : Hid (mFall n ((L.map (·.f)).take k) = mFall n (L.map (·.f))) := by
        rw [Hid, List.take_of_length_le]; have := hm.out; simp; omega
      go_wp2
      go_ret
      rw [← hfin.out]
      exact ⟨ob, vo, Lo, rfl, hR.out.is, hR.out.ref, hR.out.fresh, hR.out.tch⟩
end Go.Proofs.Ytbhemlddncmmfaa
