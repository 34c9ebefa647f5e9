import Derived.Test.YtcjlgdldhcbcjaaFall0
import Derived.Test.YtcjlgdldhcbcjaaIn
namespace Go.Proofs.Ytcjlgdldhcbcjaa
open Go.RowKit Go.Maps
set_option linter.unusedVariables false
set_option linter.unusedSimpArgs false

theorem IsDisk.addE {w w' : World} {db mb room : Nat} {L : List FL} (h : IsDisk w db mb room L) {x : FL} (hn : x.f.name ∉ L.map (·.f.name)) (heb : w.heap.size ≤ x.eb) {nn : Nat} {D : Dt} (hM : MapIs D L) (hD : Maps.IsMap D)
    (he : w'.heap[x.eb]? = some (.cells #[x.v, .int .i64 x.f.sure, .bool x.f.named] 80 (0, 0))) (hv : SlB w' x.v x.f.b) (hvf : ∀ k, x.v.ownBlock = some k → ¬ DiskF db mb L k ∧ k ≠ x.eb)
    (hle : x.f.sure ≤ x.f.b.length) (hsz : mUsed ((L ++ [x]).map (·.f)) ≤ 1048576) (ht : Tch (fun k => k = mb) w w')
    (hm : w'.ownsMap Try.prog 9 ptrR mb nn (D.put (.string x.f.name) (.lit (.int .i64 x.eb)))) : IsDisk w' db mb room (L ++ [x]) := by
  have hlt := DiskF.lt h
  have hput := hM.put_new hD hn
  refine ⟨blk_tch ht h.disk h.dne.1, ⟨nn, _, hm, hput⟩, ?_, ?_, ?_, ⟨h.dne.1, ?_⟩, ?_, ?_, hsz, h.sz.2⟩
  · intro y hy
    simp only [List.mem_append, List.mem_singleton] at hy
    rcases hy with hy | rfl
    · exact blk_tch ht (h.ent y hy) (h.mbne y hy)
    · exact he
  · intro y hy
    simp only [List.mem_append, List.mem_singleton] at hy
    rcases hy with hy | rfl
    · exact (h.bts y hy).tch ht (fun k hk e => (h.vne y hy).1 (by rw [hk, e]))
    · exact hv
  · rw [List.map_append, List.nodup_append]
    refine ⟨h.ebs, by simp, fun a ha b hb => ?_⟩
    have hb' : b = x.eb := by simpa using hb
    obtain ⟨y, hy, rfl⟩ := List.mem_map.1 ha
    have := blk_lt (h.ent y hy)
    omega
  · intro y hy
    simp only [List.mem_append, List.mem_singleton] at hy
    rcases hy with hy | rfl
    · exact h.dne.2 y hy
    · have := blk_lt h.disk; omega
  · intro y hy
    simp only [List.mem_append, List.mem_singleton] at hy
    rcases hy with hy | rfl
    · refine ⟨(h.vne y hy).1, fun z hz => ?_⟩
      simp only [List.mem_append, List.mem_singleton] at hz
      rcases hz with hz | rfl
      · exact (h.vne y hy).2 z hz
      · intro e
        have := (h.bts y hy).blt _ e
        omega
    · refine ⟨fun e => ?_, fun z hz e => ?_⟩
      · exact (hvf _ e).1 (.inr (.inl rfl))
      · simp only [List.mem_append, List.mem_singleton] at hz
        rcases hz with hz | rfl
        · exact (hvf _ e).1 (.inr (.inr ⟨z, hz, .inl rfl⟩))
        · exact (hvf _ e).2 rfl
  · intro y hy
    simp only [List.mem_append, List.mem_singleton] at hy
    rcases hy with hy | rfl
    · exact h.le y hy
    · exact hle

theorem sum_perm {M M' : List FE} (h : M.Perm M') : mUsed M = mUsed M' := (h.map _).sum_nat
theorem used_fall {n : Int} : ∀ {M : List FE}, (∀ f ∈ M, f.sure ≤ f.b.length) → mUsed (M.filterMap (fallE n)) ≤ mUsed M
  | [], _ => Nat.le_refl _
  | f :: r, h => by
    have ih := used_fall (n := n) (M := r) (fun g hg => h g (List.mem_cons_of_mem _ hg))
    have hs := stays_le (n := n) (h f List.mem_cons_self)
    rw [List.filterMap_cons]
    cases hb : fallE n f with
    | none => simp only [mUsed, List.map_cons, List.sum_cons] at ih ⊢; omega
    | some g =>
      have hg : g.b.length ≤ f.b.length := by
        unfold fallE at hb
        split at hb
        · cases hb; simp; omega
        · cases hb
      simp only [mUsed, List.map_cons, List.sum_cons] at ih ⊢
      omega
theorem used_filter (p : FE → Bool) : ∀ M : List FE, mUsed (M.filter p) ≤ mUsed M := sum_filter_le p

theorem perm_lift {α β : Type} (f : α → β) {l' m : List β} (h : l'.Perm m) : ∀ l : List α, l.map f = l' → ∃ l2, l.Perm l2 ∧ l2.map f = m := by
  induction h with
  | nil => intro l hl; exact ⟨l, List.Perm.refl _, hl⟩
  | cons x _ ih =>
    intro l hl
    cases l with
    | nil => cases hl
    | cons a t =>
      simp only [List.map_cons, List.cons.injEq] at hl
      obtain ⟨t2, h1, h2⟩ := ih t hl.2
      exact ⟨a :: t2, h1.cons a, by rw [List.map_cons, hl.1, h2]⟩
  | swap x y s =>
    intro l hl
    cases l with
    | nil => cases hl
    | cons a t =>
      cases t with
      | nil => simp at hl
      | cons b t =>
        simp only [List.map_cons, List.cons.injEq] at hl
        exact ⟨b :: a :: t, List.Perm.swap _ _ _, by simp [hl.1, hl.2.1, hl.2.2]⟩
  | trans _ _ ih1 ih2 =>
    intro l hl
    obtain ⟨l2, h1, h2⟩ := ih1 l hl
    obtain ⟨l3, h3, h4⟩ := ih2 l2 h2
    exact ⟨l3, h1.trans h3, h4⟩

theorem filter_step {M : List FE} {left : Lit → Bool} {u : FE} (hn : (names M).Nodup) (hu : u ∈ M) (hl : left (.string u.name) = true) :
    (M.filter fun x => !(left (.string x.name) && !(Lit.string x.name).sameKey (.string u.name))).Perm ((M.filter fun x => !left (.string x.name)) ++ [u]) := by
  induction M with
  | nil => cases hu
  | cons y r ih =>
    simp only [names, List.map_cons, List.nodup_cons] at hn
    simp only [List.mem_cons] at hu
    rcases hu with rfl | hu
    · have h1 : (r.filter fun x => !(left (.string x.name) && !(Lit.string x.name).sameKey (.string u.name))) = r.filter fun x => !left (.string x.name) := by
        refine List.filter_congr fun x hx => ?_
        have hne : x.name ≠ u.name := fun e => hn.1 (by rw [← e]; exact List.mem_map_of_mem (f := fun x : FE => x.name) hx)
        rw [sameKey_ne (key_ne hne)]; simp
      rw [List.filter_cons, List.filter_cons, h1, hl]
      have h2 : (Lit.string u.name).sameKey (.string u.name) = true := by simp [Lit.sameKey]
      rw [h2]
      simp only [Bool.not_true, Bool.and_false, Bool.not_false, if_true, Bool.false_eq_true, if_false]
      exact (List.perm_append_singleton _ _).symm
    · have hne : y.name ≠ u.name := fun e => hn.1 (by rw [e]; exact List.mem_map_of_mem (f := fun x : FE => x.name) hu)
      have hi := ih hn.2 hu
      rw [List.filter_cons, List.filter_cons, sameKey_ne (key_ne hne)]
      simp only [Bool.not_false, Bool.and_true]
      split
      · exact hi.cons y
      · exact hi

def FallPost (room : Nat) (M : List FE) (w : World) (e : Ending) (w' : World) : Prop :=
  ∃ db mb L, e = .returned (.pointer (some ⟨db, 0, none⟩)) ∧ L.map (·.f) = M ∧ IsDisk w' db mb room L ∧ (∀ k, DiskF db mb L k → w.heap.size ≤ k) ∧ Tch No w w'

/-- The state of the loop. -/
structure FallRel (w : World) (mb r nn : Nat) (D : Dt) (L : List FL) (n : Int) (room db2 mb2 : Nat) (left : Lit → Bool) (cnt : Nat) (Lo : List FL) (wr : World) : Prop where
  rg : wr.ranges Try.prog 9 ptrR mb r nn D left cnt
  out : IsDisk wr db2 mb2 room Lo
  perm : (Lo.map (·.f)).Perm (((L.map (·.f)).filter fun x => !left (.string x.name)).filterMap (fallE n))
  fresh : ∀ k, DiskF db2 mb2 Lo k → w.heap.size ≤ k
  nr : ¬ DiskF db2 mb2 Lo r
  tch : Tch No w wr

theorem fall_nil (n : Int) (w : World) : Calls Try.prog 33 #[.pointer none, .int .i64 n] w fun e w' => e = .returned (.pointer none) ∧ w = w' := by
  go_enter Try.func33, Try.ntmps33
  go_wp2
  go_ret
  exact ⟨rfl, rfl⟩

def mkK (x : Key) : Value := .string ⟨x.toArray⟩
def mkV (o : Option Nat) : Value := .pointer (o.map fun b => ⟨b, 0, none⟩)
theorem invK : ∀ key kl, keyOf Try.prog 9 key = some kl → ∃ x, key = mkK x := fun key kl h => by
  obtain ⟨x, hx, _⟩ := Maps.keyOf_str Try.underlying9 h
  exact ⟨x, hx⟩
theorem invV : ∀ v y, ptrR v = some y → ∃ c, v = mkV c := fun v y h => by
  unfold ptrR at h
  split at h
  · rename_i b; exact ⟨some b, rfl⟩
  · exact ⟨none, rfl⟩
  · cases h

/-- What a step of the range leaves. -/
structure NextPost (wr : World) (b r nn : Nat) (D : Dt) (left : Lit → Bool) (cnt : Nat) (x : Key) (c : Option Nat) (w' : World) (cnt' : Nat) : Prop where
  hl : left (.string x) = true
  hx : x.length ≤ maxLen
  at' : ∃ y, ptrR (mkV c) = some y ∧ ∀ zd, D.atKey (.string x) zd = y.1
  rg : w'.ranges Try.prog 9 ptrR b r nn D (fun z => left z && !z.sameKey (.string x)) cnt'
  lt : cnt' < cnt
  gr : wr.grownBy w' (some r)
  sz : w'.heap.size = wr.heap.size
  en : (Instr.entry (.pointer (some ⟨r, 0, none⟩))).run Try.prog w' = .ok (.tuple #[.string ⟨x.toArray⟩, .pointer (c.map fun b => ⟨b, 0, none⟩)]) w'
def NextDone (left : Lit → Bool) (cnt : Nat) : Prop := cnt = 0 ∧ ∀ kl, left kl = false

theorem wpList_next_disk (w : World) {ops : Array Oper} {rest : List Oper} {o : Oper} {a : Act} {Q : Exit → Act → World → Prop} (hg : o.guard = none) (it : Operand) (hop : o.op = Op.next it false)
    (b r nn : Nat) (D : Dt) (left : Lit → Bool) (cnt : Nat) (hit : a.eval it = .pointer (some ⟨r, 0, none⟩)) (h : w.ranges Try.prog 9 ptrR b r nn D left cnt)
    (hDone : NextDone left cnt → wpList Try.prog ops Q rest (a.put o.dst (.tuple #[.bool false])) w)
    (hMore : ∀ (x : Key) (c : Option Nat) (w' : World) (cnt' : Nat), NextPost w b r nn D left cnt x c w' cnt' → wpList Try.prog ops Q rest (a.put o.dst (.tuple #[.bool true, .string ⟨x.toArray⟩, .pointer (c.map fun b => ⟨b, 0, none⟩)])) w') :
    wpList Try.prog ops Q (o :: rest) a w :=
  wpList_next_ranges w hg it hop 9 lawS ptrR mkK mkV invK invV b r nn D left cnt hit h (fun h1 h2 => hDone ⟨h1, h2⟩) fun x c kl y w' cnt' hkey hl hR hat hrg hlt hgr hsz hen => by
    obtain ⟨x', hx', rfl, hxl⟩ := Maps.keyOf_str Try.underlying9 hkey
    have e : x = x' := encStr_inj hx'
    subst e
    exact hMore x c w' cnt' ⟨hl, hxl, ⟨y, hR, hat⟩, hrg, hlt, hgr, hsz, hen⟩

theorem NextPost.tch {wr : World} {b r nn : Nat} {D : Dt} {left : Lit → Bool} {cnt : Nat} {x : Key} {c : Option Nat} {w' : World} {cnt' : Nat} (h : NextPost wr b r nn D left cnt x c w' cnt') : Tch (fun k => k = r) wr w' :=
  Tch.grown h.gr (fun k hk _ => by injection hk with hk; exact hk.symm)

/-- Nothing stays of a file. -/
theorem fall_skip {w : World} {mb r nn : Nat} {D : Dt} {L : List FL} {n : Int} {room db2 mb2 : Nat} {left : Lit → Bool} {cnt : Nat} {Lo : List FL} {wr w3 : World} {u : FL} {c : Option Nat} {cnt3 : Nat}
    (hR : FallRel w mb r nn D L n room db2 mb2 left cnt Lo wr) (hM : MapIs D L) (hu : u ∈ L) (hN : NextPost wr mb r nn D left cnt u.f.name c w3 cnt3) (hr : w.heap.size ≤ r) (hs : fallE n u.f = none) :
    FallRel w mb r nn D L n room db2 mb2 (fun z => left z && !z.sameKey (.string u.f.name)) cnt3 Lo w3 := by
  refine ⟨hN.rg, hR.out.tch hN.tch (fun k hk e => hR.nr (by rw [e] at hk; exact hk)), ?_, hR.fresh, hR.nr, hR.tch.fresh hN.tch (fun k hk => by omega)⟩
  have hn : (names (L.map (·.f))).Nodup := by unfold names; rw [List.map_map]; exact hM.nodup
  have := (filter_step hn (List.mem_map_of_mem (f := fun x : FL => x.f) hu) hN.hl).filterMap (fallE n)
  rw [List.filterMap_append] at this
  refine hR.perm.trans ?_
  simpa [hs] using this.symm

theorem FallRel.drewN {w : World} {mb r nn : Nat} {D : Dt} {L : List FL} {n : Int} {room db2 mb2 : Nat} {left : Lit → Bool} {cnt : Nat} {Lo : List FL} {wr : World} (h : FallRel w mb r nn D L n room db2 mb2 left cnt Lo wr) (q : Nat) :
    FallRel w mb r nn D L n room db2 mb2 left cnt Lo (wr.drewN q) :=
  have ht : Tch No wr (wr.drewN q) := ⟨rfl, rfl, rfl, Nat.le_refl _, fun _ _ _ => rfl⟩
  ⟨h.rg, h.out.tch0 ht, h.perm, h.fresh, h.nr, h.tch.trans0 ht⟩

/-- A file stays. -/
theorem fall_keep {w : World} {mb r nn : Nat} {D : Dt} {L : List FL} {n : Int} {room db2 mb2 : Nat} {left : Lit → Bool} {cnt : Nat} {Lo : List FL} {wr w3 w4 w5 : World} {u : FL} {c : Option Nat} {cnt3 : Nat} {v : Value} {nn2 : Nat} {D2 : Dt} {st : Nat}
    (hR : FallRel w mb r nn D L n room db2 mb2 left cnt Lo wr) (hM : MapIs D L) (hu : u ∈ L) (hN : NextPost wr mb r nn D left cnt u.f.name c w3 cnt3) (hr : w.heap.size ≤ r) (hs : fallE n u.f = some ⟨u.f.name, u.f.b.take st, st, true⟩) (hst : st ≤ u.f.b.length)
    (hsrc : ∀ f ∈ L.map (·.f), f.sure ≤ f.b.length) (hus : mUsed (L.map (·.f)) ≤ 1048576) (hmb : mb < w.heap.size)
    (hv : SlB w4 v (u.f.b.take st)) (hvf : ∀ k, v.ownBlock = some k → w3.heap.size ≤ k) (h4 : Tch No w3 w4) (hM2 : MapIs D2 Lo) (hD2 : Maps.IsMap D2)
    (hm : w5.ownsMap Try.prog 9 ptrR mb2 nn2 (D2.put (.string u.f.name) (.lit (.int .i64 w4.heap.size)))) (hg : (w4.alloc (.cells #[v, .int .i64 st, .bool true] 80)).grownBy w5 (some mb2)) :
    FallRel w mb r nn D L n room db2 mb2 (fun z => left z && !z.sameKey (.string u.f.name)) cnt3 (Lo ++ [⟨⟨u.f.name, u.f.b.take st, st, true⟩, w4.heap.size, v⟩]) w5 := by
  have hn : (names (L.map (·.f))).Nodup := by unfold names; rw [List.map_map]; exact hM.nodup
  have h3 : Tch No w w3 := hR.tch.fresh hN.tch (fun k hk => by omega)
  have hO3 : IsDisk w3 db2 mb2 room Lo := hR.out.tch hN.tch (fun k hk e => hR.nr (by rw [e] at hk; exact hk))
  have hO4 := hO3.tch0 h4
  have hlt := DiskF.lt hO4
  have hmb2 : mb2 < w4.heap.size := hlt mb2 (.inr (.inl rfl))
  have hfm := hR.fresh mb2 (.inr (.inl rfl))
  have hT5 : Tch (fun k => k = mb2) w4 w5 := ((Tch.alloc w4 _).no (F := fun k => k = mb2)).trans (tch_map hg) (fun _ _ h => h)
  have hstep := (filter_step hn (List.mem_map_of_mem (f := fun x : FL => x.f) hu) hN.hl).filterMap (fallE n)
  rw [List.filterMap_append] at hstep
  have hperm : ((Lo ++ [(⟨⟨u.f.name, u.f.b.take st, st, true⟩, w4.heap.size, v⟩ : FL)]).map (·.f)).Perm (((L.map (·.f)).filter fun x => !(left (.string x.name) && !(Lit.string x.name).sameKey (.string u.f.name))).filterMap (fallE n)) := by
    rw [List.map_append]
    refine (hR.perm.append_right _).trans ?_
    have e : [u.f].filterMap (fallE n) = [(⟨⟨u.f.name, u.f.b.take st, st, true⟩, w4.heap.size, v⟩ : FL)].map (·.f) := by simp [hs]
    rw [← e]
    exact hstep.symm
  have hrlt : r < w3.heap.size := hN.rg.lt
  refine ⟨?_, ?_, hperm, ?_, ?_, ?_⟩
  · have g4 : w3.grownBy w4 none := ⟨h4.os, h4.tape, h4.output, h4.size, fun k hk _ => h4.block k hk (fun h => h)⟩
    exact ((hN.rg.kept g4 (by simp) (by simp)).alloc _).kept hg (by simp; omega) (fun e => by injection e with e; exact hR.nr (by rw [e]; exact .inr (.inl rfl)))
  · refine hO4.addE (x := ⟨⟨u.f.name, u.f.b.take st, st, true⟩, w4.heap.size, v⟩) ?_ (Nat.le_refl _) hM2 hD2 ?_ (hv.tch hT5 (fun k hk e => ?_)) (fun k hk => ?_) ?_ ?_ hT5 hm
    · intro hin
      have h1 : u.f.name ∈ ((Lo.map (·.f)).map (·.name)) := by rw [List.map_map]; exact hin
      have h2 := (hR.perm.map (·.name)).mem_iff.1 h1
      obtain ⟨g, hg1, hg2⟩ := List.mem_map.1 h2
      obtain ⟨f, hf1, hf2⟩ := List.mem_filterMap.1 hg1
      have hfl := (List.mem_filter.1 hf1).2
      have : g.name = f.name := by
        unfold fallE at hf2
        split at hf2
        · cases hf2; rfl
        · cases hf2
      rw [← this, hg2, hN.hl] at hfl
      cases hfl
    · have := hg.block w4.heap.size (by simp) (by simp; omega)
      rw [this]; exact blk_new w4 _
    · have h1 := hvf k hk
      have h2 := DiskF.lt hO3 mb2 (.inr (.inl rfl))
      have e' : k = mb2 := e
      omega
    · refine ⟨fun hd => ?_, fun e => ?_⟩
      · have h1 := hvf k hk
        have h2 := DiskF.lt hO3 k hd
        omega
      · have := hv.blt k hk; have e' : k = w4.heap.size := e; omega
    · show st ≤ (u.f.b.take st).length
      rw [List.length_take, Nat.min_eq_left hst]; exact Nat.le_refl _
    · rw [sum_perm hperm]
      exact Nat.le_trans (used_fall (fun f hf => hsrc f (List.mem_filter.1 hf).1)) (Nat.le_trans (used_filter _ _) hus)
  · rintro k (rfl | rfl | ⟨y, hy, hk⟩)
    · exact hR.fresh _ (.inl rfl)
    · exact hfm
    · simp only [List.mem_append, List.mem_singleton] at hy
      have := h3.size
      have := h4.size
      rcases hy with hy | rfl
      · exact hR.fresh k (.inr (.inr ⟨y, hy, hk⟩))
      · rcases hk with rfl | hk
        · show w.heap.size ≤ w4.heap.size; omega
        · have := hvf k hk; omega
  · rintro (h | h | ⟨y, hy, hk⟩)
    · exact hR.nr (.inl h)
    · exact hR.nr (.inr (.inl h))
    · simp only [List.mem_append, List.mem_singleton] at hy
      have := h4.size
      rcases hy with hy | rfl
      · exact hR.nr (.inr (.inr ⟨y, hy, hk⟩))
      · rcases hk with hk | hk
        · have e' : r = w4.heap.size := hk
          omega
        · have := hvf r hk; omega
  · exact (h3.trans0 h4).fresh hT5 (fun k e => by have e' : k = mb2 := e; omega)

set_option maxRecDepth 100000 in
set_option maxHeartbeats 4000000 in
theorem fall_any (db mb room : Nat) (L : List FL) (n : Int) (w : World) (h : IsDisk w db mb room L) (hcnt : L.length ≤ 999999) (hn1 : -9223372036854775808 ≤ n) (hn2 : n ≤ 9223372036854775807) :
    Calls Try.prog 33 #[.pointer (some ⟨db, 0, none⟩), .int .i64 n] w (FallPost room (mFall n (L.map (·.f))) w) := by
  have c0 := h.cell0
  have H := Lib.hid h
  have hr : roomOf (room : Int) = room := by have := h.sz.2; unfold roomOf; omega
  have hnew := Lib.hid (new_any (room : Int) w)
  rw [hr] at hnew
  obtain ⟨nn, D, hown, hM⟩ := h.map
  have HM := Lib.hid hM
  have HO := Lib.hid hown
  clear h hr hM hown
  go_enter Try.func33, Try.ntmps33
  go_wp2_with (first
    | (go_at_call 23; go_must (refine hnew.out.mono ?_); rintro e w1 ⟨db2, mb2, rfl, q1, q2, q3, q4⟩; have Q1 := Lib.hid q1; clear q1; have c1 := q4.cell H.out.cell1 (fun h => h); have HO1 := own_map_tch HO.out q4 (fun h => h))
    | (at_range; go_must (refine wpList_range_own _ rfl _ 68 rfl 9 77 lawS Try.underlying68 ptrR mb nn D rfl HO1 ?_); intro w2 hrg2 hg2 hs2))
  go_frame
  have R0 : Hid (FallRel w mb w1.heap.size nn D L n room db2 mb2 (Maps.has D) (Maps.size D) [] w2) := by
    have t2 : Tch No w1 w2 := Tch.grown hg2 (fun k hk _ => by cases hk)
    have hf : ∀ k, DiskF db2 mb2 [] k → k = db2 ∨ k = mb2 := by
      rintro k (rfl | rfl | ⟨x, hx, _⟩)
      · exact .inl rfl
      · exact .inr rfl
      · simp at hx
    have hlt := DiskF.lt Q1.out
    refine ⟨hrg2, Q1.out.tch0 t2, ?_, ?_, ?_, q4.trans0 t2⟩
    · have : ((L.map (·.f)).filter fun x => !Maps.has D (.string x.name)) = [] := by
        rw [List.filter_eq_nil_iff]
        intro x hx
        obtain ⟨y, hy, rfl⟩ := List.mem_map.1 hx
        have := (HM.out.has y.f.name).2 (List.mem_map_of_mem (f := fun x : FL => x.f.name) hy)
        simp [this]
      rw [this]; exact List.Perm.refl _
    · intro k hk
      rcases hf k hk with rfl | rfl <;> omega
    · intro hk
      have := hlt _ hk
      omega
  clear hrg2 hg2 hs2 c0 c1 HO1
  go_loopw [6] (fun _ wr => ∃ left cnt Lo, Hid (FallRel w mb w1.heap.size nn D L n room db2 mb2 left cnt Lo wr)) (fun _ wr => wr.rangeLeft mb w1.heap.size)
  case atStart => exact ⟨_, _, _, R0⟩
  case round =>
    obtain ⟨left, cnt, Lo, hR⟩ := hrel
    have hrg := hR.out.rg
    go_wp2_with (at_next; go_must (refine wpList_next_disk _ rfl _ rfl mb w1.heap.size nn D left cnt rfl hrg ?_ ?_))
    · rintro ⟨hc0, hl0⟩
      have HL0 := Lib.hid hl0
      clear hl0 hc0
      go_wp2
      go_ret
      have hall : ((L.map (·.f)).filter fun x => !left (.string x.name)) = L.map (·.f) := by
        rw [List.filter_eq_self]; intro x _; rw [HL0.out]; rfl
      have hp := hR.out.perm
      rw [hall] at hp
      obtain ⟨Lo', hL1, hL2⟩ : ∃ Lo', Lo.Perm Lo' ∧ Lo'.map (·.f) = mFall n (L.map (·.f)) := perm_lift _ hp Lo rfl
      exact ⟨db2, mb2, Lo', rfl, hL2, hR.out.out.perm hL1, fun k hk => hR.out.fresh k (permF hL1 k hk), hR.out.tch⟩
    · intro x c w3 cnt3 hN
      have hhas : Maps.has D (.string x) = true := by
        obtain ⟨y, _, hat⟩ := hN.at'
        exact has_true_of_atKey hat
      obtain ⟨u, hu, hux⟩ := List.mem_map.1 ((HM.out.has x).1 hhas)
      have hux' : u.f.name = x := hux
      subst hux'
      have hce : c = some u.eb := by
        obtain ⟨y, hRv, hat⟩ := hN.at'
        have h1 := HM.out.at' u hu .nil
        rw [hat .nil] at h1
        have h3 := ptrR_lit (v := mkV c) (b := u.eb) (ps := y.2) (by rw [hRv, ← h1])
        cases c with
        | none => simp [mkV] at h3
        | some b => simp [mkV] at h3; rw [h3]
      subst hce
      have hT3 : Tch No w w3 := by
        refine hR.out.tch.fresh (Tch.grown hN.gr (F := fun k => k = w1.heap.size) (fun k hk _ => by injection hk with hk; exact hk.symm)) (fun k hk => ?_)
        have e : k = w1.heap.size := hk
        have := q4.size
        omega
      have HS := Lib.hid (H.out.tch0 hT3)
      have hO3 := Lib.hid (hR.out.out.tch (Tch.grown hN.gr (F := fun k => k = w1.heap.size) (fun k hk _ => by injection hk with hk; exact hk.symm)) (fun k hk e => hR.out.nr (by rw [e] at hk; exact hk)))
      have hen := hN.en
      simp only [Option.map_some] at hen ⊢
      have e0 := HS.out.ent0 hu
      have e1 := HS.out.ent1 hu
      have e2 := HS.out.ent2 hu
      have o1 := hO3.out.cell1
      obtain ⟨a0, m0, cap0, hv0, hm0⟩ := (HS.out.bts u hu).shape'
      rw [hv0] at e0
      have hle := Lib.hid (HS.out.le u hu)
      have hb := Lib.hid (HS.out.bts u hu)
      have hst := Lib.hid (stays_le (n := n) (HS.out.le u hu))
      have hmu : u.f.b.length ≤ 1048576 := Nat.le_trans (used_ge hu) H.out.sz.1
      obtain ⟨s0, hs0⟩ : ∃ s0, u.f.sure = s0 := ⟨_, rfl⟩
      have hsm : s0 ≤ m0 := by rw [← hs0, hm0.out]; exact hle.out
      have hm1 : m0 ≤ 1048576 := by rw [hm0.out]; exact hmu
      have E1 : IntKind.i64.wrap ((m0 : Int) - (s0 : Int)) = (m0 : Int) - (s0 : Int) := IntWalk.i64_in _ ⟨by omega, by omega⟩
      have E2 : IntKind.i64.wrap ((m0 : Int) - (s0 : Int) + 1) = (m0 : Int) - (s0 : Int) + 1 := IntWalk.i64_in _ ⟨by omega, by omega⟩
      rw [hs0] at e1
      have HV0 := Lib.hid hv0
      have HS0 := Lib.hid hs0
      clear hux hv0 hmu hs0
      have hrw : w.heap.size ≤ w1.heap.size := q4.size
      obtain ⟨st, hstv⟩ : ∃ st, Hid (stays n u.f = st) := ⟨_, rfl⟩
      have hstl : st ≤ m0 := by rw [← hstv.out, hm0.out]; exact hst.out
      have HB := Lib.hid (hb.out.tch0 (Tch.drew w3))
      have hbt : Hid (SlB w3.drew (.slice a0 st cap0) (u.f.b.take st)) := by
        have := HB.out
        rw [HV0.out] at this
        exact this.take st (by rw [← hm0.out]; exact hstl)
      obtain ⟨nn2, D2, hown2, hM2⟩ := hO3.out.map
      have HO2 := Lib.hid (tight hown2)
      have HM2 := Lib.hid hM2
      have hln : Lo.length ≤ 999999 := by
        have := hR.out.perm.length_eq
        have h2 := List.length_filterMap_le (fallE n) ((L.map (·.f)).filter fun x => !left (.string x.name))
        have h3 := List.length_filter_le (fun x : FE => !left (.string x.name)) (L.map (·.f))
        simp only [List.length_map] at this h2 h3
        omega
      have hsz2 : Maps.size D2 < maxLen := by rw [HM2.out.size hown2]; simp only [maxLen]; omega
      have hkey := Go.WideMaps.keyOf_string_mk (s := ⟨u.f.name.toArray⟩) Try.underlying9 (by have := hN.hx; simpa [ByteArray.size] using this)
      have HKY := Lib.hid hkey
      have hdst : Hid (∀ (W W' : World) (ar : Option Addr) (mr capr : Nat), SlB W (.slice ar mr capr) (u.f.b.take st) → (∀ k, (Value.slice ar mr capr).ownBlock = some k → w3.heap.size ≤ k) → Tch No w3.drew W →
          W'.ownsMap Try.prog 9 ptrR mb2 (Maps.size D2 + 1) (D2.put (.string u.f.name) (.lit (.int .i64 W.heap.size))) → (W.alloc (.cells #[.slice ar mr capr, .int .i64 st, .bool true] 80)).grownBy W' (some mb2) →
          0 < st ∨ u.f.named = true → Hid (∃ left cnt Lo, Hid (FallRel w mb w1.heap.size nn D L n room db2 mb2 left cnt Lo W')) ∧ W'.rangeLeft mb w1.heap.size < wr.rangeLeft mb w1.heap.size) := by
        intro W W' ar mr capr q1 q2 q3 q4 q5 q6
        have hF := fall_keep hR.out HM.out hu hN hrw (st := st) (by rw [fallE, hstv.out, if_pos q6]) (by rw [← hm0.out]; exact hstl) (fun f hf => by obtain ⟨y, hy, rfl⟩ := List.mem_map.1 hf; exact H.out.le y hy) H.out.sz.1 HO.out.lt q1 q2 ((Tch.drew w3).trans0 q3) HM2.out hown2.isMap q4 q5
        exact ⟨⟨_, _, _, hF⟩, by rw [hF.rg.left_eq, hrg.left_eq]; exact hN.lt⟩
      have hskip : Hid (¬ (0 < st ∨ u.f.named = true) → Hid (∃ left cnt Lo, Hid (FallRel w mb w1.heap.size nn D L n room db2 mb2 left cnt Lo w3)) ∧ w3.rangeLeft mb w1.heap.size < wr.rangeLeft mb w1.heap.size) := by
        intro q6
        have hF := fall_skip hR.out HM.out hu hN hrw (by rw [fallE, hstv.out, if_neg q6])
        exact ⟨⟨_, _, _, hF⟩, by rw [hF.rg.left_eq, hrg.left_eq]; exact hN.lt⟩
      clear hM2 hown2 hkey hrg hln
      have s1 : (0 : Int) ≤ (st : Int) := by omega
      have s2 : (st : Int) ≤ (m0 : Int) := by omega
      have hmc : m0 ≤ cap0 := by
        obtain ⟨a', c', e, h1, h2⟩ := hb.out.shape
        rw [HV0.out] at e; injection e with e1 e2 e3; rw [e2, e3]; exact h1
      have s3 : (st : Int) ≤ (cap0 : Int) := by omega
      have hne2 : ¬ u.eb = mb2 := fun e => by
        have h1 := blk_lt (H.out.ent u hu)
        have h2 := hR.out.fresh mb2 (.inr (.inl rfl))
        omega
      clear hb hst
      have E3 : Hid (0 < n → wrap64 ((s0 : Int) + n % ((m0 : Int) - (s0 : Int) + 1)) = (st : Int)) := by
        intro hp
        have h1 : 0 ≤ n % ((m0 : Int) - (s0 : Int) + 1) := Int.emod_nonneg _ (by omega)
        have h2 : n % ((m0 : Int) - (s0 : Int) + 1) < (m0 : Int) - (s0 : Int) + 1 := Int.emod_lt_of_pos _ (by omega)
        have h3 := hstv.out
        unfold stays at h3
        rw [if_pos hp, HS0.out, ← hm0.out, Nat.mul_one] at h3
        rw [IntWalk.wrap64_in _ ⟨by omega, by omega⟩]
        omega
      have E4 : Hid (¬ 0 < n → s0 = st) := by
        intro hp
        have h3 := hstv.out
        unfold stays at h3
        rw [if_neg hp, HS0.out] at h3
        simpa using h3
      rcases Decidable.em (0 < n) with hp | hp
      · go_wp2_with fail
        go_quiet (fail)
        rw [E3.out hp]
        by_cases hk : 0 < st
        · have hk' : (0 : Int) < (st : Int) := by omega
          go_wp2_with fail
          go_region_held3 (fun W => W.cell? ⟨db2, 1, none⟩ = some (.map (some mb2)) ∧ W.cell? ⟨u.eb, 0, none⟩ = some (.slice a0 m0 cap0))
            (first | go_keep)
            ((first | (go_at_call 46; refine (clone_any a0 st cap0 (u.f.b.take st) _ (by exact hbt.out)).mono ?_; rintro e w4 ⟨vr, rfl, r1, r2, r3⟩; have r3' : Tch No w3.drew w4 := ⟨r3.os, r3.tape, r3.output, r3.size, r3.block⟩; clear r3; have R1 := Lib.hid r1; clear r1; obtain ⟨ar, mr, capr, hvr, hmr⟩ := R1.out.shape'; subst hvr; have T34 := (Tch.drew w3).trans0 r3'; have j1 := T34.cell o1 (fun h => h); have j2 := T34.cell e0 (fun h => h); obtain ⟨w5, hrun5, hown5, hg5⟩ := ((own_map_tch HO2.out T34 (fun h => h)).alloc (.cells #[.slice ar mr capr, .int .i64 st, .bool true] 80)).update lawS Try.underlying68 hsz2 HKY.out (ptrR_some w4.heap.size); have T5 := tch_map hg5; have k1 := T5.cell (cal j1 _) hO3.out.dne.1; have k2 := T5.cell (cal j2 _) hne2)))
          go_wp2
          have hfin := hdst.out w4 w5 ar mr capr R1.out r2 r3' hown5 hg5 (.inl hk)
          exact ⟨hfin.1.out, hfin.2⟩
        · have hk' : ¬ (0 : Int) < (st : Int) := by omega
          cases hnm : u.f.named
          · rw [hnm] at e2
            go_wp2
            obtain ⟨⟨lf, ct, lo, hF⟩, hlt⟩ := hskip.out (by simp only [hk, hnm]; simp)
            exact ⟨⟨lf, ct, lo, hF.out.drewN _⟩, hlt⟩
          · rw [hnm] at e2
            go_wp2_with fail
            go_region_held3 (fun W => W.cell? ⟨db2, 1, none⟩ = some (.map (some mb2)) ∧ W.cell? ⟨u.eb, 0, none⟩ = some (.slice a0 m0 cap0))
              (first | go_keep)
              ((first | (go_at_call 46; refine (clone_any a0 st cap0 (u.f.b.take st) _ (by exact hbt.out)).mono ?_; rintro e w4 ⟨vr, rfl, r1, r2, r3⟩; have r3' : Tch No w3.drew w4 := ⟨r3.os, r3.tape, r3.output, r3.size, r3.block⟩; clear r3; have R1 := Lib.hid r1; clear r1; obtain ⟨ar, mr, capr, hvr, hmr⟩ := R1.out.shape'; subst hvr; have T34 := (Tch.drew w3).trans0 r3'; have j1 := T34.cell o1 (fun h => h); have j2 := T34.cell e0 (fun h => h); obtain ⟨w5, hrun5, hown5, hg5⟩ := ((own_map_tch HO2.out T34 (fun h => h)).alloc (.cells #[.slice ar mr capr, .int .i64 st, .bool true] 80)).update lawS Try.underlying68 hsz2 HKY.out (ptrR_some w4.heap.size); have T5 := tch_map hg5; have k1 := T5.cell (cal j1 _) hO3.out.dne.1; have k2 := T5.cell (cal j2 _) hne2)))
            go_wp2
            have hfin := hdst.out w4 w5 ar mr capr R1.out r2 r3' hown5 hg5 (.inr hnm)
            exact ⟨hfin.1.out, hfin.2⟩
      · have hE : st = s0 := (E4.out hp).symm
        subst hE
        by_cases hk : 0 < st
        · have hk' : (0 : Int) < (st : Int) := by omega
          go_wp2_with fail
          go_region_held3 (fun W => W.cell? ⟨db2, 1, none⟩ = some (.map (some mb2)) ∧ W.cell? ⟨u.eb, 0, none⟩ = some (.slice a0 m0 cap0))
            (first | go_keep)
            ((first | (go_at_call 46; refine (clone_any a0 st cap0 (u.f.b.take st) _ (by exact hbt.out)).mono ?_; rintro e w4 ⟨vr, rfl, r1, r2, r3⟩; have r3' : Tch No w3.drew w4 := ⟨r3.os, r3.tape, r3.output, r3.size, r3.block⟩; clear r3; have R1 := Lib.hid r1; clear r1; obtain ⟨ar, mr, capr, hvr, hmr⟩ := R1.out.shape'; subst hvr; have T34 := (Tch.drew w3).trans0 r3'; have j1 := T34.cell o1 (fun h => h); have j2 := T34.cell e0 (fun h => h); obtain ⟨w5, hrun5, hown5, hg5⟩ := ((own_map_tch HO2.out T34 (fun h => h)).alloc (.cells #[.slice ar mr capr, .int .i64 st, .bool true] 80)).update lawS Try.underlying68 hsz2 HKY.out (ptrR_some w4.heap.size); have T5 := tch_map hg5; have k1 := T5.cell (cal j1 _) hO3.out.dne.1; have k2 := T5.cell (cal j2 _) hne2)))
          go_wp2
          have hfin := hdst.out w4 w5 ar mr capr R1.out r2 r3' hown5 hg5 (.inl hk)
          exact ⟨hfin.1.out, hfin.2⟩
        · have hk' : ¬ (0 : Int) < (st : Int) := by omega
          cases hnm : u.f.named
          · rw [hnm] at e2
            go_wp2
            obtain ⟨⟨lf, ct, lo, hF⟩, hlt⟩ := hskip.out (by simp only [hk, hnm]; simp)
            exact ⟨⟨lf, ct, lo, hF⟩, hlt⟩
          · rw [hnm] at e2
            go_wp2_with fail
            go_region_held3 (fun W => W.cell? ⟨db2, 1, none⟩ = some (.map (some mb2)) ∧ W.cell? ⟨u.eb, 0, none⟩ = some (.slice a0 m0 cap0))
              (first | go_keep)
              ((first | (go_at_call 46; refine (clone_any a0 st cap0 (u.f.b.take st) _ (by exact hbt.out)).mono ?_; rintro e w4 ⟨vr, rfl, r1, r2, r3⟩; have r3' : Tch No w3.drew w4 := ⟨r3.os, r3.tape, r3.output, r3.size, r3.block⟩; clear r3; have R1 := Lib.hid r1; clear r1; obtain ⟨ar, mr, capr, hvr, hmr⟩ := R1.out.shape'; subst hvr; have T34 := (Tch.drew w3).trans0 r3'; have j1 := T34.cell o1 (fun h => h); have j2 := T34.cell e0 (fun h => h); obtain ⟨w5, hrun5, hown5, hg5⟩ := ((own_map_tch HO2.out T34 (fun h => h)).alloc (.cells #[.slice ar mr capr, .int .i64 st, .bool true] 80)).update lawS Try.underlying68 hsz2 HKY.out (ptrR_some w4.heap.size); have T5 := tch_map hg5; have k1 := T5.cell (cal j1 _) hO3.out.dne.1; have k2 := T5.cell (cal j2 _) hne2)))
            go_wp2
            have hfin := hdst.out w4 w5 ar mr capr R1.out r2 r3' hown5 hg5 (.inr hnm)
            exact ⟨hfin.1.out, hfin.2⟩
end Go.Proofs.Ytcjlgdldhcbcjaa
