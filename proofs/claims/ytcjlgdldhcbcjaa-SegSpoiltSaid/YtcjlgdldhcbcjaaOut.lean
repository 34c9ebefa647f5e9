import Derived.Test.YtcjlgdldhcbcjaaStr
namespace Go.Proofs.Ytcjlgdldhcbcjaa
open Go.RowKit Go.Maps
set_option linter.unusedVariables false
set_option linter.unusedSimpArgs false

/-- The bytes of a number, the lowest first. -/
def leBytes : Nat → Nat → List UInt8
  | 0, _ => []
  | k + 1, n => UInt8.ofNat (n % 256) :: leBytes k (n / 256)
theorem leBytes_length : ∀ k n, (leBytes k n).length = k
  | 0, _ => rfl
  | k + 1, n => by simp [leBytes, leBytes_length k]

/-- Block ob is a byt.Out that has put the bytes bs; v: its slice. -/
structure IsOut (w : World) (ob : Nat) (v : Value) (bs : List UInt8) : Prop where
  cell : w.heap[ob]? = some (.cells #[v] 89 (0, 0))
  own : w.ownsRow 0 5 1 v bs.length (u8s bs)
  ne : v.ownBlock ≠ some ob
def OutF (ob : Nat) (v : Value) : Nat → Prop := fun k => k = ob ∨ v.ownBlock = some k

theorem IsOut.tch {F : Nat → Prop} {w w' : World} {ob : Nat} {v : Value} {bs : List UInt8} (h : IsOut w ob v bs) (ht : Tch F w w') (hF : ∀ k, OutF ob v k → ¬ F k) : IsOut w' ob v bs :=
  ⟨blk_tch ht h.cell (hF ob (.inl rfl)), own_tch h.own ht (fun k hk => hF k (.inr hk)), h.ne⟩

/-- What a call on an Out leaves. -/
def OutPost (w : World) (ob : Nat) (v : Value) (bs : List UInt8) (w' : World) : Prop :=
  ∃ v', IsOut w' ob v' bs ∧ Tch (OutF ob v) w w' ∧ ∀ k, v'.ownBlock = some k → v.ownBlock = some k ∨ w.heap.size ≤ k

theorem OutPost.trans {w w1 w2 : World} {ob : Nat} {v v1 : Value} {bs1 bs2 : List UInt8} (_h1 : IsOut w1 ob v1 bs1) (t1 : Tch (OutF ob v) w w1) (n1 : ∀ k, v1.ownBlock = some k → v.ownBlock = some k ∨ w.heap.size ≤ k) (h2 : OutPost w1 ob v1 bs2 w2) : OutPost w ob v bs2 w2 := by
  obtain ⟨v2, i2, t2, n2⟩ := h2
  refine ⟨v2, i2, t1.trans t2 ?_, fun k hk => ?_⟩
  · rintro k hk (rfl | h)
    · exact .inl rfl
    · rcases n1 k h with h | h
      · exact .inr h
      · omega
  · rcases n2 k hk with h | h
    · exact n1 k h
    · exact .inr (Nat.le_trans t1.size h)

theorem info8 : (Try.prog.info? 5).map (fun i => (i.zero, i.size, i.bytes)) = some (some (.int .u8 0), 1, 1) := by kernel_rfl

/-- One byte more: the append's end, and the store. -/
theorem out_step {wr wm w1 : World} {ob : Nat} {v' v'' : Value} {bs ys : List UInt8} (hi : IsOut wr ob v' bs) (h0 : Tch No wr wm)
    (ha : AppPost 5 wm v' ys v'' w1) : OutPost wr ob v' ys (w1.setCell ⟨ob, 0, none⟩ v'') := by
  have hlt := blk_lt hi.cell
  have hsz := h0.size
  have hob : w1.heap[ob]? = some (.cells #[v'] 89 (0, 0)) := by
    rw [ha.grow.block ob (by omega) (fun e => hi.ne e.symm), h0.block ob hlt (fun h => h)]; exact hi.cell
  have hv : ∀ k, v''.ownBlock = some k → v'.ownBlock = some k ∨ wr.heap.size ≤ k := fun k hk => by
    rcases ha.loc with h | h
    · exact .inl (h ▸ hk)
    · rw [h] at hk; simp at hk; exact .inr (by omega)
  have hne : v''.ownBlock ≠ some ob := fun e => by
    rcases hv ob e with h | h
    · exact hi.ne h
    · omega
  have ht : Tch (OutF ob v') wr w1 := h0.no.trans (Tch.grown ha.grow (F := OutF ob v') (fun k hk _ => .inr hk)) (fun _ _ h => h)
  refine ⟨v'', ⟨?_, ?_, hne⟩, ht.trans (Tch.setCell (F := OutF ob v') _ _ _ (fun _ => .inl rfl)) (fun _ _ h => h), hv⟩
  · simpa using blk_set hob 0 v''
  · exact own_tch (F := fun k => k = ob) ha.own (Tch.setCell _ _ _ (fun _ => rfl)) (fun k hk e => hne (by rw [hk, e]))

theorem IsOut.cell0 {w : World} {ob : Nat} {v : Value} {bs : List UInt8} (h : IsOut w ob v bs) : w.cell? ⟨ob, 0, none⟩ = some v := by
  simpa using blk_cell h.cell 0
theorem App_keep {e : TypeId} {w : World} {v : Value} {ys : List UInt8} {v' : Value} {w' : World} {o : Obj} (h : AppPost e (w.alloc o) v ys v' w') {b : Nat} {x : Obj} (hb : w.heap[b]? = some x) (hv : v.ownBlock ≠ some b) : w'.heap[b]? = some x := by
  have hlt := blk_lt hb
  rw [h.grow.block b (by simp; omega) (fun e => hv e.symm), Below.heap_alloc _ _ _ hlt]; exact hb

theorem own_loc {w : World} {base : Nat} {e : TypeId} {size : Nat} {v : Value} {n : Nat} {xs : List Value} (h : w.ownsRow base e size v n xs) : ∀ k, v.ownBlock = some k → k < w.heap.size := fun k hk => (h.lt k hk).2

set_option maxRecDepth 100000 in
set_option maxHeartbeats 1000000 in
theorem wide_any (ob : Nat) (v : Value) (bs : List UInt8) (n width : Nat) (w : World) (hn : n < 18446744073709551616) (hw : width ≤ 8) (hi : IsOut w ob v bs) (hl : bs.length ≤ 1000000) :
    Calls Try.prog 67 #[.pointer (some ⟨ob, 0, none⟩), .int .u64 n, .int .i64 width] w fun e w' => e = .returned (.tuple #[]) ∧ OutPost w ob v (bs ++ leBytes width n) w' := by
  have HI := Lib.hid hi
  have hlt := blk_lt hi.cell
  clear hi
  obtain ⟨i0, hi0, hz0, hz1, hz2⟩ := info_parts info8
  go_enter Try.func67, Try.ntmps67
  go_wp2
  go_loopw [1, 2] (fun s1 s2 wr => ∃ (k m : Nat) (ys : List UInt8) (v' : Value), k ≤ width ∧ m < 18446744073709551616 ∧ s1 = .int .u64 m ∧ s2 = .int .i64 k ∧ Hid (bs ++ leBytes width n = ys ++ leBytes k m) ∧
      Hid (IsOut wr ob v' ys) ∧ Tch (OutF ob v) w wr ∧ Hid (∀ k, v'.ownBlock = some k → v.ownBlock = some k ∨ w.heap.size ≤ k)) (fun _ s2 _ => (intOf s2).toNat)
  case atStart => exact ⟨width, n, bs, v, Nat.le_refl _, hn, rfl, rfl, rfl, HI, Tch.refl _ _, fun k hk => .inl hk⟩
  case round =>
    obtain ⟨k, m, ys, v', hk, hm, rfl, rfl, hsplit, hI, ht, hnw⟩ := hrel
    by_cases hpos : 0 < k
    · have hdl : ys.length ≤ 1000008 := by
        have := congrArg List.length hsplit.out
        simp only [List.length_append, leBytes_length] at this
        omega
      have hcell := hI.out.cell0
      have hc8 : Hid ((m : Int) % 256 = ((UInt8.ofNat (m % 256)).toNat : Int)) := by
        rw [Hid]; simp
      have hnext : Hid (∀ zs, zs = ys ++ [UInt8.ofNat (m % 256)] → bs ++ leBytes width n = zs ++ leBytes (k - 1) (m / 256)) := by
        rintro zs rfl
        obtain ⟨j, rfl⟩ : ∃ j, k = j + 1 := ⟨k - 1, by omega⟩
        rw [hsplit.out, leBytes]; simp
      obtain ⟨c, hcc⟩ : ∃ c, UInt8.ofNat (m % 256) = c := ⟨_, rfl⟩
      rw [hcc] at hc8 hnext
      clear hcc
      have hle : ys.length + [c].length ≤ lim := by simp [lim]; omega
      obtain ⟨zs, hzs⟩ : ∃ zs, Hid (zs = ys ++ [c]) := ⟨_, rfl⟩
      obtain ⟨a, ml, cap, hv', hml⟩ := own_shape' hI.out.own
      subst hv'
      go_wp2_with (at_builtin; go_must (refine wpList_app _ rfl _ _ 22 rfl 5 i0 Try.underlying22 hi0 hz0 hz1 hz2 _ ys rfl (hI.out.own.alloc _) (.slice (some ⟨wr.heap.size, 0, none⟩) 1 1) [c] rfl (by rw [hc8.out]; exact SlB.one _ _ _) hle zs hzs ?_); intro a1 n1 cap1 w1 hA hn1; have hk1 := App_keep hA hI.out.cell hI.out.ne; have hk2 := blk_cell hk1 0; have hk3 := blk_free hk1 0; clear hk1)
      obtain ⟨v3, i3, t3, n3⟩ := OutPost.trans hI.out ht hnw.out (out_step hI.out (Tch.alloc _ _) hA)
      exact ⟨⟨k - 1, m / 256, zs, v3, by omega, by omega, by go_num, by go_num, hnext.out zs hzs.out, i3, t3, n3⟩, by simp [intOf]; omega⟩
    · go_wp2
      go_end0
      have e : k = 0 := by omega
      subst e
      refine ⟨rfl, v', ?_, ht, hnw.out⟩
      have := hsplit.out
      rw [leBytes, List.append_nil] at this
      rw [this]
      exact hI.out

set_option maxRecDepth 100000 in
set_option maxHeartbeats 1000000 in
theorem osmall_any (ob : Nat) (v : Value) (bs : List UInt8) (n : Nat) (w : World) (hn : n < 9223372036854775808) (hi : IsOut w ob v bs) (hl : bs.length ≤ 1000000) :
    Calls Try.prog 57 #[.pointer (some ⟨ob, 0, none⟩), .int .i64 n] w fun e w' => e = .returned (.tuple #[]) ∧ OutPost w ob v (bs ++ leBytes 2 n) w' := by
  have hc := Lib.hid (wide_any ob v bs n 2 w (by omega) (by omega) hi hl)
  clear hi
  go_enter Try.func57, Try.ntmps57
  go_wp2_with (go_at_call 67; go_must (refine hc.out.mono ?_); rintro e w' ⟨rfl, h⟩)
  go_end0
  exact ⟨rfl, h⟩

/-- A 64-bit number's bits. -/
def u64of (n : Int) : Nat := (n % 18446744073709551616).toNat
set_option maxRecDepth 100000 in
set_option maxHeartbeats 1000000 in
theorem olong_any (ob : Nat) (v : Value) (bs : List UInt8) (n : Int) (w : World) (h1 : -9223372036854775808 ≤ n) (h2 : n ≤ 9223372036854775807) (hi : IsOut w ob v bs) (hl : bs.length ≤ 1000000) :
    Calls Try.prog 86 #[.pointer (some ⟨ob, 0, none⟩), .int .i64 n] w fun e w' => e = .returned (.tuple #[]) ∧ OutPost w ob v (bs ++ leBytes 8 (u64of n)) w' := by
  have hc := Lib.hid (wide_any ob v bs (u64of n) 8 w (by unfold u64of; omega) (by omega) hi hl)
  have hq : Hid (IntKind.u64.wrap n = ((u64of n : Nat) : Int)) := by rw [Hid, u64of, IntKind.wrap_u64]; omega
  clear hi
  go_enter Try.func86, Try.ntmps86
  go_wp2_with fail
  rw [hq.out]
  refine hc.out.mono ?_
  rintro e w' ⟨rfl, hP⟩
  go_wp2
  go_end0
  exact ⟨rfl, hP⟩

set_option maxRecDepth 100000 in
set_option maxHeartbeats 1000000 in
theorem otruth_any (ob : Nat) (v : Value) (bs : List UInt8) (x : Bool) (w : World) (hi : IsOut w ob v bs) (hl : bs.length ≤ 1000000) :
    Calls Try.prog 88 #[.pointer (some ⟨ob, 0, none⟩), .bool x] w fun e w' => e = .returned (.tuple #[]) ∧ OutPost w ob v (bs ++ [if x then 1 else 0]) w' := by
  cases x
  · have hc := Lib.hid (wide_any ob v bs 0 1 w (by omega) (by omega) hi hl)
    clear hi
    go_enter Try.func88, Try.ntmps88
    go_wp2_with (go_at_call 67; go_must (refine hc.out.mono ?_); rintro e w' ⟨rfl, hP⟩)
    go_end0
    exact ⟨rfl, hP⟩
  · have hc := Lib.hid (wide_any ob v bs 1 1 w (by omega) (by omega) hi hl)
    clear hi
    go_enter Try.func88, Try.ntmps88
    go_wp2_with (go_at_call 67; go_must (refine hc.out.mono ?_); rintro e w' ⟨rfl, hP⟩)
    go_end0
    exact ⟨rfl, hP⟩

set_option maxRecDepth 100000 in
set_option maxHeartbeats 1000000 in
theorem otext_any (ob : Nat) (v : Value) (bs : List UInt8) (s : ByteArray) (w : World) (hi : IsOut w ob v bs) (hl : bs.length ≤ 900000) (hs : s.size ≤ 65535) :
    Calls Try.prog 87 #[.pointer (some ⟨ob, 0, none⟩), .string s] w fun e w' => e = .returned (.tuple #[]) ∧ OutPost w ob v (bs ++ leBytes 2 s.size ++ s.data.toList) w' := by
  have hc := Lib.hid (osmall_any ob v bs s.size w (by omega) hi (by omega))
  have HI := Lib.hid hi
  have hlt := blk_lt hi.cell
  clear hi
  have hb : bits .and .i64 (s.size : Int) 65535 = (s.size : Int) := by
    have := bits_mask .i64 63 (by decide) (fun n h1 h2 => IntWalk.i64_in n ⟨by omega, by omega⟩) 16 (by decide) (s.size : Int) (by omega) (by omega)
    rw [show ((2 : Int) ^ 16 - 1) = 65535 by decide, show ((2 : Int) ^ 16) = 65536 by decide] at this
    rw [this]; omega
  obtain ⟨i0, hi0, hz0, hz1, hz2⟩ := info_parts info8
  obtain ⟨ys, hys⟩ : ∃ ys, Hid (ys = bs ++ leBytes 2 s.size) := ⟨_, rfl⟩
  rw [← hys.out] at hc ⊢
  obtain ⟨zs, hzs⟩ : ∃ zs, Hid (zs = ys ++ s.data.toList) := ⟨_, rfl⟩
  rw [← hzs.out]
  have hyl : ys.length ≤ 900002 := by rw [hys.out, List.length_append, leBytes_length]; omega
  have hext : s.extract 0 s.size = s := extract_all s
  go_enter Try.func87, Try.ntmps87
  go_wp2_with (go_at_call 57; go_must (refine hc.out.mono ?_); rintro e w1 ⟨rfl, hP⟩)
  obtain ⟨v1, i1, t1, nw1⟩ := hP
  obtain ⟨a, ml, cap, hv', hml⟩ := own_shape' i1.own
  subst hv'
  have hcell := i1.cell0
  have I1 := Lib.hid i1; clear i1
  have hfr := blk_free I1.out.cell 0
  have s0 : (0 : Int) ≤ (s.size : Int) := by omega
  have s1 : (s.size : Int) ≤ 65535 := by omega
  go_region_law ((refine step_app_str (by rfl) _ _ 22 9 (by rfl) 5 i0 Try.underlying22 Try.underlying9 hi0 hz0 hz1 hz2 _ ys (by rfl) I1.out.own s (by rfl) (by unfold lim; omega) zs hzs ?_; intro a1 n1 cap1 w2 hA hn1; have hk2 := App_cell hA hcell I1.out.ne; have hk3 := App_free hA hcell hfr I1.out.ne))
  go_wp2
  go_end0
  exact ⟨rfl, OutPost.trans I1.out t1 nw1 (out_step I1.out (Tch.drew _) hA)⟩
end Go.Proofs.Ytcjlgdldhcbcjaa
