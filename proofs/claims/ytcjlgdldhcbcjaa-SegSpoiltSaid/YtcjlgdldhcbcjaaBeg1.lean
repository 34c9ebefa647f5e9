import Derived.Test.YtcjlgdldhcbcjaaIn
import Derived.Test.YtcjlgdldhcbcjaaSum
import Derived.Lib.SlBytesConst
namespace Go.Proofs.Ytcjlgdldhcbcjaa
open Go.RowKit Go.Maps
set_option linter.unusedVariables false
set_option linter.unusedSimpArgs false

theorem IsOut.made (w : World) : IsOut (w.alloc (.cells #[.slice none 0 0] 89)) w.heap.size (.slice none 0 0) [] :=
  ⟨blk_new w _, World.ownsRow_nil _ _ _ _, by simp [Value.ownBlock]⟩
theorem IsIn.made {w : World} {v : Value} {bs : List UInt8} (h : SlB w v bs) : IsIn (w.alloc (.cells #[v, .bool false] 94)) w.heap.size v bs false :=
  ⟨blk_new w _, h.tch0 (Tch.alloc _ _), fun e => Nat.lt_irrefl _ (h.blt _ e)⟩

set_option maxRecDepth 100000 in
set_option maxHeartbeats 1000000 in
theorem read_any (a : Option Addr) (m cap : Nat) (w : World) :
    Calls Try.prog 43 #[.slice a m cap] w fun e w' => e = .returned (.pointer (some ⟨w.heap.size, 0, none⟩)) ∧ w' = w.alloc (.cells #[.slice a m cap, .bool false] 94) := by
  go_enter Try.func43, Try.ntmps43
  go_wp2
  go_ret
  exact ⟨rfl, rfl⟩

set_option maxRecDepth 100000 in
set_option maxHeartbeats 2000000 in
theorem begun1_any (w : World) : Calls Try.prog 73 #[] w fun e w' => e = .returned (.bool true) ∧ Tch No w w' := by
  have kc := fun (w : World) (C : Array Value) (n c : Nat) => Lib.run_convert_bytes_const (P := Try.prog) w 22 5 C n c Try.underlying22 Try.underlying5
  have i0 := IsOut.made w
  have t0 : Hid (Tch No w (w.alloc (.cells #[.slice none 0 0] 89))) := Tch.alloc _ _
  have H0 := Lib.hid i0; clear i0
  go_enter Try.func73, Try.ntmps73
  go_wp2_with fail
  refine (osmall_any w.heap.size _ [] 258 _ (by omega) H0.out (by simp)).mono ?_
  rintro e w1 ⟨rfl, v1, i1, t1, n1⟩
  have H1 := Lib.hid i1; clear i1
  go_wp2_with fail
  refine (olong_any w.heap.size _ _ (-2) _ (by omega) (by omega) H1.out (by decide)).mono ?_
  rintro e w2 ⟨rfl, v2, i2, t2, n2⟩
  have H2 := Lib.hid i2; clear i2
  go_wp2_with fail
  refine (otext_any w.heap.size _ _ ⟨#[97, 98]⟩ _ H2.out (by decide) (by decide)).mono ?_
  rintro e w3 ⟨rfl, v3, i3, t3, n3⟩
  have H3 := Lib.hid i3; clear i3
  go_wp2_with fail
  refine (otruth_any w.heap.size _ _ true _ H3.out (by decide)).mono ?_
  rintro e w4 ⟨rfl, v4, i4, t4, n4⟩
  have e4 : ((([] ++ leBytes 2 258) ++ leBytes 8 (u64of (-2))) ++ leBytes 2 (ByteArray.mk #[97, 98]).size ++ (ByteArray.mk #[97, 98]).data.toList ++ [if true = true then 1 else 0]) = [2, 1, 254, 255, 255, 255, 255, 255, 255, 255, 2, 0, 97, 98, 1] := by decide
  rw [e4] at i4
  clear e4
  obtain ⟨a, m, cap, hv, hm⟩ := own_shape' i4.own
  have hm' : m = 15 := hm.out
  subst hm'
  have T4 : Hid (Tch No w w4) := by
    have s1 : w.heap.size + 1 ≤ w1.heap.size := by have := t1.size; simpa using this
    have s2 := t2.size
    have s3 := t3.size
    have p1 : ∀ k, v1.ownBlock = some k → w.heap.size ≤ k := fun k hk => by
      rcases n1 k hk with h | h
      · simp [Value.ownBlock] at h
      · simp at h; omega
    have p2 : ∀ k, v2.ownBlock = some k → w.heap.size ≤ k := fun k hk => by
      rcases n2 k hk with h | h
      · exact p1 k h
      · omega
    have p3 : ∀ k, v3.ownBlock = some k → w.heap.size ≤ k := fun k hk => by
      rcases n3 k hk with h | h
      · exact p2 k h
      · omega
    refine ((((t0.out.fresh t1 ?_).fresh t2 ?_).fresh t3 ?_).fresh t4 ?_)
    · rintro k (rfl | h)
      · exact Nat.le_refl _
      · simp [Value.ownBlock] at h
    · rintro k (rfl | h)
      · exact Nat.le_refl _
      · exact p1 k h
    · rintro k (rfl | h)
      · exact Nat.le_refl _
      · exact p2 k h
    · rintro k (rfl | h)
      · exact Nat.le_refl _
      · exact p3 k h
  have c4 := i4.cell0
  rw [hv] at c4
  have I4 := Lib.hid i4; clear i4
  clear t0 t1 t2 t3 t4 n1 n2 n3 n4 H0 H1 H2 H3 hm
  go_wp2_with fail
  refine (read_any a 15 cap _).mono ?_
  rintro e w5 ⟨rfl, hw5⟩
  have hs4 : Hid (SlB w4 v4 [2, 1, 254, 255, 255, 255, 255, 255, 255, 255, 2, 0, 97, 98, 1]) := SlB.ofRow I4.out.own (by decide)
  have j5 : Hid (IsIn w5 w4.heap.size v4 [2, 1, 254, 255, 255, 255, 255, 255, 255, 255, 2, 0, 97, 98, 1] false) := by rw [hw5, ← hv]; exact IsIn.made hs4.out
  have t5 : Hid (Tch No w4 w5) := by rw [hw5]; exact Tch.alloc _ _
  clear hw5
  go_wp2_with fail
  refine (ismall_ok w4.heap.size v4 _ w5 j5.out (by decide)).mono ?_
  rintro e w6 ⟨v6, rfl, j6, o6, t6⟩
  have e6 : leNum (List.take 2 [2, 1, 254, 255, 255, 255, 255, 255, 255, 255, 2, 0, 97, 98, 1]) = 258 := by decide
  rw [e6]
  have J6 := Lib.hid j6; clear j6 e6
  go_wp2_with fail
  refine (ilong_ok w4.heap.size v6 _ w6 J6.out (by decide)).mono ?_
  rintro e w7 ⟨v7, rfl, j7, o7, t7⟩
  have e7 : wrap64 ((leNum (List.take 8 (List.drop 2 [2, 1, 254, 255, 255, 255, 255, 255, 255, 255, 2, 0, 97, 98, 1])) : Nat) : Int) = -2 := by
    rw [show leNum (List.take 8 (List.drop 2 [2, 1, 254, 255, 255, 255, 255, 255, 255, 255, 2, 0, 97, 98, 1])) = 18446744073709551614 by decide]; unfold wrap64; decide
  rw [e7]
  have J7 := Lib.hid j7; clear j7 e7
  go_wp2_with fail
  refine (itext_ok w4.heap.size v7 _ w7 J7.out (by decide) 2 (by decide) (by decide)).mono ?_
  rintro e w8 ⟨v8, rfl, j8, o8, t8⟩
  have J8 := Lib.hid j8; clear j8
  go_wp2_with fail
  refine (itruth_ok w4.heap.size v8 1 [] w8 J8.out (by decide)).mono ?_
  rintro e w9 ⟨v9, rfl, j9, o9, t9⟩
  have J9 := Lib.hid j9; clear j9
  have T49 : Tch (InF w4.heap.size) w4 w9 := (((((t5.out.no (F := InF w4.heap.size)).trans t6 (fun _ _ h => h)).trans t7 (fun _ _ h => h)).trans t8 (fun _ _ h => h)).trans t9 (fun _ _ h => h))
  obtain ⟨g, hg⟩ : ∃ g, a = some ⟨g, 0, none⟩ := by
    rcases I4.out.own.2 with ⟨h, _⟩ | ⟨g, cap', cur, h, _⟩
    · rw [hv] at h; injection h with h1 h2; cases h2
    · rw [hv] at h; injection h with h1 h2; exact ⟨g, h1⟩
  subst hg
  have hgb : g < w4.heap.size := own_loc I4.out.own g (by rw [hv]; rfl)
  have hob : w.heap.size < w4.heap.size := blk_lt I4.out.cell
  have c9 : w9.cell? ⟨w.heap.size, 0, none⟩ = some (.slice (some ⟨g, 0, none⟩) 15 cap) := T49.cell c4 (by unfold InF; simp; omega)
  have hcells := I4.out.own.cells (g := g) (by rw [hv]; rfl)
  have d0 : w9.cell? ⟨g, 0, none⟩ = some (.int .u8 2) := T49.cell (hcells 0 _ rfl) (by unfold InF; show ¬ g = _; omega)
  have d1 : w9.cell? ⟨g, 1, none⟩ = some (.int .u8 1) := T49.cell (hcells 1 _ rfl) (by unfold InF; show ¬ g = _; omega)
  have T9 := Lib.hid T49; clear T49 hcells t5 t6 t7 t8 t9 o6 o7 o8 o9 c4 J6 J7 J8 hs4 j5
  go_wp2_with fail
  refine (iend_any _ _ _ _ w9 J9.out).mono ?_
  rintro e w10 ⟨rfl, rfl⟩
  go_wp2_with fail
  refine (ileft_any _ _ _ _ w9 J9.out).mono ?_
  rintro e w10 ⟨rfl, rfl⟩
  go_wp2_with fail
  refine (ibad_any _ _ _ _ w9 J9.out).mono ?_
  rintro e w10 ⟨rfl, rfl⟩
  go_wp2_with fail
  refine (ismall_no _ _ _ _ w9 J9.out (by decide)).mono ?_
  rintro e w10 ⟨rfl, j10, t10⟩
  have J10 := Lib.hid j10; clear j10
  go_wp2_with fail
  refine (ibad_any _ _ _ _ w10 J10.out).mono ?_
  rintro e w11 ⟨rfl, rfl⟩
  go_wp2_with fail
  refine (of_any _ [49, 50, 51, 52, 53, 54, 55, 56, 57] _ (SlB.lit _ _ _ _ _ _ rfl rfl (by decide))).mono ?_
  rintro e w12 ⟨rfl, rfl⟩
  have e12 : crcOn 0 [49, 50, 51, 52, 53, 54, 55, 56, 57] = 3808858755 := by decide +kernel
  rw [e12]
  go_wp2
  go_ret
  have hz : w.heap.size ≤ w4.heap.size := T4.out.size
  exact ⟨rfl, ((T4.out.fresh T9.out (fun i h => by rw [InF] at h; omega)).fresh t10 (fun i h => by rw [InF] at h; omega)).trans0 (Tch.alloc _ _)⟩

set_option maxRecDepth 100000 in
set_option maxHeartbeats 1000000 in
theorem begun1'_any (w : World) : Calls Try.prog 66 #[] w fun e w' => e = .returned (.bool true) ∧ Tch No w w' := by
  go_enter Try.func66, Try.ntmps66
  go_wp2_with (go_at_call 73; go_must (refine (begun1_any _).mono ?_); rintro e w1 ⟨rfl, q1⟩)
  go_ret
  exact ⟨rfl, q1⟩
end Go.Proofs.Ytcjlgdldhcbcjaa
