/- Segments: Name, sized, Frame. No condition. -/
import Derived.Test.YtcjlgdldhcbcjaaRead
import Derived.Test.YtcjlgdldhcbcjaaSegM
namespace Go.Proofs.Ytcjlgdldhcbcjaa
open Go.RowKit Go.Maps
set_option linter.unusedVariables false
set_option linter.unusedSimpArgs false

def nameB (n : Nat) : ByteArray := ⟨(segNm n).toArray⟩
def dig3 (n : Nat) : List UInt8 := [UInt8.ofNat (48 + n / 100), UInt8.ofNat (48 + n / 10 % 10), UInt8.ofNat (48 + n % 10)]
theorem nameB_list (n : Nat) : (nameB n).data.toList = segNm n := rfl
theorem nameB_size (n : Nat) : (nameB n).size = 6 := rfl
theorem add_name {P : Program} (n : Nat) (w : World) : (Op.stringOp .add ⟨#[108, 111, 103]⟩ ⟨(dig3 n).toArray⟩).run P w = .ok (.string (nameB n)) w := by
  rw [run_string_add (P := P) (w := w) ⟨#[108, 111, 103]⟩ ⟨(dig3 n).toArray⟩ (by decide) (by
    have h1 : (⟨#[108, 111, 103]⟩ : ByteArray).size = 3 := rfl
    have h2 : (⟨(dig3 n).toArray⟩ : ByteArray).size = 3 := rfl
    omega)]
  rfl
set_option maxRecDepth 100000 in
theorem conv_name (n : Nat) (hn : n ≤ 999) (w : World) : (convert 22 9 (.slice (some ⟨w.heap.size, 0, none⟩) 3 3)).run Try.prog (w.alloc (.cells #[.int .u8 (48 + (n : Int) / 100), .int .u8 (48 + (n : Int) / 10 % 10), .int .u8 (48 + (n : Int) % 10)] 5)) = .ok (.string ⟨(dig3 n).toArray⟩) (w.alloc (.cells #[.int .u8 (48 + (n : Int) / 100), .int .u8 (48 + (n : Int) / 10 % 10), .int .u8 (48 + (n : Int) % 10)] 5)) := by
  have h1 : ((UInt8.ofNat (48 + n / 100)).toNat : Int) = 48 + (n : Int) / 100 := by simp; omega
  have h2 : ((UInt8.ofNat (48 + n / 10 % 10)).toNat : Int) = 48 + (n : Int) / 10 % 10 := by simp; omega
  have h3 : ((UInt8.ofNat (48 + n % 10)).toNat : Int) = 48 + (n : Int) % 10 := by simp; omega
  have hC : (#[.int .u8 (48 + (n : Int) / 100), .int .u8 (48 + (n : Int) / 10 % 10), .int .u8 (48 + (n : Int) % 10)] : Array Value) = (u8s (dig3 n)).toArray := by
    simp only [dig3, u8s, List.map_cons, List.map_nil, h1, h2, h3]
  exact (SlB.lit w _ (dig3 n) 3 5 (0, 0) rfl hC (by simp [lim])).str (P := Try.prog) Try.underlying22 Try.underlying5 Try.underlying9
set_option maxRecDepth 100000 in
set_option maxHeartbeats 1000000 in
theorem name_any (n : Nat) (hn : n ≤ 999) (w : World) : Calls Try.prog 22 #[.int .i64 n] w fun e w' => e = .returned (.string (nameB n)) ∧ Tch No w w' := by
  have p1 : (0 : Int) ≤ (n : Int) := by omega
  have p2 : (n : Int) ≤ 999 := by omega
  have p3 : ¬ (n : Int) < 0 := by omega
  have p4 : ¬ 999 < (n : Int) := by omega
  have hc := conv_name n hn w
  have ha := fun W => add_name (P := Try.prog) n W
  go_enter Try.func22, Try.ntmps22
  go_wp2_with fail
  go_ret
  exact ⟨rfl, Tch.alloc _ _⟩
set_option maxRecDepth 100000 in
set_option maxHeartbeats 1000000 in
theorem name_out (n : Int) (hn : n < 0 ∨ 999 < n) (w : World) : Calls Try.prog 22 #[.int .i64 n] w fun e w' => e = .returned (.string ⟨#[]⟩) ∧ w = w' := by
  by_cases p : n < 0
  · go_enter Try.func22, Try.ntmps22
    go_wp2_with fail
    go_ret
    exact ⟨rfl, rfl⟩
  · have p2 : 999 < n := by omega
    clear hn
    go_enter Try.func22, Try.ntmps22
    go_wp2_with fail
    go_ret
    exact ⟨rfl, rfl⟩

theorem leBytes2_mod (n : Nat) : leBytes 2 (n % 65536) = leBytes 2 n := by
  have h1 : n % 65536 % 256 = n % 256 := by omega
  have h2 : n % 65536 / 256 % 256 = n / 256 % 256 := by omega
  show [UInt8.ofNat (n % 65536 % 256), UInt8.ofNat (n % 65536 / 256 % 256)] = [UInt8.ofNat (n % 256), UInt8.ofNat (n / 256 % 256)]
  rw [h1, h2]
/-- A slice of bytes in memory that is younger than w, and a row of its own. -/
def FreshPost (w : World) (bs : List UInt8) (e : Ending) (w' : World) : Prop :=
  ∃ v, e = .returned v ∧ SlB w' v bs ∧ (∀ k, v.ownBlock = some k → w.heap.size ≤ k) ∧ Tch No w w' ∧ w'.ownsRow 0 5 1 v bs.length (u8s bs)
theorem FreshPost.of {w w' : World} {bs : List UInt8} {v : Value} (h : w'.ownsRow 0 5 1 v bs.length (u8s bs)) (hb : bs.length ≤ lim) (hf : ∀ k, v.ownBlock = some k → w.heap.size ≤ k) (t : Tch No w w') : FreshPost w bs (.returned v) w' :=
  ⟨v, rfl, SlB.ofRow h hb, hf, t, h⟩
set_option maxRecDepth 100000 in
set_option maxHeartbeats 1000000 in
theorem sized_any (v : Value) (bs : List UInt8) (w : World) (hv : SlB w v bs) (hb : bs.length ≤ 65535) :
    Calls Try.prog 39 #[v] w (FreshPost w (sizedM bs)) := by
  obtain ⟨a, cap, rfl, hcap, hm⟩ := hv.shape
  have H0 : Hid (IsOut (w.alloc (.cells #[.slice none 0 0] 89)) w.heap.size (.slice none 0 0) []) := ⟨blk_new w _, World.ownsRow_nil _ _ _ _, by simp [Value.ownBlock]⟩
  have HV := Lib.hid hv
  obtain ⟨s, hs⟩ : ∃ s, sumM bs = s := ⟨_, rfl⟩
  have HS := Lib.hid hs
  have hsl : s < 4294967296 := by rw [← hs]; exact crcOn_lt (crcOn_lt (by decide) _) _
  obtain ⟨n, hn⟩ : ∃ n, bs.length = n := ⟨_, rfl⟩
  have HN := Lib.hid hn
  rw [hn] at hcap hb ⊢
  clear hs hn hv
  go_enter Try.func39, Try.ntmps39
  go_wp2_with fail
  refine (osmall_any w.heap.size _ [] n _ (by omega) H0.out (by simp)).mono ?_
  rintro e w1 ⟨rfl, v1, i1, t1, n1⟩
  have I1 := Lib.hid i1
  have T1 : Hid (Tch No w w1) := (Tch.alloc w _).fresh t1 (fun k hk => by
    rcases hk with rfl | hk
    · exact Nat.le_refl _
    · simp [Value.ownBlock] at hk)
  have F1 : Hid (∀ k, v1.ownBlock = some k → w.heap.size ≤ k) := fun k hk => by
    rcases n1 k hk with h | h
    · simp [Value.ownBlock] at h
    · simp at h; omega
  have c1 := i1.cell0
  have B1 : Hid (SlB w1 v1 (leBytes 2 n)) := by
    have := SlB.ofRow i1.own (by simp [leBytes_length, lim])
    rw [List.nil_append] at this
    exact this
  clear i1 t1 n1 H0
  go_wp2_with fail
  refine (of_any v1 (leBytes 2 n) w1 B1.out).mono ?_
  rintro e w2 ⟨rfl, rfl⟩
  go_wp2_with fail
  refine (on_any (crcOn 0 (leBytes 2 n)) (crcOn_lt (by decide) _) (.slice a n cap) bs w1 (by have := HV.out.tch0 T1.out; rw [HN.out] at this; exact this)).mono ?_
  rintro e w2 ⟨rfl, rfl⟩
  rw [show crcOn (crcOn 0 (leBytes 2 n)) bs = s by rw [← HS.out, sumM, HN.out]]
  go_wp2_with fail
  refine (osmall_any w.heap.size v1 _ s w1 (by omega) I1.out (by simp [leBytes_length])).mono ?_
  rintro e w3 ⟨rfl, v3, i3, t3, n3⟩
  have I3 := Lib.hid i3
  have T3 : Hid (Tch No w w3) := T1.out.fresh t3 (fun k hk => by
    rcases hk with rfl | hk
    · exact Nat.le_refl _
    · exact F1.out k hk)
  have F3 : Hid (∀ k, v3.ownBlock = some k → w.heap.size ≤ k) := fun k hk => by
    rcases n3 k hk with h | h
    · exact F1.out k h
    · have := T1.out.size; omega
  clear i3 t3 n3 I1 B1 c1
  go_wp2_with fail
  rw [show ((s : Int) / 65536) = ((s / 65536 : Nat) : Int) by omega]
  refine (osmall_any w.heap.size v3 _ (s / 65536) w3 (by omega) I3.out (by simp [leBytes_length])).mono ?_
  rintro e w5 ⟨rfl, v5, i5, t5, n5⟩
  have I5 := Lib.hid i5
  have T5 : Hid (Tch No w w5) := T3.out.fresh t5 (fun k hk => by
    rcases hk with rfl | hk
    · exact Nat.le_refl _
    · exact F3.out k hk)
  have F5 : Hid (∀ k, v5.ownBlock = some k → w.heap.size ≤ k) := fun k hk => by
    rcases n5 k hk with h | h
    · exact F3.out k h
    · have := T3.out.size; omega
  have c5 := i5.cell0
  clear i5 t5 n5 I3 
  go_wp2_with fail
  go_ret
  have hE : sizedM bs = [] ++ leBytes 2 n ++ leBytes 2 s ++ leBytes 2 (s / 65536) := by rw [sizedM, HS.out, HN.out, List.nil_append]
  rw [hE]
  exact FreshPost.of I5.out.own (by simp [leBytes_length, lim]) F5.out T5.out

theorem fitB_iff (bs : List UInt8) : fits bs ↔ 1 ≤ bs.length ∧ bs.length ≤ 4000 := Iff.rfl
set_option maxRecDepth 100000 in
set_option maxHeartbeats 1000000 in
theorem frame_any (v : Value) (bs : List UInt8) (w : World) (hv : SlB w v bs) (hf : fits bs) :
    Calls Try.prog 18 #[v] w fun e w' => ∃ g cap, e = .returned (.slice (some ⟨g, 0, none⟩) (6 + bs.length) cap) ∧ SlB w' (.slice (some ⟨g, 0, none⟩) (6 + bs.length) cap) (frameM bs) ∧ w.heap.size ≤ g ∧ Tch No w w' ∧ w'.ownsRow 0 5 1 (.slice (some ⟨g, 0, none⟩) (6 + bs.length) cap) (frameM bs).length (u8s (frameM bs)) := by
  obtain ⟨i0, hi0, hz0, hz1, hz2⟩ := info_parts infoB
  unfold fits at hf
  obtain ⟨a, cap, rfl, hcap, hm⟩ := hv.shape
  have HV := Lib.hid hv
  have hs := Lib.hid (sized_any _ bs w hv (by omega))
  obtain ⟨n, hn⟩ : ∃ n, bs.length = n := ⟨_, rfl⟩
  have HN := Lib.hid hn
  rw [hn] at hcap hf hs ⊢
  have p1 : ¬ (n : Int) = 0 := by omega
  have p2 : ¬ 4000 < (n : Int) := by omega
  have HL := Lib.hid (show (frameM bs).length = 6 + n by rw [frameM_length, hn])
  have HB := Lib.hid (show bs.length ≤ lim by unfold lim; omega)
  clear hn hv
  go_enter Try.func18, Try.ntmps18
  go_wp2_with fail
  refine hs.out.mono ?_
  rintro e w1 ⟨v1, rfl, b1, f1, t1, o1⟩
  have B1 := Lib.hid b1; have F1 := Lib.hid f1; have T1 := Lib.hid t1; have O1 := Lib.hid o1
  have hv1 := Lib.hid (show SlB w1 (.slice a n cap) bs by have := HV.out.tch0 t1; rw [HN.out] at this; exact this)
  clear b1 f1 t1 o1
  go_wp2_with (at_builtin; go_must (refine wpList_app _ rfl _ _ 22 rfl 5 i0 Try.underlying22 hi0 hz0 hz1 hz2 v1 (sizedM bs) rfl O1.out _ bs rfl hv1.out (by rw [sizedM_length]; unfold lim; have := HN.out; omega) (frameM bs) (by simp [Hid, frameM]) ?_); intro a2 n2 cap2 w2 hA hn2)
  go_ret
  have hn2' : n2 = 6 + n := hn2.out.trans HL.out
  subst hn2'
  have hsh := hA.own
  rcases hsh.2 with ⟨_, h0⟩ | ⟨g, cp, cur, hg, _⟩
  · rw [HL.out] at h0; omega
  · injection hg with h1 h2 h3
    subst h1
    refine ⟨g, cap2, rfl, SlB.ofRow hA.own (by rw [HL.out]; unfold lim; omega), ?_, T1.out.fresh (Tch.grown hA.grow (F := fun k => v1.ownBlock = some k) (fun k hk _ => hk)) (fun k hk => F1.out k hk), hA.own⟩
    rcases hA.loc with e | e
    · exact F1.out g (by rw [← e]; rfl)
    · simp [Value.ownBlock] at e; have := T1.out.size; omega
set_option maxRecDepth 100000 in
set_option maxHeartbeats 1000000 in
theorem frame_no (v : Value) (bs : List UInt8) (w : World) (hv : SlB w v bs) (hf : ¬ fits bs) :
    Calls Try.prog 18 #[v] w fun e w' => e = .returned (.slice none 0 0) ∧ w = w' := by
  unfold fits at hf
  obtain ⟨a, cap, rfl, hcap, hm⟩ := hv.shape
  obtain ⟨n, hn⟩ : ∃ n, bs.length = n := ⟨_, rfl⟩
  rw [hn] at hcap hf ⊢
  clear hn hv
  by_cases h0 : n = 0
  · have p1 : (n : Int) = 0 := by omega
    go_enter Try.func18, Try.ntmps18
    go_wp2_with fail
    go_ret
    exact ⟨rfl, rfl⟩
  · have p1 : ¬ (n : Int) = 0 := by omega
    have p2 : 4000 < (n : Int) := by omega
    go_enter Try.func18, Try.ntmps18
    go_wp2_with fail
    go_ret
    exact ⟨rfl, rfl⟩
end Go.Proofs.Ytcjlgdldhcbcjaa
