/- Part 22 of what the proof of OrderRoom rests on. No condition. -/
import Derived.Test.YtfedhcnmdmhppaaGreatPOrderRoom02
import Derived.Test.YtfedhcnmdmhppaaGreatPOrderRoom03
import Derived.Test.YtfedhcnmdmhppaaGreatPOrderRoom10
import Derived.Test.YtfedhcnmdmhppaaGreatPOrderRoom19
import Derived.Test.YtfedhcnmdmhppaaGreatPOrderRoom21
namespace Go.Proofs.YtfedhcnmdmhppaaGreat
set_option maxRecDepth 100000
set_option maxHeartbeats 60000000
set_option linter.unusedVariables false
set_option linter.unusedSimpArgs false
section
open Go.RowKit Go.Maps
def r8 : RecM := ⟨4, 8589934597, 0, false, [], [⟨[113], [98]⟩]⟩
theorem r8_b : recB r8 = true := by decide
theorem r8_ok : OkRec r8 := ⟨by unfold I64 r8; simp, by unfold I64 r8; simp, by unfold I64 r8; simp, fun x hx => (by cases hx), fun p hp => by
 simp only [r8, List.mem_cons, List.not_mem_nil, or_false] at hp
 subst hp
 exact ⟨by unfold OkT lim; simp, by unfold OkT lim; simp⟩⟩
def r0 : RecM := ⟨0, 0, 0, false, [], []⟩
theorem r0_b : recB r0 = false := by decide
theorem r0_ok : OkRec r0 := ⟨by unfold I64 r0; simp, by unfold I64 r0; simp, by unfold I64 r0; simp, fun x hx => (by cases hx), fun p hp => (by cases hp)⟩
theorem r0_is (w : World) : IsRec w (.agg #[.int .i64 0, .int .i64 0, .int .i64 0, .bool false, .slice none 0 0, .slice none 0 0]) r0 := ⟨_, _, rfl, CellsAt.nil _ _, CellsAt.nil _ _⟩
theorem mk25 : makeM 2 5 = 8589934597 := by decide
theorem begun8_any (w : World) : Calls Tryz.prog 136 #[] w fun e w' => e = .returned (.bool true) /\ Tch No w w' := by
 have HMK : Hid (∀ W, Calls Tryz.prog 152 #[.int .i64 2, .int .i64 5] W fun e w' => e = .returned (.int .i64 8589934597) /\ W = w') := fun W => by
  have h := kmake_any 2 5 (by unfold I64; simp) (by unfold I64; simp) W
  rwa [mk25] at h
 have HEN : Hid (∀ v W, IsRec W v r8 -> Calls Tryz.prog 179 #[v] W fun e w' => Tch No W w' /\ ∃ v', e = .returned v' /\ SlB w' v' (encRecM r8)) := fun v W h => (recencode_any r8 r8_ok v W h).mono (fun e w' hh => by
  obtain ⟨h1, h2 | ⟨_, v', h3, h4, _⟩⟩ := hh
  ·rw [r8_b] at h2; cases h2.1
  ·exact ⟨h1, v', h3, h4⟩)
 have HE0 : Hid (∀ W, Calls Tryz.prog 179 #[.agg #[.int .i64 0, .int .i64 0, .int .i64 0, .bool false, .slice none 0 0, .slice none 0 0]] W fun e w' => e = .returned (.slice none 0 0) /\ Tch No W w') := fun W => (recencode_any r0 r0_ok _ W (r0_is W)).mono (fun e w' hh => by
  obtain ⟨h1, h2 | ⟨h2, _⟩⟩ := hh
  ·exact ⟨h2.2, h1⟩
  ·rw [r0_b] at h2; cases h2)
 have HK0 : Hid (∀ W, Calls Tryz.prog 77 #[.agg #[.int .i64 0, .int .i64 0, .int .i64 0, .bool false, .slice none 0 0, .slice none 0 0]] W fun e w' => e = .returned (.bool false) /\ Tch No W w') := fun W => by
  have h := krecord_any r0 r0_ok _ W (r0_is W); rwa [r0_b] at h
 have HK8 : Hid (∀ v W, IsRec W v r8 -> Calls Tryz.prog 77 #[v] W fun e w' => e = .returned (.bool true) /\ Tch No W w') := fun v W h => by
  have h := krecord_any r8 r8_ok v W h; rwa [r8_b] at h
 have HQ1 : Hid (∀ W, Calls Tryz.prog 181 #[.string ⟨#[97, 98, 99]⟩] W fun e w' => e = .returned (.bool true) /\ W = w') := fun W => kqueue_any ⟨#[97, 98, 99]⟩ W (by decide)
 have HQ2 : Hid (∀ W, Calls Tryz.prog 181 #[.string ⟨#[]⟩] W fun e w' => e = .returned (.bool false) /\ W = w') := fun W => kqueue_any ⟨#[]⟩ W (by decide)
 have HQ3 : Hid (∀ W, Calls Tryz.prog 181 #[.string ⟨#[65]⟩] W fun e w' => e = .returned (.bool false) /\ W = w') := fun W => kqueue_any ⟨#[65]⟩ W (by decide)
 have HBO : Hid (∀ W, Calls Tryz.prog 182 #[.string ⟨#[]⟩] W fun e w' => e = .returned (.bool true) /\ W = w') := fun W => kbody_any ⟨#[]⟩ W (by decide)
 have HT1 : Hid (∀ W, Calls Tryz.prog 137 #[.int .i64 8589934597] W fun e w' => e = .returned (.bool true) /\ W = w') := fun W => ktid_any 8589934597 (by unfold I64; simp) W
 have HT2 : Hid (∀ W, Calls Tryz.prog 137 #[.int .i64 8589934592] W fun e w' => e = .returned (.bool false) /\ W = w') := fun W => ktid_any 8589934592 (by unfold I64; simp) W
 have HHM : Hid (∀ W, Calls Tryz.prog 138 #[.int .i64 8589934597] W fun e w' => e = .returned (.int .i64 2) /\ W = w') := fun W => khome_any 8589934597 (by unfold I64; simp) W
 have HPK : Hid (∀ W, Calls Tryz.prog 183 #[.agg #[.int .i64 5, .int .i64 1, .int .i64 2, .int .i64 8589934597, .int .i64 0, .bool false]] W fun e w' => e = .returned (.bool true) /\ Tch No W w') := fun W => kpacket5 _ (by unfold I64; simp) (by decide) W
 go_enter Tryz.func136, Tryz.ntmps136
 go_wp2_with fail
 refine (HMK.out _).mono ?_
 rintro e w1 ⟨rfl, rfl⟩
 go_wp2_with fail
 obtain ⟨wB, hwB⟩ : ∃ x, ((w.alloc (.cells #[.string ⟨#[113]⟩, .string ⟨#[98]⟩] 45)).alloc (.cells #[.int .i64 4, .int .i64 8589934597, .int .i64 0, .bool false, .slice none 0 0, .slice (some ⟨w.heap.size, 0, none⟩) 1 1] 37)) = x := ⟨_, rfl⟩
 have IR : Hid (IsRec wB (.agg #[.int .i64 4, .int .i64 8589934597, .int .i64 0, .bool false, .slice none 0 0, .slice (some ⟨w.heap.size, 0, none⟩) 1 1]) r8) := ⟨_, _, rfl, CellsAt.nil _ _, by rw [<- hwB]; exact CellsAt.keep (cells_lit2 rfl _ _ 2 _ rfl rfl) (Tch.alloc _ _)⟩
 have BB : Hid (wB.heap[w.heap.size + 1]? = some (.cells #[.int .i64 4, .int .i64 8589934597, .int .i64 0, .bool false, .slice none 0 0, .slice (some ⟨w.heap.size, 0, none⟩) 1 1] 37 (0, 0))) := by
  rw [Hid, <- hwB]
  have h := blk_new (w.alloc (.cells #[.string ⟨#[113]⟩, .string ⟨#[98]⟩] 45)) (.cells #[.int .i64 4, .int .i64 8589934597, .int .i64 0, .bool false, .slice none 0 0, .slice (some ⟨w.heap.size, 0, none⟩) 1 1] 37)
  rwa [size_alloc] at h
 have TB : Hid (Tch No w wB) := by rw [Hid, <- hwB]; exact (Tch.alloc _ _).trans0 (Tch.alloc _ _)
 rw [hwB]
 clear hwB
 obtain ⟨rb, hrb⟩ : ∃ x, w.heap.size + 1 = x := ⟨_, rfl⟩
 obtain ⟨pb, hpb⟩ : ∃ x, w.heap.size = x := ⟨_, rfl⟩
 rw [hrb] at BB ⊢
 rw [hpb] at IR BB ⊢
 clear hrb hpb
 refine (HEN.out _ _ IR.out).mono ?_
 rintro e w2 ⟨t2, v2, rfl, s2⟩
 obtain ⟨a2, n2, c2, rfl, _⟩ := s2.shape'
 go_wp2_with fail
 refine (recdecode_any r8 r8_b r8_ok _ _ s2).mono ?_
 rintro e w3 ⟨v3, rfl, q3, t3⟩
 have i3 := q3 _ (Tch.refl _ _)
 have i3' := i3
 obtain ⟨vp, vu, rfl, hp, hu⟩ := i3
 obtain ⟨xa, xc, rfl, _, _⟩ := CellsAt.shape hp
 obtain ⟨ya, yc, rfl, _, _⟩ := CellsAt.shape hu
 simp only [r8, List.length_nil, List.length_cons, Nat.zero_add] at i3' ⊢
 obtain ⟨xb, hxb⟩ : ∃ x, w3.heap.size = x := ⟨_, rfl⟩
 obtain ⟨y3, hy3⟩ : ∃ x, w3.alloc (.cells #[.int .i64 4, .int .i64 8589934597, .int .i64 0, .bool false, .slice xa 0 xc, .slice ya 1 yc] 37) = x := ⟨_, rfl⟩
 have IX : Hid (IsRec y3 (.agg #[.int .i64 4, .int .i64 8589934597, .int .i64 0, .bool false, .slice xa 0 xc, .slice ya 1 yc]) r8) := by rw [Hid, <- hy3]; exact i3'.keep (Tch.alloc _ _)
 have BX : Hid (y3.heap[xb]? = some (.cells #[.int .i64 4, .int .i64 8589934597, .int .i64 0, .bool false, .slice xa 0 xc, .slice ya 1 yc] 37 (0, 0))) := by rw [Hid, <- hy3, <- hxb]; exact blk_new _ _
 have tt : Tch No wB y3 := (t2.trans0 t3).trans0 (by rw [<- hy3]; exact Tch.alloc _ _)
 replace IR := Lib.hid (IR.out.keep tt)
 replace BB := Lib.hid (blk_tch tt BB.out (fun h => h))
 replace TB := Lib.hid (TB.out.trans0 tt)
 clear t2 s2 q3 t3 i3' hp hu tt HEN
 go_wp2_with fail
 refine (recdecode_nil _).mono ?_
 rintro e w4 ⟨rfl, t4⟩
 clear hy3
 have tt : Tch No y3 (w4.alloc (.cells #[.int .i64 0, .int .i64 0, .int .i64 0, .bool false, .slice none 0 0, .slice none 0 0] 37)) := t4.trans0 (Tch.alloc _ _)
 replace IR := Lib.hid (IR.out.keep tt)
 replace BB := Lib.hid (blk_tch tt BB.out (fun h => h))
 replace TB := Lib.hid (TB.out.trans0 tt)
 replace IX := Lib.hid (IX.out.keep tt)
 replace BX := Lib.hid (blk_tch tt BX.out (fun h => h))
 clear tt t4
 go_wp2_with fail
 refine (begun1'_any _).mono ?_
 rintro e z0 ⟨rfl, tt⟩
 replace IR := Lib.hid (IR.out.keep tt)
 replace BB := Lib.hid (blk_tch tt BB.out (fun h => h))
 replace TB := Lib.hid (TB.out.trans0 tt)
 replace IX := Lib.hid (IX.out.keep tt)
 replace BX := Lib.hid (blk_tch tt BX.out (fun h => h))
 clear tt
 go_wp2_with fail
 refine (HQ1.out _).mono ?_
 rintro e z' ⟨rfl, rfl⟩
 go_wp2_with fail
 refine (HQ2.out _).mono ?_
 rintro e z' ⟨rfl, rfl⟩
 go_wp2_with fail
 refine (HQ3.out _).mono ?_
 rintro e z' ⟨rfl, rfl⟩
 go_wp2_with fail
 refine (HBO.out _).mono ?_
 rintro e z' ⟨rfl, rfl⟩
 go_wp2_with fail
 refine (HT1.out _).mono ?_
 rintro e z' ⟨rfl, rfl⟩
 go_wp2_with fail
 refine (HHM.out _).mono ?_
 rintro e z' ⟨rfl, rfl⟩
 obtain ⟨r0, r1, r2, r3, r4, r5⟩ := kc6 BB.out
 go_wp2_with fail
 refine (HT2.out _).mono ?_
 rintro e z' ⟨rfl, rfl⟩
 go_wp2_with fail
 refine (HK8.out _ _ IR.out).mono ?_
 rintro e z1 ⟨rfl, tt⟩
 clear r0 r1 r2 r3 r4 r5
 replace IR := Lib.hid (IR.out.keep tt)
 replace BB := Lib.hid (blk_tch tt BB.out (fun h => h))
 replace TB := Lib.hid (TB.out.trans0 tt)
 replace IX := Lib.hid (IX.out.keep tt)
 replace BX := Lib.hid (blk_tch tt BX.out (fun h => h))
 clear tt
 go_wp2_with fail
 refine (HK0.out _).mono ?_
 rintro e z2 ⟨rfl, tt⟩
 replace IR := Lib.hid (IR.out.keep tt)
 replace BB := Lib.hid (blk_tch tt BB.out (fun h => h))
 replace TB := Lib.hid (TB.out.trans0 tt)
 replace IX := Lib.hid (IX.out.keep tt)
 replace BX := Lib.hid (blk_tch tt BX.out (fun h => h))
 clear tt
 go_wp2_with fail
 refine (HPK.out _).mono ?_
 rintro e z3 ⟨rfl, tt⟩
 replace IR := Lib.hid (IR.out.keep tt)
 replace BB := Lib.hid (blk_tch tt BB.out (fun h => h))
 replace TB := Lib.hid (TB.out.trans0 tt)
 replace IX := Lib.hid (IX.out.keep tt)
 replace BX := Lib.hid (blk_tch tt BX.out (fun h => h))
 clear tt
 obtain ⟨r0, r1, r2, r3, r4, r5⟩ := kc6 BB.out
 obtain ⟨x0, x1, x2, x3, x4, x5⟩ := kc6 BX.out
 go_wp2_with fail
 refine (receq_same r8 _ _ _ IX.out IR.out).mono ?_
 rintro e z4 ⟨rfl, tt⟩
 clear r0 r1 r2 r3 r4 r5
 clear x0 x1 x2 x3 x4 x5
 replace IR := Lib.hid (IR.out.keep tt)
 replace BB := Lib.hid (blk_tch tt BB.out (fun h => h))
 replace TB := Lib.hid (TB.out.trans0 tt)
 replace IX := Lib.hid (IX.out.keep tt)
 replace BX := Lib.hid (blk_tch tt BX.out (fun h => h))
 clear tt
 go_wp2_with fail
 refine (HE0.out _).mono ?_
 rintro e z5 ⟨rfl, tt⟩
 replace IR := Lib.hid (IR.out.keep tt)
 replace BB := Lib.hid (blk_tch tt BB.out (fun h => h))
 replace TB := Lib.hid (TB.out.trans0 tt)
 replace IX := Lib.hid (IX.out.keep tt)
 replace BX := Lib.hid (blk_tch tt BX.out (fun h => h))
 clear tt
 have he : ∀ w : World, (binOp .eql 48 (.slice none 0 0) (.slice none 0 0)).run Tryz.prog w = .ok (.bool true) w := fun _ => rfl
 go_wp2_with fail
 go_ret
 exact ⟨rfl, TB.out⟩
theorem begun8'_any (w : World) : Calls Tryz.prog 44 #[] w fun e w' => e = .returned (.bool true) /\ Tch No w w' := by
 have H := Lib.hid (begun8_any w)
 go_enter Tryz.func44, Tryz.ntmps44
 go_wp2_with fail
 refine H.out.mono ?_
 rintro e w1 ⟨rfl, t⟩
 go_wp2_with fail
 go_ret
 exact ⟨rfl, t⟩
end
section
def begR (k : Nat) : RecM := match k with
 | 0 => ⟨4, 8589934593, 0, false, [], [⟨[113], [120]⟩]⟩
 | 1 => ⟨5, 8589934593, 0, true, [], []⟩
 | 2 => ⟨1, 4294967297, 0, false, [], []⟩
 | 3 => ⟨2, 4294967297, 4294967297, false, [], []⟩
 | 4 => ⟨8, 4294967297, 0, false, [2], []⟩
 | _ => ⟨3, 8589934593, 0, false, [], []⟩
def begS (k : Nat) : StM := match k with
 | 0 => ⟨1, 1, 1, 0, [], [], [], [], []⟩
 | 1 => ⟨1, 1, 1, 0, [], [⟨8589934593, [⟨[113], [120]⟩]⟩], [], [], []⟩
 | 2 => ⟨1, 2, 2, 0, [⟨4294967297, [113], [120], 1, 0, 0⟩], [], [⟨8589934593, true⟩], [], []⟩
 | 3 => ⟨1, 2, 2, 1, [⟨4294967297, [113], [120], 1, 0, 0⟩], [], [⟨8589934593, true⟩], [], []⟩
 | 4 => ⟨1, 2, 2, 1, [⟨4294967297, [113], [120], 1, 0, 4294967297⟩], [], [⟨8589934593, true⟩], [], []⟩
 | _ => ⟨1, 2, 2, 1, [⟨4294967297, [113], [120], 1, 1, 0⟩], [], [⟨4294967297, false⟩, ⟨8589934593, true⟩], [], [⟨4294967297, [2]⟩]⟩
theorem beg_new : newM 1 = begS 0 := by decide
theorem beg_a0 : applyM (begS 0) (begR 0) = begS 1 := by decide
theorem beg_a1 : applyM (begS 1) (begR 1) = begS 2 := by decide
theorem beg_a2 : applyM (begS 2) (begR 2) = begS 3 := by decide
theorem beg_a3 : applyM (begS 3) (begR 3) = begS 4 := by decide
theorem beg_a4 : applyM (begS 4) (begR 4) = begS 5 := by decide
theorem beg_m0 : mayM (begS 0) = true := by decide
theorem beg_m5 : mayM (begS 5) = true := by decide
theorem beg_mz : mayM ⟨0, 0, 0, 0, [], [], [], [], []⟩ = false := by decide
theorem beg_can : canM (begS 5) (begR 5) = 9 := by decide
theorem beg_ne : decide (begS 5 = begS 4) = false := by decide
end
section
open Go.RowKit Go.Maps
def tidsB (l : List Int) (n : Nat) : Bool := (l.all tidB && strictB l) && decide ((n : Int) <= 2000)
def headB (s : StM) : Bool := ((brokerB s.broker && (decide (1 <= s.nid) && decide (s.nid <= 4294967296))) && (decide (1 <= s.nseq) && decide (s.nseq <= 1099511627776))) && (decide (0 <= s.tx) && decide (s.tx <= 200))
def listsB (s : StM) : Bool := tidsB (s.waits.map (·.tid)) s.waits.length && tidsB (s.ends.map (·.tid)) s.ends.length
def ownB (s : StM) : Bool := tidsB (s.opens.map (·.tid)) s.opens.length && tidsB (s.noes.map (·.tid)) s.noes.length
def mayAll (s : StM) : Bool := ((((headB s && listsB s) && ownB s) && decide ((s.ms.length : Int) <= 72)) && msB s) && sides0 s
theorem tidsB_iff {l : List Int} {n : Nat} : tidsB l n = true ↔ ((∀ x ∈ l, tidB x = true) /\ strictB l = true) /\ n <= 2000 := by
 unfold tidsB
 rw [Bool.and_eq_true, Bool.and_eq_true, List.all_eq_true, decide_eq_true_eq]
 constructor
 ·rintro ⟨h, h2⟩; exact ⟨h, by omega⟩
 ·rintro ⟨h, h2⟩; exact ⟨h, by omega⟩
theorem rec4_iff {t : Int} {ps : List PutM} : recB ⟨4, t, 0, false, [], ps⟩ = true ↔ tidB t = true /\ ps.length <= 10 /\ ps.all putB = true := by
 unfold recB
 simp [Bool.and_eq_true]
theorem rec6_iff {t : Int} {l : List Int} : recB ⟨6, t, 0, false, l, []⟩ = true ↔ tidB t = true /\ (1 <= l.length /\ l.length <= 7) /\ risingB l = true := by
 unfold recB
 simp [Bool.and_eq_true]
theorem yes_any {l : List EndM} (hs : strictB (l.map (·.tid)) = true) (t : Int) : (hasP (·.tid) l t = true /\ yesAt l t = false) ↔ ∃ e ∈ l, e.tid = t /\ e.yes = false := by
 constructor
 ·rintro ⟨h1, h2⟩
  obtain ⟨hp, e⟩ := (hasP_pos hs t).1 h1
  refine ⟨l[posP (·.tid) l t], List.getElem_mem hp, e, ?_⟩
  unfold yesAt at h2
  rw [List.getElem?_eq_getElem hp] at h2
  exact h2
 ·rintro ⟨e, he, h1, h2⟩
  have hh : hasP (·.tid) l t = true := hasP_iff.2 ⟨e, he, h1⟩
  refine ⟨hh, ?_⟩
  obtain ⟨hp, ep⟩ := (hasP_pos hs t).1 hh
  obtain ⟨i, hi, rfl⟩ := List.getElem_of_mem he
  have hii : i = posP (·.tid) l t := by
   rcases Nat.lt_trichotomy i (posP (·.tid) l t) with h | h | h
   ·have := strictB_get hs (i := i) (j := posP (·.tid) l t) h (by simpa using hp)
    simp only [List.getElem_map] at this
    omega
   ·exact h
   ·have := strictB_get hs (i := posP (·.tid) l t) (j := i) h (by simpa using hi)
    simp only [List.getElem_map] at this
    omega
  unfold yesAt
  rw [<- hii, List.getElem?_eq_getElem hi]
  exact h2
theorem mayAll_eq (s : StM) : mayAll s = mayM s := by
 rw [Bool.eq_iff_iff, may_iff]
 unfold mayAll headB listsB ownB sides0 brokerB msB
 simp only [Bool.and_eq_true, decide_eq_true_eq, tidsB_iff, List.all_eq_true, List.mem_map, forall_exists_index, and_imp, forall_apply_eq_imp_iff₂]
 constructor
 ·rintro ⟨⟨⟨⟨⟨⟨⟨⟨h1, h2⟩, h3⟩, h4⟩, ⟨⟨w1, w2⟩, w3⟩, ⟨⟨e1, e2⟩, e3⟩⟩, ⟨⟨o1, o2⟩, o3⟩, ⟨⟨n1, n2⟩, n3⟩⟩, h5⟩, ⟨m1, m2⟩, m3⟩, s1, s2, s3⟩
  refine ⟨h1, h2, h3, h4, by omega, w3, e3, o3, n3, fun m hm => (msgB_iff s m).1 (m1 m hm), m2, m3, e1, e2, ?_, w2, ?_, o2, ?_, n2⟩
  ·intro w hw
   have := s1 w hw
   unfold side1 at this
   rw [Bool.and_eq_true, rec4_iff, Bool.not_eq_true'] at this
   exact ⟨this.2.1, this.1, this.2.2.1, this.2.2.2⟩
  ·intro p hp
   have := s2 p hp
   unfold side2 pendOk at this
   simp only [Bool.and_eq_true, rec6_iff, Bool.not_eq_true', decide_eq_true_eq] at this
   obtain ⟨q1, q2, ⟨⟨q3, q4, q5⟩, q6⟩, q7⟩ := this
   exact ⟨⟨q6, q4, q5, q7⟩, q1, q2⟩
  ·intro p hp
   have := s3 p hp
   unfold side3 pendOk at this
   simp only [Bool.and_eq_true, rec6_iff, Bool.not_eq_true', decide_eq_true_eq] at this
   obtain ⟨q1, q2, ⟨⟨q3, q4, q5⟩, q6⟩, q7⟩ := this
   exact ⟨⟨q6, q4, q5, q7⟩, (yes_any e2 p.tid).1 ⟨q1, q2⟩⟩
 ·intro h
  have hb := h.br
  have tid_of : ∀ t, homeM t = s.broker -> tidB t = true := fun t ht => by unfold tidB; simp only [decide_eq_true_eq]; omega
  refine ⟨⟨⟨⟨⟨⟨⟨⟨h.br, h.nid⟩, h.nseq⟩, h.tx⟩, ⟨⟨fun w hw => (h.waits w hw).tid, h.waits2⟩, h.lw⟩, ⟨⟨h.ends, h.ends2⟩, h.le⟩⟩, ⟨⟨fun p hp => tid_of _ (h.opens p hp).1.home, h.opens2⟩, h.lo⟩, ⟨⟨fun p hp => tid_of _ (h.noes p hp).1.home, h.noes2⟩, h.ln⟩⟩, by have := h.lms; omega⟩, ⟨fun m hm => (msgB_iff s m).2 (h.ms m hm), h.mseq⟩, h.mids⟩, ?_, ?_, ?_⟩
  ·intro w hw
   have k := h.waits w hw
   unfold side1
   rw [Bool.and_eq_true, rec4_iff, Bool.not_eq_true']
   exact ⟨k.no, k.tid, k.len, k.puts⟩
  ·intro p hp
   obtain ⟨k, k1, k2⟩ := h.opens p hp
   unfold side2 pendOk
   simp only [Bool.and_eq_true, rec6_iff, Bool.not_eq_true', decide_eq_true_eq]
   exact ⟨k1, k2, ⟨⟨tid_of _ k.home, k.len, k.rising⟩, k.home⟩, k.other⟩
  ·intro p hp
   obtain ⟨k, k1⟩ := h.noes p hp
   have := (yes_any h.ends2 p.tid).2 k1
   unfold side3 pendOk
   simp only [Bool.and_eq_true, rec6_iff, Bool.not_eq_true', decide_eq_true_eq]
   exact ⟨this.1, this.2, ⟨⟨tid_of _ k.home, k.len, k.rising⟩, k.home⟩, k.other⟩
theorem may_any (s : StM) (hok : OkSt s) (v : Value) (w : World) (h : IsSt w v s) :
  Calls Tryz.prog 18 #[v] w fun e w' => e = .returned (.bool (mayM s)) /\ Tch No w w' := by
 rw [<- mayAll_eq]
 obtain ⟨am, cm, aw, cw, ae, ce, ao, co, an, cn, hv, hms, hws, hes, hos, hns⟩ := h.shape
 have hval : v = .agg #[.int .i64 s.broker, .int .i64 s.nid, .int .i64 s.nseq, .int .i64 s.tx, .slice am s.ms.length cm, .slice aw s.waits.length cw, .slice ae s.ends.length ce, .slice ao s.opens.length co, .slice an s.noes.length cn] := hv
 have HMS : Hid (headB s = true -> listsB s = true -> ∀ W, Tch No w W -> Calls Tryz.prog 55 #[v] W fun e w' => e = .returned (.bool (msB s)) /\ Tch No W w') := fun h1 h2 W T => by
  unfold headB brokerB at h1
  unfold listsB at h2
  simp only [Bool.and_eq_true, decide_eq_true_eq, tidsB_iff] at h1 h2
  exact mayms_any s hok h1.1.1.1.1 h2.2.1.2 (by have := h2.2.2; omega) v W (h.keep T)
 have HSI : Hid (listsB s = true -> ∀ W, Tch No w W -> Calls Tryz.prog 56 #[v] W fun e w' => e = .returned (.bool (sides0 s)) /\ Tch No W w') := fun h2 W T => by
  unfold listsB at h2
  simp only [Bool.and_eq_true, tidsB_iff] at h2
  exact maysides_any s hok h2.2.1.2 (by have := h2.2.2; omega) h2.1.1.2 (by have := h2.1.2; omega) v W (h.keep T)
 have HT1 : Hid (∀ W, Tch No w W -> Calls Tryz.prog 48 #[.slice aw s.waits.length cw, .func (.func 49) #[] #[]] W fun e w' => e = .returned (.bool (tidsB (s.waits.map (·.tid)) s.waits.length)) /\ Tch No W w') := fun W T => by
  obtain ⟨vs, h1, h2, h3⟩ := hws.keep T
  have hz : ((s.waits.map (·.tid)).zip vs).length = s.waits.length := by rw [List.length_zip, List.length_map, h1, Nat.min_self]
  have hz2 := zip_fst (l := s.waits.map (·.tid)) (vs := vs) (by simpa using h1)
  have := tids1 Prod.fst Prod.snd ((s.waits.map (·.tid)).zip vs) (fun x hx => by
   obtain ⟨y, hy, e⟩ := List.mem_map.1 (List.of_mem_zip (a := x.1) (b := x.2) hx).1
   rw [<- e]; exact (hok.waits y hy).1) _ W (by rw [hz]; exact h2) (fun x hx => by
   obtain ⟨i, hi, e⟩ := List.getElem_of_mem (List.of_mem_zip (a := x.1) (b := x.2) hx).2
   obtain ⟨a, c, ea, _⟩ := CellsAt.shape (h3 i (by omega) hi)
   rw [<- e]; exact ⟨a, _, c, ea⟩)
  rw [hz, hz2] at this
  exact this
 have HT2 : Hid (∀ W, Tch No w W -> Calls Tryz.prog 50 #[.slice ae s.ends.length ce, .func (.func 51) #[] #[]] W fun e w' => e = .returned (.bool (tidsB (s.ends.map (·.tid)) s.ends.length)) /\ Tch No W w') := fun W T =>
  tids2 (fun e : EndM => e.tid) (fun e => .bool e.yes) s.ends (fun x hx => hok.ends x hx) _ W (hes.keep T) (fun x _ => ⟨_, rfl⟩)
 have HT3 : Hid (∀ W, Tch No w W -> Calls Tryz.prog 52 #[.slice ao s.opens.length co, .func (.func 53) #[] #[]] W fun e w' => e = .returned (.bool (tidsB (s.opens.map (·.tid)) s.opens.length)) /\ Tch No W w') := fun W T => by
  obtain ⟨vs, h1, h2, h3⟩ := hos.keep T
  have hz : ((s.opens.map (·.tid)).zip vs).length = s.opens.length := by rw [List.length_zip, List.length_map, h1, Nat.min_self]
  have hz2 := zip_fst (l := s.opens.map (·.tid)) (vs := vs) (by simpa using h1)
  have := tids3 Prod.fst Prod.snd ((s.opens.map (·.tid)).zip vs) (fun x hx => by
   obtain ⟨y, hy, e⟩ := List.mem_map.1 (List.of_mem_zip (a := x.1) (b := x.2) hx).1
   rw [<- e]; exact (hok.opens y hy).1) _ W (by rw [hz]; exact h2) (fun x hx => by
   obtain ⟨i, hi, e⟩ := List.getElem_of_mem (List.of_mem_zip (a := x.1) (b := x.2) hx).2
   obtain ⟨a, c, ea, _⟩ := CellsAt.shape (h3 i (by omega) hi)
   rw [<- e]; exact ⟨a, _, c, ea⟩)
  rw [hz, hz2] at this
  exact this
 have HT4 : Hid (∀ W, Tch No w W -> Calls Tryz.prog 52 #[.slice an s.noes.length cn, .func (.func 54) #[] #[]] W fun e w' => e = .returned (.bool (tidsB (s.noes.map (·.tid)) s.noes.length)) /\ Tch No W w') := fun W T => by
  obtain ⟨vs, h1, h2, h3⟩ := hns.keep T
  have hz : ((s.noes.map (·.tid)).zip vs).length = s.noes.length := by rw [List.length_zip, List.length_map, h1, Nat.min_self]
  have hz2 := zip_fst (l := s.noes.map (·.tid)) (vs := vs) (by simpa using h1)
  have := tids4 Prod.fst Prod.snd ((s.noes.map (·.tid)).zip vs) (fun x hx => by
   obtain ⟨y, hy, e⟩ := List.mem_map.1 (List.of_mem_zip (a := x.1) (b := x.2) hx).1
   rw [<- e]; exact (hok.noes y hy).1) _ W (by rw [hz]; exact h2) (fun x hx => by
   obtain ⟨i, hi, e⟩ := List.getElem_of_mem (List.of_mem_zip (a := x.1) (b := x.2) hx).2
   obtain ⟨a, c, ea, _⟩ := CellsAt.shape (h3 i (by omega) hi)
   rw [<- e]; exact ⟨a, _, c, ea⟩)
  rw [hz, hz2] at this
  exact this
 have HBr := Lib.hid (fun W => kbroker_any s.broker W)
 have HB1 := Lib.hid (fun W => between_any s.nid 1 4294967296 W)
 have HB2 := Lib.hid (fun W => between_any s.nseq 1 1099511627776 W)
 have HB3 := Lib.hid (fun W => between_any s.tx 0 200 W)
 obtain ⟨res, hres⟩ : ∃ r, mayAll s = r := ⟨_, rfl⟩
 have HRES := Lib.hid hres
 rw [hres]
 obtain ⟨hd, hhd⟩ : ∃ r, headB s = r := ⟨_, rfl⟩
 obtain ⟨ls, hls⟩ : ∃ r, listsB s = r := ⟨_, rfl⟩
 obtain ⟨ow, how⟩ : ∃ r, ownB s = r := ⟨_, rfl⟩
 have HLM : Hid (s.ms.length <= 9223372036854775807) := by
  obtain ⟨_, c, _, h1, h2⟩ := CellsAt.shape hms
  rw [Hid]; unfold maxLen at h2; omega
 rw [mayAll, hhd, hls, how] at HRES
 rw [hhd, hls] at HMS
 rw [hls] at HSI
 have HHD := Lib.hid hhd
 have HLS := Lib.hid hls
 have HOW := Lib.hid how
 unfold headB at HHD
 unfold listsB at HLS
 unfold ownB at HOW
 clear hhd hls how h hv hms hws hes hos hns hok hres
 generalize brokerB s.broker = b0 at HHD HBr
 generalize (decide (1 <= s.nid) && decide (s.nid <= 4294967296)) = b1 at HHD HB1
 generalize (decide (1 <= s.nseq) && decide (s.nseq <= 1099511627776)) = b2 at HHD HB2
 generalize (decide (0 <= s.tx) && decide (s.tx <= 200)) = b3 at HHD HB3
 generalize tidsB (s.waits.map (·.tid)) s.waits.length = q1 at HLS HT1
 generalize tidsB (s.ends.map (·.tid)) s.ends.length = q2 at HLS HT2
 generalize tidsB (s.opens.map (·.tid)) s.opens.length = q3 at HOW HT3
 generalize tidsB (s.noes.map (·.tid)) s.noes.length = q4 at HOW HT4
 generalize msB s = q5 at HRES HMS
 generalize sides0 s = q6 at HRES HSI
 generalize s.ms.length = nm at hval HRES HLM
 generalize s.waits.length = nw at hval HT1
 generalize s.ends.length = ne at hval HT2
 generalize s.opens.length = no at hval HT3
 generalize s.noes.length = nn at hval HT4
 have hlm := HLM.out
 subst hval
 go_enter Tryz.func18, Tryz.ntmps18
 go_upto_region 1 with fail
 go_cut [3] from 6 to 23 (fun s3 wx => s3 = .bool hd /\ Hid (Tch No w wx) /\ Hid (BoxAt wx w.heap.size [.int .i64 s.broker, .int .i64 s.nid, .int .i64 s.nseq, .int .i64 s.tx, .slice am nm cm, .slice aw nw cw, .slice ae ne ce, .slice ao no co, .slice an nn cn]))
 case first =>
  clear HRES HLS HOW HMS HSI HT1 HT2 HT3 HT4
  cases b0 with
  | false =>
   have hp : Hid (hd = false) := by rw [Hid, <- HHD.out]; simp
   go_wp2_with (first | (go_at_call 46; refine (HBr.out _).mono ?_; rintro e w' ⟨rfl, rfl⟩) | (go_at_call 47; with_reducible refine (HB1.out _).mono ?_; rintro e w' ⟨rfl, rfl⟩) | (go_at_call 47; with_reducible refine (HB2.out _).mono ?_; rintro e w' ⟨rfl, rfl⟩) | (go_at_call 47; with_reducible refine (HB3.out _).mono ?_; rintro e w' ⟨rfl, rfl⟩))
   go_meet
   exact ⟨by rw [hp.out], (Tch.alloc _ _), BoxAt.made _ _ _⟩
  | true =>
  cases b1 with
  | false =>
   have hp : Hid (hd = false) := by rw [Hid, <- HHD.out]; simp
   go_wp2_with (first | (go_at_call 46; refine (HBr.out _).mono ?_; rintro e w' ⟨rfl, rfl⟩) | (go_at_call 47; with_reducible refine (HB1.out _).mono ?_; rintro e w' ⟨rfl, rfl⟩) | (go_at_call 47; with_reducible refine (HB2.out _).mono ?_; rintro e w' ⟨rfl, rfl⟩) | (go_at_call 47; with_reducible refine (HB3.out _).mono ?_; rintro e w' ⟨rfl, rfl⟩))
   go_meet
   exact ⟨by rw [hp.out], (Tch.alloc _ _), BoxAt.made _ _ _⟩
  | true =>
  cases b2 with
  | false =>
   have hp : Hid (hd = false) := by rw [Hid, <- HHD.out]; simp
   go_wp2_with (first | (go_at_call 46; refine (HBr.out _).mono ?_; rintro e w' ⟨rfl, rfl⟩) | (go_at_call 47; with_reducible refine (HB1.out _).mono ?_; rintro e w' ⟨rfl, rfl⟩) | (go_at_call 47; with_reducible refine (HB2.out _).mono ?_; rintro e w' ⟨rfl, rfl⟩) | (go_at_call 47; with_reducible refine (HB3.out _).mono ?_; rintro e w' ⟨rfl, rfl⟩))
   go_meet
   exact ⟨by rw [hp.out], (Tch.alloc _ _), BoxAt.made _ _ _⟩
  | true =>
  cases b3 with
  | false =>
   have hp : Hid (hd = false) := by rw [Hid, <- HHD.out]; simp
   go_wp2_with (first | (go_at_call 46; refine (HBr.out _).mono ?_; rintro e w' ⟨rfl, rfl⟩) | (go_at_call 47; with_reducible refine (HB1.out _).mono ?_; rintro e w' ⟨rfl, rfl⟩) | (go_at_call 47; with_reducible refine (HB2.out _).mono ?_; rintro e w' ⟨rfl, rfl⟩) | (go_at_call 47; with_reducible refine (HB3.out _).mono ?_; rintro e w' ⟨rfl, rfl⟩))
   go_meet
   exact ⟨by rw [hp.out], (Tch.alloc _ _), BoxAt.made _ _ _⟩
  | true =>
   have hp : Hid (hd = true) := by rw [Hid, <- HHD.out]; simp
   go_wp2_with (first | (go_at_call 46; refine (HBr.out _).mono ?_; rintro e w' ⟨rfl, rfl⟩) | (go_at_call 47; with_reducible refine (HB1.out _).mono ?_; rintro e w' ⟨rfl, rfl⟩) | (go_at_call 47; with_reducible refine (HB2.out _).mono ?_; rintro e w' ⟨rfl, rfl⟩) | (go_at_call 47; with_reducible refine (HB3.out _).mono ?_; rintro e w' ⟨rfl, rfl⟩))
   go_meet
   exact ⟨by rw [hp.out], (Tch.alloc _ _), BoxAt.made _ _ _⟩
 case rest =>
  obtain ⟨rfl, TT, HB⟩ := hcut
  clear HHD HBr HB1 HB2 HB3
  obtain ⟨w2, hw2⟩ : ∃ x, x = wc := ⟨_, rfl⟩
  subst hw2
  have c5 := HB.out 5 _ rfl
  go_upto_region 2 with fail
  go_cut [4] from 24 to 31 (fun s4 wx => s4 = .bool ls /\ Hid (Tch No w wx) /\ Hid (BoxAt wx w.heap.size [.int .i64 s.broker, .int .i64 s.nid, .int .i64 s.nseq, .int .i64 s.tx, .slice am nm cm, .slice aw nw cw, .slice ae ne ce, .slice ao no co, .slice an nn cn]))
  case first =>
   clear HRES HOW HMS HSI HT3 HT4
   cases q1 with
   | false =>
    have hp : Hid (ls = false) := by rw [Hid, <- HLS.out]; rfl
    go_wp2_with (first | (go_at_call 48; refine (HT1.out _ TT.out).mono ?_; rintro e w3 ⟨rfl, T3⟩; have NB := Lib.hid (HB.out.keep T3); have d6 := NB.out 6 _ rfl) | (go_at_call 50; refine (HT2.out _ (TT.out.trans0 T3)).mono ?_; rintro e w4 ⟨rfl, T4⟩))
    go_meet
    exact ⟨by rw [hp.out], TT.out.trans0 T3, HB.out.keep T3⟩
   | true =>
    have hp : Hid (ls = q2) := by rw [Hid, <- HLS.out]; rfl
    go_wp2_with (first | (go_at_call 48; refine (HT1.out _ TT.out).mono ?_; rintro e w3 ⟨rfl, T3⟩; have NB := Lib.hid (HB.out.keep T3); have d6 := NB.out 6 _ rfl) | (go_at_call 50; refine (HT2.out _ (TT.out.trans0 T3)).mono ?_; rintro e w4 ⟨rfl, T4⟩))
    go_meet
    exact ⟨by rw [hp.out], (TT.out.trans0 T3).trans0 T4, (HB.out.keep T3).keep T4⟩
  case rest =>
  clear TT HB c5
  obtain ⟨rfl, TT, HB⟩ := hcut
  clear HLS HT1 HT2
  obtain ⟨w3, hw3⟩ : ∃ x, x = wc := ⟨_, rfl⟩
  subst hw3
  have c7 := HB.out 7 _ rfl
  go_upto_region 3 with fail
  go_cut [5] from 32 to 39 (fun s5 wx => s5 = .bool ow /\ Hid (Tch No w wx) /\ Hid (BoxAt wx w.heap.size [.int .i64 s.broker, .int .i64 s.nid, .int .i64 s.nseq, .int .i64 s.tx, .slice am nm cm, .slice aw nw cw, .slice ae ne ce, .slice ao no co, .slice an nn cn]))
  case first =>
   clear HRES HMS HSI
   cases q3 with
   | false =>
    have hp : Hid (ow = false) := by rw [Hid, <- HOW.out]; rfl
    go_wp2_with (first | (go_at_call 52; (fail_if_success (have q := T3)); refine (HT3.out _ TT.out).mono ?_; rintro e w4 ⟨rfl, T3⟩; have NB := Lib.hid (HB.out.keep T3); have d6 := NB.out 8 _ rfl) | (go_at_call 52; refine (HT4.out _ (TT.out.trans0 T3)).mono ?_; rintro e w5 ⟨rfl, T4⟩))
    go_meet
    exact ⟨by rw [hp.out], TT.out.trans0 T3, HB.out.keep T3⟩
   | true =>
    have hp : Hid (ow = q4) := by rw [Hid, <- HOW.out]; rfl
    go_wp2_with (first | (go_at_call 52; (fail_if_success (have q := T3)); refine (HT3.out _ TT.out).mono ?_; rintro e w4 ⟨rfl, T3⟩; have NB := Lib.hid (HB.out.keep T3); have d6 := NB.out 8 _ rfl) | (go_at_call 52; refine (HT4.out _ (TT.out.trans0 T3)).mono ?_; rintro e w5 ⟨rfl, T4⟩))
    go_meet
    exact ⟨by rw [hp.out], (TT.out.trans0 T3).trans0 T4, (HB.out.keep T3).keep T4⟩
  case rest =>
  clear TT HB c7
  obtain ⟨rfl, TT, HB⟩ := hcut
  clear HOW HT3 HT4
  obtain ⟨w4, hw4⟩ : ∃ x, x = wc := ⟨_, rfl⟩
  subst hw4
  have c0 := HB.out 0 _ rfl
  have c1 := HB.out 1 _ rfl
  have c2 := HB.out 2 _ rfl
  have c3 := HB.out 3 _ rfl
  have c4 := HB.out 4 _ rfl
  have c5 := HB.out 5 _ rfl
  have c6 := HB.out 6 _ rfl
  have c7 := HB.out 7 _ rfl
  have c8 := HB.out 8 _ rfl
  cases hd with
  | false =>
   have HE : Hid (res = false) := by rw [Hid, <- HRES.out]; simp
   go_wp2_with fail
   go_ret
   exact ⟨ret_b HE.out.symm, TT.out⟩
  | true =>
  cases ls with
  | false =>
   have HE : Hid (res = false) := by rw [Hid, <- HRES.out]; simp
   go_wp2_with fail
   go_ret
   exact ⟨ret_b HE.out.symm, TT.out⟩
  | true =>
  cases ow with
  | false =>
   have HE : Hid (res = false) := by rw [Hid, <- HRES.out]; simp
   go_wp2_with fail
   go_ret
   exact ⟨ret_b HE.out.symm, TT.out⟩
  | true =>
  have HM2 := Lib.hid (HMS.out rfl rfl)
  have HS2 := Lib.hid (HSI.out rfl)
  clear HMS HSI
  cases hn : decide ((nm : Int) <= 72) with
  | false =>
   have HE : Hid (res = false) := by rw [Hid, <- HRES.out, hn]; simp
   go_wp2_with fail
   go_ret
   exact ⟨ret_b HE.out.symm, TT.out⟩
  | true =>
  have HE : Hid (res = (q5 && q6)) := by rw [Hid, <- HRES.out, hn]; simp
  clear HRES
  cases q5 with
  | false =>
   go_wp2_with (first | (go_at_call 55; refine (HM2.out _ TT.out).mono ?_; rintro e w5 ⟨rfl, T5⟩; have NB := Lib.hid (HB.out.keep T5); have z0 := NB.out 0 _ rfl; have z1 := NB.out 1 _ rfl; have z2 := NB.out 2 _ rfl; have z3 := NB.out 3 _ rfl; have z4 := NB.out 4 _ rfl; have z5 := NB.out 5 _ rfl; have z6 := NB.out 6 _ rfl; have z7 := NB.out 7 _ rfl; have z8 := NB.out 8 _ rfl; skip) | (go_at_call 56; refine (HS2.out _ (TT.out.trans0 T5)).mono ?_; rintro e w6 ⟨rfl, T6⟩))
   go_ret
   exact ⟨ret_b HE.out.symm, TT.out.trans0 T5⟩
  | true =>
   go_wp2_with (first | (go_at_call 55; refine (HM2.out _ TT.out).mono ?_; rintro e w5 ⟨rfl, T5⟩; have NB := Lib.hid (HB.out.keep T5); have z0 := NB.out 0 _ rfl; have z1 := NB.out 1 _ rfl; have z2 := NB.out 2 _ rfl; have z3 := NB.out 3 _ rfl; have z4 := NB.out 4 _ rfl; have z5 := NB.out 5 _ rfl; have z6 := NB.out 6 _ rfl; have z7 := NB.out 7 _ rfl; have z8 := NB.out 8 _ rfl; skip) | (go_at_call 56; refine (HS2.out _ (TT.out.trans0 T5)).mono ?_; rintro e w6 ⟨rfl, T6⟩))
   go_ret
   exact ⟨ret_b HE.out.symm, (TT.out.trans0 T5).trans0 T6⟩
end
end Go.Proofs.YtfedhcnmdmhppaaGreat
