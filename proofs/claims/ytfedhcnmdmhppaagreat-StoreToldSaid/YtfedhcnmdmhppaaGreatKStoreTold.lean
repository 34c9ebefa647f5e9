/- StoreTold: the law StoreTold returns true for every input, and each argument reads behind the call as it read before. No condition. The frame is the kit's proof-skeleton. -/
import Derived.Test.YtfedhcnmdmhppaaGreatPStoreTold26
import Derived.Test.YtfedhcnmdmhppaaGreatPStoreTold41
import Derived.Test.YtfedhcnmdmhppaaGreatRows
import Derived.WalkKit
import Derived.ProofKit
import Derived.OpenShut
import Derived.ShutString
import Derived.ChangeOld
import Derived.Below
namespace Go.Proofs.YtfedhcnmdmhppaaGreat.storeTold
open Go.ChangeShapes Go.WideShapes Go.ChangeAt Go.RowKit Go.Maps
open Go.ChangeMaps (open_string shut_string)
set_option linter.unusedVariables false
set_option linter.unusedSimpArgs false

theorem own : ownKnob Tryz.prog.godebug = none := by kernel_rfl
theorem laidOut : laidOutB Tryz.prog = true := by kernel_rfl

def tL (m : Nat) : List Int := ((List.range 7).filter (fun i => m.testBit i)).map (fun i : Nat => ((i + 2 : Nat) : Int))
def tS (m : Nat) : StM := ⟨1, 1, 1, 0, [], [], [⟨4294967297, false⟩], [], if m = 0 then [] else [⟨4294967297, tL m⟩]⟩
def tA (m : Nat) : RecM := ⟨8, 4294967297, 0, false, tL m, []⟩
def tR (p : Nat) : RecM := ⟨9, 4294967297, 0, false, [((p + 2 : Nat) : Int)], []⟩
def clr (m p : Nat) : Nat := if m.testBit p then m - 2 ^ p else m
theorem t_new : okStB (newM 1) = true := by decide +kernel
theorem t_app : ∀ i : Fin 7, ∀ m : Fin 128, m.val < 2 ^ i.val → tL (m.val + 2 ^ i.val) = tL m.val ++ [((i.val + 2 : Nat) : Int)] := by decide +kernel
theorem t_begin : ∀ m : Fin 128, applyM (newM 1) (tA m.val) = tS m.val := by decide +kernel
theorem t_ok : ∀ m : Fin 128, okStB (tS m.val) = true ∧ mayM (tS m.val) = true := by decide +kernel
theorem t_step : ∀ m : Fin 128, ∀ p : Fin 7, applyM (tS m.val) (tR p.val) = tS (clr m.val p.val) ∧ (decide (canM (tS m.val) (tR p.val) = 0) = m.val.testBit p.val) := by decide +kernel
theorem t_len : ∀ m : Fin 128, ∀ p : Fin 7, clr m.val p.val < 128 ∧ (tL (clr m.val p.val)).length + (if m.val.testBit p.val then 1 else 0) = (tL m.val).length ∧ ∀ q : Fin 7, (clr m.val p.val).testBit q.val = (m.val.testBit q.val && !decide (p.val = q.val)) := by decide +kernel
theorem t_mem : ∀ m : Fin 128, ∀ p : Fin 7, decide (((p.val + 2 : Nat) : Int) ∈ tL m.val) = m.val.testBit p.val := by decide +kernel
theorem t_nil : ∀ m : Fin 128, (tL m.val).length = 0 ↔ m.val = 0 := by decide +kernel
theorem tr_ok (p : Nat) (h : p < 7) : OkRec (tR p) := ⟨by unfold I64 tR; simp, by unfold I64 tR; simp, by unfold I64 tR; simp, fun x hx => (by simp only [tR, List.mem_singleton] at hx; subst hx; unfold I64; omega), fun x hx => (by cases hx)⟩
theorem ta_in : ∀ m : Fin 128, ∀ x ∈ tL m.val, I64 x := by decide +kernel
theorem ta_ok (m : Nat) (h : m < 128) : OkRec (tA m) := ⟨by unfold I64 tA; simp, by unfold I64 tA; simp, by unfold I64 tA; simp, ta_in ⟨m, h⟩, fun x hx => (by cases hx)⟩
theorem tm_lt {m i : Nat} (h : m < 2 ^ i) (hi : i ≤ 7) : m < 128 := Nat.lt_of_lt_of_le h (show 2 ^ i ≤ 2 ^ 7 from Nat.pow_le_pow_right (by omega) hi)
theorem tw {G : Nat → Prop} {w : World} {v : Value} {l : List Int} {k t : Int} (h : ∀ W, Tch G w W → CellsAt W v l.length 1 (l.map (fun x => .int .i64 x))) : RecW (Tch G w) (.agg #[.int .i64 k, .int .i64 t, .int .i64 0, .bool false, v, .slice none 0 0]) ⟨k, t, 0, false, l, []⟩ :=
  ⟨_, _, rfl, fun W t => ⟨h W t, CellsAt.nil _ _⟩⟩
theorem inb {b D d T b' : Bool} (h : b = (D && !T)) (h' : b' = (b || (d && !T))) : b' = ((D || d) && !T) := by subst h h'; cases D <;> cases d <;> cases T <;> rfl
theorem tr_w {{G : Nat → Prop}} {{W : World}} {{ab q : Nat}} (hG : ¬ G ab) (h : W.heap[ab]? = some (.cells #[.int .i64 ((q : Int) + 2)] 3 (0, 0))) : RecW (Tch G W) (.agg #[.int .i64 9, .int .i64 4294967297, .int .i64 0, .bool false, .slice (some ⟨ab, 0, none⟩) 1 1, .slice none 0 0]) (tR q) :=
  ⟨_, _, rfl, fun X t => ⟨by
    have hp := blk_tch t h hG
    refine ⟨rfl, .inr ⟨ab, 0, 1, rfl, Nat.le_refl _, by simp [maxLen], blk_lt hp, fun j x hx => ?_⟩⟩
    rw [Nat.zero_add, blk_cell hp j]
    simpa [tR] using hx, CellsAt.nil _ _⟩⟩
theorem row_told {w : World} {tb q : Nat} {td : Nat → Bool} {T : TypeId} {fr : Nat × Nat} (h : w.heap[tb]? = some (.cells #[.bool false, .bool false, .bool (td 0), .bool (td 1), .bool (td 2), .bool (td 3), .bool (td 4), .bool (td 5), .bool (td 6), .bool false] T fr)) (hq : q < 7) : w.cell? ⟨tb, q + 2, none⟩ = some (.bool (td q)) := by
  rw [blk_cell h]
  match q, hq with
  | 0, _ => rfl
  | 1, _ => rfl
  | 2, _ => rfl
  | 3, _ => rfl
  | 4, _ => rfl
  | 5, _ => rfl
  | 6, _ => rfl
theorem told_facts {bs tb q : Nat} {td : Nat → Bool} {w8 w9 : World} (T9 : Tch (fun k => k = bs) w8 w9) (D8 : w8.heap[tb]? = some (.cells #[.bool false, .bool false, .bool (td 0), .bool (td 1), .bool (td 2), .bool (td 3), .bool (td 4), .bool (td 5), .bool (td 6), .bool false] 61 (0, 0))) (h : bs ≠ tb) (hq : q < 7) : Hid (w9.heap[tb]? = some (.cells #[.bool false, .bool false, .bool (td 0), .bool (td 1), .bool (td 2), .bool (td 3), .bool (td 4), .bool (td 5), .bool (td 6), .bool false] 61 (0, 0))) ∧ w9.cell? ⟨tb, q + 2, none⟩ = some (.bool (td q)) ∧ w9.frozen? ⟨tb, q + 2, none⟩ = false := by
  have D9 := blk_tch T9 D8 (fun e => h e.symm)
  exact ⟨D9, row_told D9 hq, blk_free D9 _⟩
theorem row_set {w : World} {tb q : Nat} {td : Nat → Bool} {T : TypeId} (h : w.heap[tb]? = some (.cells #[.bool false, .bool false, .bool (td 0), .bool (td 1), .bool (td 2), .bool (td 3), .bool (td 4), .bool (td 5), .bool (td 6), .bool false] T (0, 0))) (hq : q < 7) : (w.setCell ⟨tb, q + 2, none⟩ (.bool true)).heap[tb]? = some (.cells #[.bool false, .bool false, .bool ((fun j => if j = q then true else td j) 0), .bool ((fun j => if j = q then true else td j) 1), .bool ((fun j => if j = q then true else td j) 2), .bool ((fun j => if j = q then true else td j) 3), .bool ((fun j => if j = q then true else td j) 4), .bool ((fun j => if j = q then true else td j) 5), .bool ((fun j => if j = q then true else td j) 6), .bool false] T (0, 0)) := by
  rw [blk_set h]
  match q, hq with
  | 0, _ => rfl
  | 1, _ => rfl
  | 2, _ => rfl
  | 3, _ => rfl
  | 4, _ => rfl
  | 5, _ => rfl
  | 6, _ => rfl
theorem told_on {m m1 m2 q : Nat} {td : Nat → Bool} (h : ∀ j, j < 7 → m1.testBit j = (m.testBit j && !td j)) (h2 : ∀ j, j < 7 → m2.testBit j = (m1.testBit j && !decide (q = j))) : ∀ j, j < 7 → m2.testBit j = (m.testBit j && !(fun j => if j = q then true else td j) j) := fun j hj => by
  rw [h2 j hj, h j hj]
  by_cases e : j = q
  · subst e; simp
  · simp [e, Ne.symm e]
theorem told_off {m m1 m2 q : Nat} {td : Nat → Bool} (h : ∀ j, j < 7 → m1.testBit j = (m.testBit j && !td j)) (h2 : ∀ j, j < 7 → m2.testBit j = (m1.testBit j && !decide (q = j))) (hb : m1.testBit q = false) : ∀ j, j < 7 → m2.testBit j = (m.testBit j && !td j) := fun j hj => by
  rw [h2 j hj, ← h j hj]
  by_cases e : q = j
  · subst e; simp [hb]
  · simp [e]
theorem t_noes (m : Nat) : (tS m).noes.length = if m = 0 then 0 else 1 := by unfold tS; split <;> rfl
set_option maxRecDepth 100000 in
set_option maxHeartbeats 16000000 in
theorem walk (a0 : Option Addr) (len0 cap0 : Nat) (a1 : Option Addr) (len1 cap1 : Nat) (z1 : List Int) (w : World) (w0 : IsBls w a0 len0 cap0) (w1 : IsRow .i64 w a1 len1 cap1 z1) :
  Calls Tryz.prog 11 #[.slice a0 len0 cap0, .slice a1 len1 cap1] w fun e w' => e = .returned (.bool true) /\ Below w.heap.size w w' := by
 obtain ⟨hl1, hl2, hbl⟩ := w0
 have HBL := Lib.hid hbl
 have HL1 := Lib.hid hl1
 have HR := Lib.hid w1
 clear hbl hl1 w1
 go_enter Tryz.func11, Tryz.ntmps11
 go_wp2_with fail
 refine (begun10_any w).mono ?_
 rintro e w1 ⟨rfl, t1⟩
 have T1 := Lib.hid t1
 clear t1
 go_wp2_with fail
 go_loopg [6, 7] 8 (fun kx s6 s7 wr => ∃ i m : Nat, ∃ la ln lc, s7 = .int .i64 (i : Nat) /\ s6 = .slice la ln lc /\ i <= 7 /\ 8 - i <= kx /\ m < 2 ^ i /\ Hid (wr.ownsRow 0 3 1 (.slice la ln lc) ln ((tL m).map (fun x => Value.int .i64 x))) /\ Hid (ln = (tL m).length) /\ Hid (Tch No w wr) /\ Hid (∀ k, (Value.slice la ln lc).ownBlock = some k -> w.heap.size <= k))
 case atStart => exact ⟨0, 0, none, 0, 0, rfl, rfl, by omega, by omega, by omega, own_nil _ _ _, rfl, T1.out, fun k h => by simp [Value.ownBlock] at h⟩
 case round =>
  clear T1
  obtain ⟨i, m, la, ln, lc, rfl, rfl, hi7, hkx, hm, OW, HLN, TW, HOB⟩ := hrel
  have HM := Lib.hid hm
  clear hm
  by_cases hi : (i : Int) < 7
  ·have hpw : Hid (m < 2 ^ (i + 1) /\ m + 2 ^ i < 2 ^ (i + 1)) := by have := HM.out; rw [Nat.pow_succ]; exact ⟨by omega, by omega⟩
   by_cases hil : (i : Int) < (len0 : Int)
   ·obtain ⟨pb, po, pe, ha0, hpc⟩ := HBL.out i (by omega)
    subst ha0
    have hpe : wr.cell? ⟨pb, po + i, none⟩ = some (.bool pe) := TW.out.cell hpc (fun h => h)
    clear hpc
    cases pe with
    | false =>
     go_wp2_with fail
     go_roundg (7 - i)
     case measure => omega
     case rel => exact ⟨i + 1, m, la, ln, lc, by go_num, rfl, by omega, by omega, hpw.out.1, OW, HLN, TW, HOB⟩
    | true =>
     obtain ⟨w3, hw3⟩ : ∃ x, wr.alloc (.cells #[.int .i64 ((i : Int) + 2)] 3) = x := ⟨_, rfl⟩
     have T3 : Hid (Tch No wr w3) := by rw [Hid, <- hw3]; exact Tch.alloc _ _
     have C3 : Hid (CellsAt w3 (.slice (some ⟨wr.heap.size, 0, none⟩) 1 1) 1 1 [.int .i64 ((i : Int) + 2)]) := by rw [Hid, <- hw3]; exact cells_lit wr #[.int .i64 ((i : Int) + 2)] 3 1 _ rfl rfl (0, 0)
     have O3 : Hid (w3.ownsRow 0 3 1 (.slice la ln lc) ln ((tL m).map (fun x => Value.int .i64 x))) := own_tch OW.out T3.out (fun k _ h => h)
     have hlen : ln <= 7 := by rw [HLN.out]; simp only [tL, List.length_map]; exact Nat.le_trans (List.length_filter_le _ _) (by simp)
     have HLE := Lib.hid hlen
     clear hlen
     go_wp2_with (refine wpList_appE eltInt _ rfl _ _ rfl _ _ _ rfl O3.out _ _ _ rfl C3.out (fun u hu => by simp only [List.mem_singleton] at hu; subst hu; rfl) (by have := HLE.out; omega) ?_; intro a' n' cap' w4 hA hn)
     have E1 : Hid (tL (m + 2 ^ i) = tL m ++ [((i + 2 : Nat) : Int)]) := t_app ⟨i, by omega⟩ ⟨m, tm_lt HM.out hi7⟩ HM.out
     obtain ⟨g1, g2⟩ := hA.on (TW.out.trans0 T3.out) (fun k h => HOB.out k h)
     go_roundg (7 - i)
     case measure => omega
     case rel => exact ⟨i + 1, m + 2 ^ i, _, _, _, by go_num, rfl, by omega, by omega, hpw.out.2, by rw [Hid, E1.out, List.map_append]; exact hn ▸ hA.own, by rw [Hid, E1.out, List.length_append, <- HLN.out]; exact hn, g1, g2⟩
   ·go_wp2_with fail
    go_roundg (7 - i)
    case measure => omega
    case rel => exact ⟨i + 1, m, la, ln, lc, by go_num, rfl, by omega, by omega, hpw.out.1, OW, HLN, TW, HOB⟩
  ·obtain rfl : i = 7 := by omega
   have hm7 : m < 128 := HM.out
   have HM7 := Lib.hid hm7
   have hln7 : ln <= 7 := by rw [HLN.out]; simp only [tL, List.length_map]; exact Nat.le_trans (List.length_filter_le _ _) (by simp)
   go_wp2_with fail
   refine (snew_any 1 _).mono ?_
   rintro e w2 ⟨v2, rfl, i2, t2⟩
   have S2 := Lib.hid (StW.of i2)
   have T2 := Lib.hid (TW.out.trans0 t2)
   have T2b := Lib.hid t2
   clear i2 t2
   go_wp2_with fail
   refine (sApply_any (newM 1) (tA m) (okSt_of t_new) (ta_ok m hm7) No _ _ w2 S2.out (tw (fun W t => by have h := CellsAt.ofRow (own_tch OW.out (T2b.out.trans0 t) (fun k _ h => h)); have e := HLN.out; show CellsAt W (.slice la ln lc) (tL m).length 1 _; rw [<- e]; exact h))).mono ?_
   rintro e w3 ⟨v3, rfl, s3, t3⟩
   have S3 : Hid (StW (Tch No w3) v3 (tS m)) := by
    have h := t_begin ⟨m, hm7⟩
    rw [Hid, <- h]
    exact s3.mono (fun X tx => tx.mono (fun _ _ h => h.elim))
   have T3 := Lib.hid (T2.out.trans0 t3)
   have T23 := Lib.hid (T2b.out.trans0 t3)
   clear s3 t3 S2 T2 T2b
   have HL0 : Hid ((tL m).length = 0 ↔ m = 0) := t_nil ⟨m, hm7⟩
   obtain ⟨nn, hnn⟩ : ∃ x, (tS m).noes.length = x := ⟨_, rfl⟩
   have HNN : Hid (nn = if m = 0 then 0 else 1) := by rw [Hid, <- hnn]; exact t_noes m
   have HNE := Lib.hid hnn
   clear hnn
   have hnl : ((nn : Int) == 1) = decide (0 < ln) := by
    have h1 := HL0.out; have h2 := HLN.out; have h3 := HNN.out
    by_cases hm0 : m = 0
    ·rw [if_pos hm0] at h3; subst h3; have : ¬ 0 < ln := by omega
     simp [this]
    ·rw [if_neg hm0] at h3; subst h3; have : 0 < ln := by omega
     simp [this]
   go_wp2_with (refine SB.new T23.out S3.out rfl rfl rfl rfl ?_; intro wz BZ; generalize w3.heap.size = bs at BZ ⊢; obtain ⟨an, cn, c8⟩ := BZ.out.noes0 HNE.out)
   have BW := Lib.hid (BZ.out.widen (.cells #[.bool false, .bool false, .bool false, .bool false, .bool false, .bool false, .bool false, .bool false, .bool false, .bool false] 61 (0, 0)))
   have TBH : Hid ((wz.alloc (.cells #[.bool false, .bool false, .bool false, .bool false, .bool false, .bool false, .bool false, .bool false, .bool false, .bool false] 61 (0, 0))).heap[wz.heap.size]? = some (.cells #[.bool false, .bool false, .bool false, .bool false, .bool false, .bool false, .bool false, .bool false, .bool false, .bool false] 61 (0, 0))) := blk_new _ _
   have HBT := Lib.hid (BZ.out.lt bs rfl)
   have HWT := Lib.hid (BZ.out.t.size)
   clear BZ c8 hnl
   generalize wz.heap.size = tb at BW TBH HBT HWT ⊢
   generalize wz.alloc (.cells #[.bool false, .bool false, .bool false, .bool false, .bool false, .bool false, .bool false, .bool false, .bool false, .bool false] 61 (0, 0)) = w5 at BW TBH ⊢
   clear T3 T23 S3 HNN HNE
   generalize wr = wp at OW TW BW HWT
   go_loopg [10, 12] 21 (fun kx s10 s12 wx => ∃ i mk : Nat, ∃ td : Nat -> Bool, s12 = .int .i64 (i : Nat) /\ s10 = .int .i64 ((tL mk).length : Nat) /\ i <= 20 /\ 21 - i <= kx /\ mk < 128 /\ Hid (SB (fun k => k = bs ∨ k = tb) wp bs (tS mk) wx) /\ Hid (wx.heap[tb]? = some (.cells #[.bool false, .bool false, .bool (td 0), .bool (td 1), .bool (td 2), .bool (td 3), .bool (td 4), .bool (td 5), .bool (td 6), .bool false] 61 (0, 0))) /\ Hid (∀ q, q < 7 -> mk.testBit q = (m.testBit q && !td q)))
   case atStart => exact ⟨0, m, fun _ => false, rfl, by rw [<- HLN.out], by omega, by omega, hm7, BW, TBH, fun q _ => by simp⟩
   case round =>
    clear BW TBH
    obtain ⟨i, mk, td, rfl, rfl, hi20, hkx, hmk, SS, TD, HTD⟩ := hrel
    by_cases hil : (i : Int) < (len1 : Int)
    ·by_cases hi2 : (i : Int) < 20
     ·rcases HR.out with ⟨h1, h2, h3, h4⟩ | ⟨x0, rfl, h1, h2, h3, h4, h5⟩
      ·omega
      obtain ⟨x, hx⟩ : ∃ x, z1.getD i 0 = x := ⟨_, rfl⟩
      have c1 : wp.cell? (x0.add i) = some (.int .i64 x) := by rw [<- hx]; exact TW.out.cell (h4 i (by omega)) (fun h => h)
      have c2 : wr.cell? (x0.add i) = some (.int .i64 x) := SS.out.t.cell c1 (fun h => h)
      have g1 := Int.tmod_lt_of_pos x (show (0 : Int) < 7 by omega)
      have g2 := Int.lt_tmod_of_pos x (show (0 : Int) < 7 by omega)
      clear c1 h1 h2 h3 h4 h5 hx
      obtain ⟨q, hq, hq7⟩ : ∃ q : Nat, 2 + Int.tmod x 7 % 7 = (q : Int) + 2 /\ q < 7 := by
       exact ⟨(Int.tmod x 7 % 7).toNat, by omega, by omega⟩
      have HQ := Lib.hid hq
      clear hq
      go_wp2_with fail
      rw [HQ.out, show (Int.tmod x 7 + 7) % 7 = (q : Int) by have := HQ.out; omega]
      have HRW : Hid (CellsAt wr (.slice la ln lc) ln 1 ((tL m).map (fun x => Value.int .i64 x))) := CellsAt.keep (CellsAt.ofRow OW.out) SS.out.t
      have HTC : Hid (∀ q, q < 7 -> wr.cell? ⟨tb, q + 2, none⟩ = some (.bool (td q))) := by
       intro q h
       rw [blk_cell TD.out]
       match q, h with
       | 0, _ => rfl
       | 1, _ => rfl
       | 2, _ => rfl
       | 3, _ => rfl
       | 4, _ => rfl
       | 5, _ => rfl
       | 6, _ => rfl
      clear c2 g1 g2
      generalize wr = wo at SS TD HRW HTC ⊢
      go_loopg [14, 15] (ln + 1) (fun kx s14 s15 wx => ∃ k : Nat, ∃ b : Bool, s15 = .int .i64 (k : Nat) /\ s14 = .bool b /\ k <= ln /\ ln + 1 - k <= kx /\ Hid (b = (decide (((q + 2 : Nat) : Int) ∈ (tL m).take k) && !td q)) /\ Hid (wx = wo))
      case atStart => exact ⟨0, false, rfl, rfl, by omega, by omega, by show false = _; simp, rfl⟩
      case round =>
       obtain ⟨k, b, rfl, rfl, hkl, hkx2, HB, HWO⟩ := hrel
       by_cases hkn : (k : Int) < (ln : Int)
       ·rcases HRW.out.2 with ⟨h0, h1⟩ | ⟨lb, lo, lc', h1, _, _, _, h6⟩
        ·injection h0 with _ h0; omega
        injection h1 with h1 _ h2
        subst h1; subst h2
        have hlk : k < (tL m).length := by rw [<- HLN.out]; omega
        obtain ⟨y, hy⟩ : ∃ y, (tL m)[k] = y := ⟨_, rfl⟩
        have ck : wr.cell? ⟨lb, lo + k, none⟩ = some (.int .i64 y) := by rw [HWO.out]; exact h6 k _ (by simp [List.getElem?_map, List.getElem?_eq_getElem hlk, hy])
        have ct : wr.cell? ⟨tb, q + 2, none⟩ = some (.bool (td q)) := by rw [HWO.out]; exact HTC.out q hq7
        have HBK : Hid (decide (((q + 2 : Nat) : Int) ∈ (tL m).take (k + 1)) = (decide (((q + 2 : Nat) : Int) ∈ (tL m).take k) || decide (y = ((q + 2 : Nat) : Int)))) := by
         show decide _ = _
         rw [List.take_succ_eq_append_getElem hlk, hy]
         simp [eq_comm]
        clear hlk hy h6
        obtain ⟨tq, htq⟩ : ∃ x, td q = x := ⟨_, rfl⟩
        rw [htq] at ct
        have HTQ := Lib.hid htq
        clear htq
        by_cases hyp : y = (q : Int) + 2
        ·subst hyp
         have hyp : True := trivial
         cases b with
         | true =>
          go_wp2_with fail
          go_roundg (ln - k)
          case measure => omega
          case rel => exact ⟨k + 1, true, by go_num, rfl, by omega, by omega, by show _ = _; rw [HBK.out]; exact inb HB.out (by rw [HTQ.out]; simp [hyp]), HWO⟩
         | false =>
          cases tq with
          | true =>
           go_wp2_with fail
           go_roundg (ln - k)
           case measure => omega
           case rel => exact ⟨k + 1, false, by go_num, rfl, by omega, by omega, by show _ = _; rw [HBK.out]; exact inb HB.out (by rw [HTQ.out]; simp [hyp]), HWO⟩
          | false =>
           go_wp2_with fail
           go_roundg (ln - k)
           case measure => omega
           case rel => exact ⟨k + 1, true, by go_num, rfl, by omega, by omega, by show _ = _; rw [HBK.out]; exact inb HB.out (by rw [HTQ.out]; simp [hyp]), HWO⟩
        ·cases b with
         | true =>
          go_wp2_with fail
          go_roundg (ln - k)
          case measure => omega
          case rel => exact ⟨k + 1, true, by go_num, rfl, by omega, by omega, by show _ = _; rw [HBK.out]; exact inb HB.out (by rw [HTQ.out]; simp [hyp]), HWO⟩
         | false =>
          go_wp2_with fail
          go_roundg (ln - k)
          case measure => omega
          case rel => exact ⟨k + 1, false, by go_num, rfl, by omega, by omega, by show _ = _; rw [HBK.out]; exact inb HB.out (by rw [HTQ.out]; simp [hyp]), HWO⟩
       ·obtain rfl : k = ln := by omega
        obtain rfl := HWO.out
        have HBB : Hid (b = mk.testBit q) := by
         have h := HB.out
         have e : (tL m).take k = tL m := List.take_of_length_le (by have := HLN.out; omega)
         rw [e, t_mem ⟨m, HM7.out⟩ ⟨q, hq7⟩] at h
         rw [Hid, HTD.out q hq7]; exact h
        go_upto_region 26 with fail
        have BX := Lib.hid ((SS.out.keep (Tch.alloc wr (.cells #[.int .i64 ((q : Int) + 2)] 3 (0, 0)))).keep (Tch.alloc (wr.alloc (.cells #[.int .i64 ((q : Int) + 2)] 3 (0, 0))) (.cells #[.int .i64 9, .int .i64 4294967297, .int .i64 0, .bool false, .slice (some ⟨wr.heap.size, 0, none⟩) 1 1, .slice none 0 0] 37 (0, 0))))
        have hsz : (wr.alloc (.cells #[.int .i64 ((q : Int) + 2)] 3 (0, 0))).heap.size = wr.heap.size + 1 := by show (wr.heap.push _).size = _; exact Array.size_push _
        have RBX : Hid (((wr.alloc (.cells #[.int .i64 ((q : Int) + 2)] 3 (0, 0))).alloc (.cells #[.int .i64 9, .int .i64 4294967297, .int .i64 0, .bool false, .slice (some ⟨wr.heap.size, 0, none⟩) 1 1, .slice none 0 0] 37 (0, 0))).heap[wr.heap.size + 1]? = some (.cells #[.int .i64 9, .int .i64 4294967297, .int .i64 0, .bool false, .slice (some ⟨wr.heap.size, 0, none⟩) 1 1, .slice none 0 0] 37 (0, 0))) := by rw [Hid, <- hsz]; exact blk_new _ _
        have ABX : Hid (((wr.alloc (.cells #[.int .i64 ((q : Int) + 2)] 3 (0, 0))).alloc (.cells #[.int .i64 9, .int .i64 4294967297, .int .i64 0, .bool false, .slice (some ⟨wr.heap.size, 0, none⟩) 1 1, .slice none 0 0] 37 (0, 0))).heap[wr.heap.size]? = some (.cells #[.int .i64 ((q : Int) + 2)] 3 (0, 0))) := blk_tch (Tch.alloc _ _) (blk_new _ _) (fun h => h)
        have TDX : Hid (((wr.alloc (.cells #[.int .i64 ((q : Int) + 2)] 3 (0, 0))).alloc (.cells #[.int .i64 9, .int .i64 4294967297, .int .i64 0, .bool false, .slice (some ⟨wr.heap.size, 0, none⟩) 1 1, .slice none 0 0] 37 (0, 0))).heap[tb]? = some (.cells #[.bool false, .bool false, .bool (td 0), .bool (td 1), .bool (td 2), .bool (td 3), .bool (td 4), .bool (td 5), .bool (td 6), .bool false] 61 (0, 0))) := blk_tch (Tch.alloc _ _) (blk_tch (Tch.alloc _ _) TD.out (fun h => h)) (fun h => h)
        have HAB : Hid (wr.heap.size ≠ bs /\ wr.heap.size ≠ tb /\ wr.heap.size + 1 ≠ bs /\ wr.heap.size + 1 ≠ tb) := by
         have h1 := SS.out.lt bs (.inl rfl); have h2 := SS.out.lt tb (.inr rfl)
         exact ⟨by omega, by omega, by omega, by omega⟩
        clear hsz HRW HTC SS TD
        generalize (wr.alloc (.cells #[.int .i64 ((q : Int) + 2)] 3 (0, 0))).alloc (.cells #[.int .i64 9, .int .i64 4294967297, .int .i64 0, .bool false, .slice (some ⟨wr.heap.size, 0, none⟩) 1 1, .slice none 0 0] 37 (0, 0)) = w6 at BX RBX ABX TDX ⊢
        generalize hrb : wr.heap.size + 1 = rb at RBX HAB ⊢
        clear hrb
        generalize wr.heap.size = ab at RBX ABX HAB
        obtain ⟨cx, hcx⟩ : ∃ x, canM (tS mk) (tR q) = x := ⟨_, rfl⟩
        have hst := t_step ⟨mk, hmk⟩ ⟨q, hq7⟩
        have hok := t_ok ⟨mk, hmk⟩
        have hcb : ((cx : Int) == 0) = b := by
         have h := hst.2
         simp only [hcx] at h
         rw [HBB.out, <- h]
         cases cx <;> simp <;> omega
        have HCN := Lib.hid (fun v vr W h hr => scan_any (tS mk) (okSt_of hok.1) ((may_iff _).1 hok.2) (tR q) (tr_ok q hq7) v vr W h hr)
        simp only [hcx] at HCN
        have HAP := Lib.hid hst.1
        have HOK := Lib.hid (okSt_of hok.1)
        clear hst hok hcx
        obtain ⟨d0, d1, d2, d3, d4, d5⟩ := kc6 RBX.out
        go_wp2_with (refine SB.load BX.out rfl ?_; intro A1 HA1)
        refine (HCN.out _ _ w6 (HA1.out.is (Tch.refl _ _)) ((tr_w (G := fun k => k = bs ∨ k = tb) (fun e => by have := HAB.out; omega) ABX.out).is (Tch.refl _ _))).mono ?_
        rintro e w7 ⟨rfl, t7⟩
        have B7 := Lib.hid (BX.out.keep t7)
        have R7 := Lib.hid (blk_tch t7 RBX.out (fun h => h))
        have A7 := Lib.hid (blk_tch t7 ABX.out (fun h => h))
        have D7 := Lib.hid (blk_tch t7 TDX.out (fun h => h))
        clear HA1 t7 BX RBX ABX TDX HCN d0 d1 d2 d3 d4 d5
        obtain ⟨d0, d1, d2, d3, d4, d5⟩ := kc6 R7.out
        go_wp2_with (refine SB.load B7.out rfl ?_; intro A2 HA2)
        refine (sApply_any (tS mk) (tR q) HOK.out (tr_ok q hq7) _ _ _ w7 HA2.out (tr_w (fun e => by have := HAB.out; omega) A7.out)).mono ?_
        rintro e w8 ⟨v8, rfl, s8, t8⟩
        have S8 : Hid (StW (Tch (fun k => (k = bs ∨ k = tb) /\ k < w7.heap.size) w8) v8 (tS (clr mk q))) := by
         rw [Hid, <- show applyM (tS mk) (tR q) = tS (clr mk q) from HAP.out]; exact s8
        have T8 := Lib.hid t8
        have D8 := Lib.hid (blk_tch t8 D7.out (fun h => h))
        clear s8 t8 HA2 R7 A7 D7 d0 d1 d2 d3 d4 d5
        have htl := t_len ⟨mk, hmk⟩ ⟨q, hq7⟩
        have HTL := Lib.hid htl
        obtain ⟨m2, hm2⟩ : ∃ x, clr mk q = x := ⟨_, rfl⟩
        obtain ⟨L2, hL2⟩ : ∃ x, (tL m2).length = x := ⟨_, rfl⟩
        simp only [hm2] at htl S8
        have HM2 : Hid (m2 < 128) := htl.1
        have HBN : Hid (bs ≠ tb) := by have := HBT.out; show bs ≠ tb; omega
        have HNZ : Hid (m2 = 0 -> L2 = 0) := by rw [<- hL2]; exact (t_nil ⟨m2, HM2.out⟩).2
        have HNP : Hid (m2 ≠ 0 -> 0 < L2) := fun h => by
         have h1 := (t_nil ⟨m2, HM2.out⟩).1
         simp only [hL2] at h1
         have h2 : L2 ≠ 0 := fun e => h (h1 e)
         omega
        have HTD2 : Hid (∀ j, j < 7 -> m2.testBit j = (mk.testBit j && !decide (q = j))) := fun j hj => htl.2.2 ⟨j, hj⟩
        have HLQ : Hid ((tL mk).length = L2 + if b = true then 1 else 0) := by
         have h := htl.2.1
         rw [Hid, HBB.out, <- hL2]; exact h.symm
        have HM2e := Lib.hid hm2
        have HL2e := Lib.hid hL2
        clear htl HTL hm2 hL2
        have HLB : Hid ((tL m2).length <= 7) := by simp only [Hid, tL, List.length_map]; exact Nat.le_trans (List.length_filter_le _ _) (by simp)
        have hL27 : L2 <= 7 := by have := HLB.out; have := HL2e.out; omega
        cases b with
        | true =>
         have hLL : (tL mk).length = L2 + 1 := HLQ.out
         rw [hLL]
         clear hLL
         by_cases hz : m2 = 0
         ·have hl0 : L2 = 0 := HNZ.out hz
          have HZ := Lib.hid hz
          clear hz
          subst hl0
          go_wp2_with (with_reducible show wpList Tryz.prog _ _ (⟨none, .store 27 (.tmp _) (.tmp _), _, _, _, none⟩ :: _) _ _; refine SB.store B7.out T8.out S8.out rfl rfl ?_; intro w9 B9 T9; obtain ⟨D9, u1, u2⟩ := told_facts T9.out D8.out HBN.out hq7; obtain BZ := Lib.hid (B9.out.keepG (Tch.setCell w9 ⟨tb, q + 2, none⟩ (.bool true) (fun _ => ⟨.inr rfl, Ne.symm HBN.out⟩))); obtain ⟨an2, cn2, c8⟩ := BZ.out.noes0 (show (tS m2).noes.length = 0 by rw [t_noes, if_pos HZ.out]))
          go_roundg (20 - i)
          case measure => omega
          case rel => exact ⟨i + 1, m2, fun j => if j = q then true else td j, by go_num, (by rw [HL2e.out]; try rfl), by omega, by omega, HM2.out, BZ, row_set D9.out hq7, told_on HTD.out HTD2.out⟩
         ·have hlp : 0 < L2 := HNP.out hz
          have HZ := Lib.hid hz
          clear hz
          go_wp2_with (with_reducible show wpList Tryz.prog _ _ (⟨none, .store 27 (.tmp _) (.tmp _), _, _, _, none⟩ :: _) _ _; refine SB.store B7.out T8.out S8.out rfl rfl ?_; intro w9 B9 T9; obtain ⟨D9, u1, u2⟩ := told_facts T9.out D8.out HBN.out hq7; obtain BZ := Lib.hid (B9.out.keepG (Tch.setCell w9 ⟨tb, q + 2, none⟩ (.bool true) (fun _ => ⟨.inr rfl, Ne.symm HBN.out⟩))); obtain ⟨nb, no, cn2, pa, pc, kc1, kc2, c8, e0, e1⟩ := BZ.out.noes1 (show (tS m2).noes = [⟨4294967297, tL m2⟩] by unfold tS; rw [if_neg HZ.out]); rw [HL2e.out] at e1)
          go_roundg (20 - i)
          case measure => omega
          case rel => exact ⟨i + 1, m2, fun j => if j = q then true else td j, by go_num, (by rw [HL2e.out]; try rfl), by omega, by omega, HM2.out, BZ, row_set D9.out hq7, told_on HTD.out HTD2.out⟩
        | false =>
         have hLL : (tL mk).length = L2 := HLQ.out
         rw [hLL]
         clear hLL
         by_cases hz : m2 = 0
         ·have hl0 : L2 = 0 := HNZ.out hz
          have HZ := Lib.hid hz
          clear hz
          subst hl0
          go_wp2_with (with_reducible show wpList Tryz.prog _ _ (⟨none, .store 27 (.tmp _) (.tmp _), _, _, _, none⟩ :: _) _ _; refine SB.store B7.out T8.out S8.out rfl rfl ?_; intro w9 BZ T9; obtain ⟨D9, u1, u2⟩ := told_facts T9.out D8.out HBN.out hq7; clear u1 u2; obtain ⟨an2, cn2, c8⟩ := BZ.out.noes0 (show (tS m2).noes.length = 0 by rw [t_noes, if_pos HZ.out]))
          go_roundg (20 - i)
          case measure => omega
          case rel => exact ⟨i + 1, m2, td, by go_num, (by rw [HL2e.out]; try rfl), by omega, by omega, HM2.out, BZ, D9, told_off HTD.out HTD2.out (by rw [<- HBB.out])⟩
         ·have hlp : 0 < L2 := HNP.out hz
          have HZ := Lib.hid hz
          clear hz
          go_wp2_with (with_reducible show wpList Tryz.prog _ _ (⟨none, .store 27 (.tmp _) (.tmp _), _, _, _, none⟩ :: _) _ _; refine SB.store B7.out T8.out S8.out rfl rfl ?_; intro w9 BZ T9; obtain ⟨D9, u1, u2⟩ := told_facts T9.out D8.out HBN.out hq7; clear u1 u2; obtain ⟨nb, no, cn2, pa, pc, kc1, kc2, c8, e0, e1⟩ := BZ.out.noes1 (show (tS m2).noes = [⟨4294967297, tL m2⟩] by unfold tS; rw [if_neg HZ.out]); rw [HL2e.out] at e1)
          go_roundg (20 - i)
          case measure => omega
          case rel => exact ⟨i + 1, m2, td, by go_num, (by rw [HL2e.out]; try rfl), by omega, by omega, HM2.out, BZ, D9, told_off HTD.out HTD2.out (by rw [<- HBB.out])⟩
     ·obtain ⟨eb, eo, ce, ke1, ke2, c6, f0, f1⟩ := SS.out.ends1 (show (tS mk).ends = [⟨4294967297, false⟩] from rfl)
      go_wp2_with fail
      go_ret
      exact ⟨rfl, (TW.out.trans0 SS.out.t).below0⟩
    ·obtain ⟨eb, eo, ce, ke1, ke2, c6, f0, f1⟩ := SS.out.ends1 (show (tS mk).ends = [⟨4294967297, false⟩] from rfl)
     go_wp2_with fail
     go_ret
     exact ⟨rfl, (TW.out.trans0 SS.out.t).below0⟩

/-! ### THE ROW's STEP: WRITTEN OUT: LEAVE IT -/
set_option maxRecDepth 100000 in
theorem lifted (os : Os) (started : os.Started) (H : Type) (enc : TypeId × Value → H) :
    ReturnsInHanded {} Tryz.checked os 11 .any (Rows.storeToldSpec.pre6 enc Tryz.prog Tryz.f11 Rows.storeToldRow.domain false) (Rows.storeToldSpec.post enc Tryz.prog Tryz.f11 false true false false) := by
  refine returnsInHanded_of_change (C := Tryz.checked) own started (by kernel_rfl) Tryz.func11
    (ChangeSpec.witness6 (enc := enc) (C := Tryz.checked) false ⟨#[], #[.slice none 0 0, .slice none 0 0], []⟩ 8 (by kernel_rfl) (by kernel_rfl) (by kernel_rfl) (by kernel_rfl)) ?_
  intro W base args ds gs before hval0 hW hcnd _
  have hval : ∀ (j : Nat) t v, Tryz.f11.params[j]? = some t → args[j]? = some v → Value.okWide Tryz.prog W .any base t v := hval0
  have hW' := hW
  obtain ⟨p, q, hA0, hV, rfl, hfz, hnd⟩ := hW
  have hA : DataW.TrodAll enc Tryz.prog W 0 (fun _ => true) true Tryz.f11.params.toList args.toList ds p := hA0
  rw [Tryz.params11] at hA hval
  obtain ⟨v0, vs0, d0, ds0, p0, q0, hargs, rfl, rfl, h0, r0⟩ := trodAll_cons hA
  obtain ⟨v1, vs1, d1, ds1, p1, q1, rfl, rfl, rfl, h1, r1⟩ := trodAll_cons r0
  obtain ⟨rfl, rfl, rfl⟩ := trodAll_nil r1
  obtain rfl : args = #[v0, v1] := by cases args; simp_all
  obtain ⟨rfl, rfl⟩ := trodVars_none hV
  obtain ⟨a0, len0, cap0, rfl⟩ := okWide_slice Tryz.underlying47 (hval 0 47 v0 rfl rfl)
  have k0 := h0
  have lt0 : ∀ x ∈ p0, x.block < W.heap.size := by obtain ⟨m, hm⟩ := k0; exact DataW.trod_lt m _ _ _ hm
  have w0 : IsBls W a0 len0 cap0 := by
    obtain ⟨fuel, hf⟩ := h0
    obtain ⟨_, _, _, hcs, hw⟩ := open_bls hf
    simp [Value.cells] at hcs
    obtain ⟨rfl, rfl, rfl⟩ := hcs
    exact hw
  obtain ⟨a1, len1, cap1, rfl⟩ := okWide_slice Tryz.underlying34 (hval 1 34 v1 rfl rfl)
  have k1 := h1
  have lt1 : ∀ x ∈ p1, x.block < W.heap.size := by obtain ⟨m, hm⟩ := k1; exact DataW.trod_lt m _ _ _ hm
  obtain ⟨z1, w1⟩ : ∃ zs, IsRow .i64 W a1 len1 cap1 zs := by
    obtain ⟨fuel, hf⟩ := h1
    rcases open_ints Tryz.underlying34 Tryz.underlying3 (by kernel_rfl) hf with ⟨hcs, _⟩ | ⟨x, l, c, zs, hcs, _, hl, hm, hz, _, hcell, hwz⟩
    · simp [Value.cells] at hcs
      obtain ⟨rfl, rfl, rfl⟩ := hcs
      exact ⟨[], .inl ⟨rfl, rfl, rfl, rfl⟩⟩
    · simp [Value.cells] at hcs
      obtain ⟨rfl, rfl, rfl⟩ := hcs
      exact ⟨zs, .inr ⟨_, rfl, hl, hm, by simpa using hz, hcell, hwz⟩⟩
  clear hA0 hval0
  refine (walk a0 len0 cap0 a1 len1 cap1 z1 W w0 w1).mono fun e W' ⟨he, bel⟩ => ?_
  subst he
  exact ⟨_, rfl, _, _, _, [], _, [], hW', trodAll_mk1 (shut_bool Tryz.underlying4 _), (trodAll_cons_mk (Below.trod laidOut (by kernel_rfl) (of_decide_eq_true (by kernel_rfl)) k0 bel lt0) (trodAll_cons_mk (Below.trod laidOut (by kernel_rfl) (of_decide_eq_true (by kernel_rfl)) k1 bel lt1) trodAll_mk0)), rfl, bel.frame _, fun h => by cases h⟩

theorem clo0 : Tryz.prog.mayEnter = true := by kernel_rfl
theorem clo1 : (Rows.storeToldRow.lifted == Tryz.prog.liftsFinal) = true := by kernel_rfl
theorem clo2 : (Tryz.prog.make == some Rows.storeToldRow.make) = true := by kernel_rfl
theorem clo3 : (Rows.storeToldRow.inPlace == Tryz.prog.inPlace 11) = true := by kernel_rfl
theorem clo4 : (Rows.storeToldRow.unfollowed == Tryz.prog.unfollowed 11) = true := by kernel_rfl
theorem clo5 : (Rows.storeToldRow.recurses == Tryz.prog.recurses 11) = true := by kernel_rfl
theorem clo6 : (Rows.storeToldRow.named == Tryz.prog.varsNamed 11) = true := by kernel_rfl
theorem clo7 : laidOutB Tryz.prog = true := by kernel_rfl
theorem clo8 : mapsRowed Tryz.prog = true := by kernel_rfl
theorem clo9 : Tryz.prog.stopsHeard = true := by kernel_rfl
theorem clo10 : (Rows.storeToldRow.plainKeys == Tryz.prog.plainKeys) = true := by kernel_rfl
set_option maxRecDepth 100000 in
theorem closed : joinedFacts Tryz.prog 11 Tryz.f11 Rows.storeToldSpec Rows.storeToldRow = true := by
  unfold joinedFacts
  rw [clo0, clo1, clo2, clo3, clo4, clo5, clo6, clo7, clo8, clo9, clo10]
  kernel_rfl
theorem over : Rows.storeToldRow.holds Tryz.pinned (OpenSpec.ofChange Rows.storeToldSpec) :=
  OpenClaim.holds_of_wide 11 Tryz.f11 rfl rfl rfl rfl rfl rfl rfl ⟨rfl, rfl, rfl, rfl, rfl⟩ rfl rfl rfl rfl rfl (by kernel_rfl) Tryz.func11 closed
    (of_decide_eq_true (by kernel_rfl)) (by unfold Func.isWrapper; first | (rw [if_pos (by decide +kernel)]; kernel_rfl) | (rw [if_neg (by decide +kernel)]; exact ⟨rfl, rfl⟩))
    (fun os started H enc _ => lifted os started H enc)

/--  THE STATEMENT  -/
theorem proved : Rows.StoreToldSaid := over
#print axioms proved
end Go.Proofs.YtfedhcnmdmhppaaGreat.storeTold
