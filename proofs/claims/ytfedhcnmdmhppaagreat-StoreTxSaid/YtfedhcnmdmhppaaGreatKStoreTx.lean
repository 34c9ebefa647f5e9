/- StoreTx: the law StoreTx returns true for every input, and each argument reads behind the call as it read before. No condition. The frame is the kit's proof-skeleton. -/
import Derived.Test.YtfedhcnmdmhppaaGreatPStoreTx20
import Derived.Test.YtfedhcnmdmhppaaGreatPStoreTx29
import Derived.Test.YtfedhcnmdmhppaaGreatPStoreTx32
import Derived.Test.YtfedhcnmdmhppaaGreatRows
import Derived.WalkKit
import Derived.ProofKit
import Derived.OpenShut
import Derived.ShutString
namespace Go.Proofs.YtfedhcnmdmhppaaGreat.storeTx
open Go.ChangeShapes Go.WideShapes Go.ChangeAt Go.RowKit Go.Maps
open Go.ChangeMaps (open_string shut_string)
set_option linter.unusedVariables false      -- a walk need not use every 'w<i>' (that an integer argument fits its kind)

theorem own : ownKnob Tryz.prog.godebug = none := by kernel_rfl

def txM (k : Nat) : StM := ⟨6, 1, 1, k, [], [], [], [], []⟩
def txR (t : Int) : RecM := ⟨1, t, 0, false, [], []⟩
theorem tx_lo : ∀ i : Fin 200, canM (txM i.val) (txR (makeM 6 (i.val + 1 : Nat))) = 0 ∧ applyM (txM i.val) (txR (makeM 6 ((i.val + 1 : Nat) : Int))) = txM (i.val + 1) := by decide +kernel
theorem tx_201 : canM (txM 200) (txR (makeM 6 201)) = 5 ∧ applyM (txM 200) (txR (makeM 6 201)) = txM 200 := by decide +kernel
theorem tx_hi : ∀ i : Fin 4, canM (txM 200) (txR (makeM 6 ((i.val + 202 : Nat) : Int))) = 12 ∧ applyM (txM 200) (txR (makeM 6 ((i.val + 202 : Nat) : Int))) = txM 200 := by decide +kernel
theorem tx_may : ∀ i : Fin 201, mayM (txM i.val) = true := by decide +kernel
theorem tx_ok (k : Nat) (h : k ≤ 200) : OkSt (txM k) := by constructor <;> simp [txM, I64] <;> omega
theorem txr_ok (t : Int) (h : I64 t) : OkRec (txR t) := ⟨by unfold I64 txR; simp, h, by unfold I64 txR; simp, fun x hx => (by cases hx), fun x hx => (by cases hx)⟩
theorem make_b (n : Int) : I64 (makeM 6 n) := by
  unfold makeM I64
  split <;> omega
theorem tx_new : newM 6 = txM 0 := by decide
theorem new6 : newM 6 = ⟨6, 1, 1, 0, [], [], [], [], []⟩ := by decide
theorem tx_mayP (k : Nat) (h : k ≤ 200) : MayP (txM k) := (may_iff _).1 (tx_may ⟨k, by omega⟩)
set_option maxRecDepth 100000 in
set_option maxHeartbeats 16000000 in
theorem walk (a0 : Int) (a1 : Int) (w0 : (Lit.int .i64 a0).wf = true) (w1 : (Lit.int .i64 a1).wf = true) (w : World) :
    Calls Tryz.prog 12 #[.int .i64 a0, .int .i64 a1] w fun e w' => e = .returned (.bool true) /\ Below w.heap.size w w' := by
  have hb0 := wf_b64 w0
  have hb1 := wf_b64 w1
  by_cases p0 : a0 < 0
  · go_enter Tryz.func12, Tryz.ntmps12
    go_wp2_with fail
    refine (begun10_any w).mono ?_
    rintro e w1 ⟨rfl, t1⟩
    go_wp2_with fail
    go_ret
    exact ⟨rfl, t1.below0⟩
  by_cases p1 : 205 < a0
  · go_enter Tryz.func12, Tryz.ntmps12
    go_wp2_with fail
    refine (begun10_any w).mono ?_
    rintro e w1 ⟨rfl, t1⟩
    go_wp2_with fail
    go_ret
    exact ⟨rfl, t1.below0⟩
  obtain ⟨n, rfl⟩ : ∃ n : Nat, a0 = (n : Int) := ⟨a0.toNat, by omega⟩
  have hn5 : n <= 205 := by omega
  have hsk : I64 a1 := hb1
  clear w0 w1 hb0 hb1
  go_enter Tryz.func12, Tryz.ntmps12
  go_wp2_with fail
  refine (begun10_any w).mono ?_
  rintro e w1 ⟨rfl, t1⟩
  have T1 := Lib.hid t1
  clear t1
  go_wp2_with fail
  refine (snew_any 6 _).mono ?_
  rintro e w2 ⟨v2, rfl, i2, t2⟩
  have s2 := new_box (StW.of i2)
  have i2' := i2
  rw [new6] at i2'
  obtain ⟨am, cm, aw, cw, ae, ce, ao, co, an, cn, rfl⟩ := i2'.vals
  simp only [List.length_nil] at s2 i2 ⊢
  obtain ⟨bs, hbs⟩ : ∃ x, w2.heap.size = x := ⟨_, rfl⟩
  obtain ⟨w3, hw3⟩ : ∃ x, w2.alloc (.cells #[.int .i64 6, .int .i64 1, .int .i64 1, .int .i64 0, .slice am 0 cm, .slice aw 0 cw, .slice ae 0 ce, .slice ao 0 co, .slice an 0 cn] 27) = x := ⟨_, rfl⟩
  have S3 : Hid (StW (Tch (fun q => q = bs) w3) (.agg #[.int .i64 6, .int .i64 1, .int .i64 1, .int .i64 0, .slice am 0 cm, .slice aw 0 cw, .slice ae 0 ce, .slice ao 0 co, .slice an 0 cn]) (txM 0)) := by rw [Hid, <- hw3, <- hbs, <- tx_new]; exact s2 _
  have B3 : Hid (w3.heap[bs]? = some (.cells #[.int .i64 6, .int .i64 1, .int .i64 1, .int .i64 0, .slice am 0 cm, .slice aw 0 cw, .slice ae 0 ce, .slice ao 0 co, .slice an 0 cn] 27 (0, 0))) := by rw [Hid, <- hw3, <- hbs]; exact blk_new _ _
  have T3 : Hid (Tch No w w3) := (T1.out.trans0 t2).trans0 (by rw [<- hw3]; exact Tch.alloc _ _)
  have HBW : Hid (w.heap.size <= bs) := by rw [<- hbs]; exact (T1.out.trans0 t2).size
  clear i2 t2 T1 i2' s2
  go_wp2_with fail
  clear hw3 hbs
  go_loopg [7] n (fun kx s7 wr => ∃ i k : Nat, s7 = .int .i64 (i : Nat) /\ 1 <= i /\ i <= n + 1 /\ n + 1 - i <= kx /\ k = min (i - 1) 200 /\ ∃ am cm aw cw ae ce ao co an cn, Hid (wr.heap[bs]? = some (.cells #[.int .i64 6, .int .i64 1, .int .i64 1, .int .i64 ((k : Nat) : Int), .slice am 0 cm, .slice aw 0 cw, .slice ae 0 ce, .slice ao 0 co, .slice an 0 cn] 27 (0, 0))) /\ Hid (StW (Tch (fun q => q = bs) wr) (.agg #[.int .i64 6, .int .i64 1, .int .i64 1, .int .i64 ((k : Nat) : Int), .slice am 0 cm, .slice aw 0 cw, .slice ae 0 ce, .slice ao 0 co, .slice an 0 cn]) (txM k)) /\ Hid (Tch No w wr))
  case atStart => exact ⟨1, 0, rfl, by omega, by omega, by omega, by simp, _, _, _, _, _, _, _, _, _, _, B3.out, S3.out, T3.out⟩
  case round =>
    clear B3 S3 T3
    obtain ⟨i, k, rfl, hi1, hi2, hgk, hk, am, cm, aw, cw, ae, ce, ao, co, an, cn, BB, SS, TW⟩ := hrel
    have hk2 : k <= 200 := by omega
    by_cases hlt : (i : Int) <= (n : Int)
    · have hcc : ∃ ec kn : Nat, canM (txM k) (txR (makeM 6 (i : Nat))) = ec /\ applyM (txM k) (txR (makeM 6 (i : Nat))) = txM kn /\ kn = min i 200 /\ ((i <= 200 /\ ec = 0) ∨ (200 < i /\ ec = 5) ∨ (200 < i /\ ec = 12)) := by
        by_cases h1 : i <= 200
        · have h := tx_lo ⟨i - 1, by omega⟩
          have e1 : i - 1 + 1 = i := by omega
          have e2 : k = i - 1 := by omega
          simp only [e1] at h
          rw [e2]
          exact ⟨_, _, h.1, h.2, by omega, .inl ⟨h1, rfl⟩⟩
        · by_cases h2 : i = 201
          · subst h2
            have e2 : k = 200 := by omega
            rw [e2]
            exact ⟨_, _, tx_201.1, tx_201.2, by omega, .inr (.inl ⟨by omega, rfl⟩)⟩
          · have h := tx_hi ⟨i - 202, by omega⟩
            have e1 : i - 202 + 202 = i := by omega
            have e2 : k = 200 := by omega
            simp only [e1] at h
            rw [e2]
            exact ⟨_, _, h.1, h.2, by omega, .inr (.inr ⟨by omega, rfl⟩)⟩
      obtain ⟨ec, kn, hcan, hapl, hkn, hcs⟩ := hcc
      obtain ⟨mk, hmk⟩ : ∃ x, makeM 6 (i : Nat) = x := ⟨_, rfl⟩
      have hmb : I64 mk := by rw [<- hmk]; exact make_b _
      have HMK := Lib.hid (fun W => rmake_any 6 (i : Nat) (by unfold I64; omega) (by unfold I64; omega) W)
      simp only [hmk] at HMK hcan hapl
      have HRO := Lib.hid (txr_ok mk hmb)
      have HSO := Lib.hid (tx_ok k hk2)
      have HMP := Lib.hid (tx_mayP k hk2)
      have HAPL := Lib.hid hapl
      have HKN := Lib.hid hkn
      clear hkn hk
      have HCN := Lib.hid (fun v vr W h hr => scan_any (txM k) HSO.out HMP.out (txR mk) HRO.out v vr W h hr)
      simp only [hcan] at HCN
      clear hmk hapl hcan
      go_wp2_with fail
      refine (HMK.out _).mono ?_
      rintro e w' ⟨rfl, rfl⟩
      have BA : Hid ((wr.alloc (.cells #[.int .i64 1, .int .i64 mk, .int .i64 0, .bool false, .slice none 0 0, .slice none 0 0] 37)).heap[bs]? = some (.cells #[.int .i64 6, .int .i64 1, .int .i64 1, .int .i64 ((k : Nat) : Int), .slice am 0 cm, .slice aw 0 cw, .slice ae 0 ce, .slice ao 0 co, .slice an 0 cn] 27 (0, 0))) := blk_tch (Tch.alloc _ _) BB.out (fun h => h)
      have c0 : (wr.alloc (.cells #[.int .i64 1, .int .i64 mk, .int .i64 0, .bool false, .slice none 0 0, .slice none 0 0] 37)).cell? ⟨bs, 0, none⟩ = some (.int .i64 6) := (blk_cell BA.out 0).trans rfl
      have c1 : (wr.alloc (.cells #[.int .i64 1, .int .i64 mk, .int .i64 0, .bool false, .slice none 0 0, .slice none 0 0] 37)).cell? ⟨bs, 1, none⟩ = some (.int .i64 1) := (blk_cell BA.out 1).trans rfl
      have c2 : (wr.alloc (.cells #[.int .i64 1, .int .i64 mk, .int .i64 0, .bool false, .slice none 0 0, .slice none 0 0] 37)).cell? ⟨bs, 2, none⟩ = some (.int .i64 1) := (blk_cell BA.out 2).trans rfl
      have c3 : (wr.alloc (.cells #[.int .i64 1, .int .i64 mk, .int .i64 0, .bool false, .slice none 0 0, .slice none 0 0] 37)).cell? ⟨bs, 3, none⟩ = some (.int .i64 ((k : Nat) : Int)) := (blk_cell BA.out 3).trans rfl
      have c4 : (wr.alloc (.cells #[.int .i64 1, .int .i64 mk, .int .i64 0, .bool false, .slice none 0 0, .slice none 0 0] 37)).cell? ⟨bs, 4, none⟩ = some (.slice am 0 cm) := (blk_cell BA.out 4).trans rfl
      have c5 : (wr.alloc (.cells #[.int .i64 1, .int .i64 mk, .int .i64 0, .bool false, .slice none 0 0, .slice none 0 0] 37)).cell? ⟨bs, 5, none⟩ = some (.slice aw 0 cw) := (blk_cell BA.out 5).trans rfl
      have c6 : (wr.alloc (.cells #[.int .i64 1, .int .i64 mk, .int .i64 0, .bool false, .slice none 0 0, .slice none 0 0] 37)).cell? ⟨bs, 6, none⟩ = some (.slice ae 0 ce) := (blk_cell BA.out 6).trans rfl
      have c7 : (wr.alloc (.cells #[.int .i64 1, .int .i64 mk, .int .i64 0, .bool false, .slice none 0 0, .slice none 0 0] 37)).cell? ⟨bs, 7, none⟩ = some (.slice ao 0 co) := (blk_cell BA.out 7).trans rfl
      have c8 : (wr.alloc (.cells #[.int .i64 1, .int .i64 mk, .int .i64 0, .bool false, .slice none 0 0, .slice none 0 0] 37)).cell? ⟨bs, 8, none⟩ = some (.slice an 0 cn) := (blk_cell BA.out 8).trans rfl
      go_wp2_with fail
      obtain ⟨rb, hrb⟩ : ∃ x, wr.heap.size = x := ⟨_, rfl⟩
      obtain ⟨w5, hw5⟩ : ∃ x, wr.alloc (.cells #[.int .i64 1, .int .i64 mk, .int .i64 0, .bool false, .slice none 0 0, .slice none 0 0] 37) = x := ⟨_, rfl⟩
      have T5 : Hid (Tch No wr w5) := by rw [Hid, <- hw5]; exact Tch.alloc _ _
      have R5 : Hid (w5.heap[rb]? = some (.cells #[.int .i64 1, .int .i64 mk, .int .i64 0, .bool false, .slice none 0 0, .slice none 0 0] 37 (0, 0))) := by rw [Hid, <- hw5, <- hrb]; exact blk_new _ _
      have B5 := Lib.hid (blk_tch T5.out BB.out (fun h => h))
      have S5 := Lib.hid (stw_fwd SS.out T5.out)
      have HLB : Hid (bs < w5.heap.size) := blk_lt B5.out
      rw [hw5]
      try rw [hrb]
      have hIR : IsRec w5 (.agg #[.int .i64 1, .int .i64 mk, .int .i64 0, .bool false, .slice none 0 0, .slice none 0 0]) (txR mk) := ⟨_, _, rfl, CellsAt.nil _ _, CellsAt.nil _ _⟩
      have HC2 := HCN.out _ _ w5 (S5.out.is (Tch.refl _ _)) hIR
      refine HC2.mono ?_
      rintro e w6 ⟨rfl, t6⟩
      have T56 := Lib.hid t6
      have B6 := Lib.hid (blk_tch t6 B5.out (fun h => h))
      have R6 := Lib.hid (blk_tch t6 R5.out (fun h => h))
      have S6 := Lib.hid (stw_fwd S5.out t6)
      have TW6 : Hid (Tch No w w6) := (TW.out.trans0 T5.out).trans0 t6
      clear hw5 hrb t6 HCN HMK BB SS c0 c1 c2 c3 c4 c5 c6 c7 c8
      obtain ⟨c0, c1, c2, c3, c4, c5, c6, c7, c8⟩ := kc9 B6.out
      obtain ⟨d0, d1, d2, d3, d4, d5⟩ := kc6 R6.out
      obtain ⟨fz0, fz1, fz2, fz3, fz4, fz5, fz6, fz7, fz8⟩ := kf9 B6.out
      have HAPP := Lib.hid (sApply_any (txM k) (txR mk) HSO.out HRO.out (fun q => q = bs) _ _ w6 S6.out (rec_nil (k := 1) (t := mk) (i := 0) (y := false)))
      rw [HAPL.out] at HAPP
      have hi3 : ((i : Int) <= 200 ↔ i <= 200) := by omega
      rcases hcs with ⟨h1, rfl⟩ | ⟨h1, rfl⟩ | ⟨h1, rfl⟩
      · have g1 : (i : Int) <= 200 := by omega
        have g2 : ¬ (200 < (i : Int)) := by omega
        go_wp2_with fail
        refine HAPP.out.mono ?_
        rintro e w7 ⟨v7, rfl, s7, t7⟩
        obtain ⟨bm, dm, bw, dw, be, de, bo, do_, bn, dn, rfl⟩ := stw_vals s7 (Tch.refl _ _)
        simp only [txM, List.length_nil] at s7 ⊢
        have B7 := Lib.hid (blk_tch t7 B6.out (fun h => h))
        obtain ⟨wz, hwz, HRZ, TZ⟩ : ∃ X, ((((((((w7.setCell ⟨bs, 0, none⟩ (.int .i64 6)).setCell ⟨bs, 1, none⟩ (.int .i64 1)).setCell ⟨bs, 2, none⟩ (.int .i64 1)).setCell ⟨bs, 3, none⟩ (.int .i64 ((kn : Nat) : Int))).setCell ⟨bs, 4, none⟩ (.slice bm 0 dm)).setCell ⟨bs, 5, none⟩ (.slice bw 0 dw)).setCell ⟨bs, 6, none⟩ (.slice be 0 de)).setCell ⟨bs, 7, none⟩ (.slice bo 0 do_)).setCell ⟨bs, 8, none⟩ (.slice bn 0 dn) = X /\ Hid (X.heap[bs]? = some (.cells #[.int .i64 6, .int .i64 1, .int .i64 1, .int .i64 ((kn : Nat) : Int), .slice bm 0 dm, .slice bw 0 dw, .slice be 0 de, .slice bo 0 do_, .slice bn 0 dn] 27 (0, 0))) /\ Hid (Tch (fun q => q = bs) w7 X) := by
          obtain ⟨g1, g2⟩ := set9e (.int .i64 6) (.int .i64 1) (.int .i64 1) (.int .i64 ((kn : Nat) : Int)) (.slice bm 0 dm) (.slice bw 0 dw) (.slice be 0 de) (.slice bo 0 do_) (.slice bn 0 dn) B7.out
          exact ⟨_, rfl, g1, g2⟩
        have SZ : Hid (StW (Tch (fun q => q = bs) wz) (.agg #[.int .i64 6, .int .i64 1, .int .i64 1, .int .i64 ((kn : Nat) : Int), .slice bm 0 dm, .slice bw 0 dw, .slice be 0 de, .slice bo 0 do_, .slice bn 0 dn]) (txM kn)) := apl_box s7 (Nat.lt_of_lt_of_le HLB.out T56.out.size) TZ.out
        have TWZ : Hid (Tch No w wz) := (TW6.out.trans0 t7).fresh TZ.out (fun q e => by have := HBW.out; omega)
        obtain ⟨z0, z1, z2, z3, z4, z5, z6, z7, z8⟩ := kc9 B7.out
        obtain ⟨y0, y1, y2, y3, y4, y5, y6, y7, y8⟩ := kf9 B7.out
        clear s7 t7
        go_wp2_with fail
        go_roundg (n - i)
        case measure => omega
        case rel => exact ⟨i + 1, kn, by go_num, by omega, by omega, by omega, by rw [HKN.out]; simp, _, _, _, _, _, _, _, _, _, _, HRZ.out, SZ.out, TWZ.out⟩
      · have g1 : ¬ ((i : Int) <= 200) := by omega
        have g2 : 200 < (i : Int) := by omega
        go_wp2_with fail
        refine HAPP.out.mono ?_
        rintro e w7 ⟨v7, rfl, s7, t7⟩
        obtain ⟨bm, dm, bw, dw, be, de, bo, do_, bn, dn, rfl⟩ := stw_vals s7 (Tch.refl _ _)
        simp only [txM, List.length_nil] at s7 ⊢
        have B7 := Lib.hid (blk_tch t7 B6.out (fun h => h))
        obtain ⟨wz, hwz, HRZ, TZ⟩ : ∃ X, ((((((((w7.setCell ⟨bs, 0, none⟩ (.int .i64 6)).setCell ⟨bs, 1, none⟩ (.int .i64 1)).setCell ⟨bs, 2, none⟩ (.int .i64 1)).setCell ⟨bs, 3, none⟩ (.int .i64 ((kn : Nat) : Int))).setCell ⟨bs, 4, none⟩ (.slice bm 0 dm)).setCell ⟨bs, 5, none⟩ (.slice bw 0 dw)).setCell ⟨bs, 6, none⟩ (.slice be 0 de)).setCell ⟨bs, 7, none⟩ (.slice bo 0 do_)).setCell ⟨bs, 8, none⟩ (.slice bn 0 dn) = X /\ Hid (X.heap[bs]? = some (.cells #[.int .i64 6, .int .i64 1, .int .i64 1, .int .i64 ((kn : Nat) : Int), .slice bm 0 dm, .slice bw 0 dw, .slice be 0 de, .slice bo 0 do_, .slice bn 0 dn] 27 (0, 0))) /\ Hid (Tch (fun q => q = bs) w7 X) := by
          obtain ⟨g1, g2⟩ := set9e (.int .i64 6) (.int .i64 1) (.int .i64 1) (.int .i64 ((kn : Nat) : Int)) (.slice bm 0 dm) (.slice bw 0 dw) (.slice be 0 de) (.slice bo 0 do_) (.slice bn 0 dn) B7.out
          exact ⟨_, rfl, g1, g2⟩
        have SZ : Hid (StW (Tch (fun q => q = bs) wz) (.agg #[.int .i64 6, .int .i64 1, .int .i64 1, .int .i64 ((kn : Nat) : Int), .slice bm 0 dm, .slice bw 0 dw, .slice be 0 de, .slice bo 0 do_, .slice bn 0 dn]) (txM kn)) := apl_box s7 (Nat.lt_of_lt_of_le HLB.out T56.out.size) TZ.out
        have TWZ : Hid (Tch No w wz) := (TW6.out.trans0 t7).fresh TZ.out (fun q e => by have := HBW.out; omega)
        obtain ⟨z0, z1, z2, z3, z4, z5, z6, z7, z8⟩ := kc9 B7.out
        obtain ⟨y0, y1, y2, y3, y4, y5, y6, y7, y8⟩ := kf9 B7.out
        clear s7 t7
        go_wp2_with fail
        go_roundg (n - i)
        case measure => omega
        case rel => exact ⟨i + 1, kn, by go_num, by omega, by omega, by omega, by rw [HKN.out]; simp, _, _, _, _, _, _, _, _, _, _, HRZ.out, SZ.out, TWZ.out⟩
      · have g1 : ¬ ((i : Int) <= 200) := by omega
        have g2 : 200 < (i : Int) := by omega
        go_wp2_with fail
        refine HAPP.out.mono ?_
        rintro e w7 ⟨v7, rfl, s7, t7⟩
        obtain ⟨bm, dm, bw, dw, be, de, bo, do_, bn, dn, rfl⟩ := stw_vals s7 (Tch.refl _ _)
        simp only [txM, List.length_nil] at s7 ⊢
        have B7 := Lib.hid (blk_tch t7 B6.out (fun h => h))
        obtain ⟨wz, hwz, HRZ, TZ⟩ : ∃ X, ((((((((w7.setCell ⟨bs, 0, none⟩ (.int .i64 6)).setCell ⟨bs, 1, none⟩ (.int .i64 1)).setCell ⟨bs, 2, none⟩ (.int .i64 1)).setCell ⟨bs, 3, none⟩ (.int .i64 ((kn : Nat) : Int))).setCell ⟨bs, 4, none⟩ (.slice bm 0 dm)).setCell ⟨bs, 5, none⟩ (.slice bw 0 dw)).setCell ⟨bs, 6, none⟩ (.slice be 0 de)).setCell ⟨bs, 7, none⟩ (.slice bo 0 do_)).setCell ⟨bs, 8, none⟩ (.slice bn 0 dn) = X /\ Hid (X.heap[bs]? = some (.cells #[.int .i64 6, .int .i64 1, .int .i64 1, .int .i64 ((kn : Nat) : Int), .slice bm 0 dm, .slice bw 0 dw, .slice be 0 de, .slice bo 0 do_, .slice bn 0 dn] 27 (0, 0))) /\ Hid (Tch (fun q => q = bs) w7 X) := by
          obtain ⟨g1, g2⟩ := set9e (.int .i64 6) (.int .i64 1) (.int .i64 1) (.int .i64 ((kn : Nat) : Int)) (.slice bm 0 dm) (.slice bw 0 dw) (.slice be 0 de) (.slice bo 0 do_) (.slice bn 0 dn) B7.out
          exact ⟨_, rfl, g1, g2⟩
        have SZ : Hid (StW (Tch (fun q => q = bs) wz) (.agg #[.int .i64 6, .int .i64 1, .int .i64 1, .int .i64 ((kn : Nat) : Int), .slice bm 0 dm, .slice bw 0 dw, .slice be 0 de, .slice bo 0 do_, .slice bn 0 dn]) (txM kn)) := apl_box s7 (Nat.lt_of_lt_of_le HLB.out T56.out.size) TZ.out
        have TWZ : Hid (Tch No w wz) := (TW6.out.trans0 t7).fresh TZ.out (fun q e => by have := HBW.out; omega)
        obtain ⟨z0, z1, z2, z3, z4, z5, z6, z7, z8⟩ := kc9 B7.out
        obtain ⟨y0, y1, y2, y3, y4, y5, y6, y7, y8⟩ := kf9 B7.out
        clear s7 t7
        go_wp2_with fail
        go_roundg (n - i)
        case measure => omega
        case rel => exact ⟨i + 1, kn, by go_num, by omega, by omega, by omega, by rw [HKN.out]; simp, _, _, _, _, _, _, _, _, _, _, HRZ.out, SZ.out, TWZ.out⟩
    · obtain rfl : i = n + 1 := by omega
      obtain ⟨mk2, hmk2⟩ : ∃ x, makeM 6 a1 = x := ⟨_, rfl⟩
      have hmb : I64 mk2 := by rw [<- hmk2]; exact make_b _
      have HMK2 := Lib.hid (fun W => rmake_any 6 a1 (by unfold I64; omega) hsk W)
      simp only [hmk2] at HMK2
      have HRO := Lib.hid (txr_ok mk2 hmb)
      have HSO := Lib.hid (tx_ok k hk2)
      have HMP := Lib.hid (tx_mayP k hk2)
      have hkk : k = min n 200 := by omega
      have HKK := Lib.hid hkk
      clear hmk2 hk hkk
      go_wp2_with fail
      refine (HMK2.out _).mono ?_
      rintro e w' ⟨rfl, rfl⟩
      go_upto_region 16 with fail
      obtain ⟨xb, hxb⟩ : ∃ x, wr.heap.size = x := ⟨_, rfl⟩
      obtain ⟨w8, hw8⟩ : ∃ x, wr.alloc (.cells #[.int .i64 1, .int .i64 mk2, .int .i64 0, .bool false, .slice none 0 0, .slice none 0 0] 37) = x := ⟨_, rfl⟩
      have T8 : Hid (Tch No wr w8) := by rw [Hid, <- hw8]; exact Tch.alloc _ _
      have X8 : Hid (w8.heap[xb]? = some (.cells #[.int .i64 1, .int .i64 mk2, .int .i64 0, .bool false, .slice none 0 0, .slice none 0 0] 37 (0, 0))) := by rw [Hid, <- hw8, <- hxb]; exact blk_new _ _
      have B8 := Lib.hid (blk_tch T8.out BB.out (fun h => h))
      have S8 := Lib.hid (stw_fwd SS.out T8.out)
      have TW8 : Hid (Tch No w w8) := TW.out.trans0 T8.out
      rw [hw8]
      try rw [hxb]
      clear hw8 hxb BB SS TW
      obtain ⟨rc, hrc⟩ : ∃ b, recB (txR mk2) = b := ⟨_, rfl⟩
      obtain ⟨cx, hcx⟩ : ∃ x, canM (txM k) (txR mk2) = x := ⟨_, rfl⟩
      have hIR : ∀ p : TchW w8, IsRec p.wo (.agg #[.int .i64 1, .int .i64 mk2, .int .i64 0, .bool false, .slice none 0 0, .slice none 0 0]) (txR mk2) := fun p => ⟨_, _, rfl, CellsAt.nil _ _, CellsAt.nil _ _⟩
      have hIS : ∀ p : TchW w8, IsSt p.wo (.agg #[.int .i64 6, .int .i64 1, .int .i64 1, .int .i64 ((k : Nat) : Int), .slice am 0 cm, .slice aw 0 cw, .slice ae 0 ce, .slice ao 0 co, .slice an 0 cn]) (txM k) := fun p => (stw_fwd S8.out p.t).is (Tch.refl _ _)
      have HRR : Hid (∀ p : TchW w8, Calls Tryz.prog 34 #[.agg #[.int .i64 1, .int .i64 mk2, .int .i64 0, .bool false, .slice none 0 0, .slice none 0 0]] p.wo fun e w' => e = .returned (.bool rc) /\ Tch No p.wo w') := fun p => by
        have h := rrecord_any (txR mk2) HRO.out _ p.wo (hIR p); rw [hrc] at h; exact h
      have HC1 : Hid (∀ p : TchW w8, Calls Tryz.prog 26 #[.agg #[.int .i64 6, .int .i64 1, .int .i64 1, .int .i64 ((k : Nat) : Int), .slice am 0 cm, .slice aw 0 cw, .slice ae 0 ce, .slice ao 0 co, .slice an 0 cn], .agg #[.int .i64 1, .int .i64 mk2, .int .i64 0, .bool false, .slice none 0 0, .slice none 0 0]] p.wo fun e w' => e = .returned (.int .i64 ((cx : Nat) : Int)) /\ Tch No p.wo w') := fun p => by
        have h := scan_any (txM k) HSO.out HMP.out (txR mk2) HRO.out _ _ p.wo (hIS p) (hIR p); rw [hcx] at h; exact h
      have HC2 : Hid (rc = true -> ∀ p : TchW w8, Calls Tryz.prog 27 #[.agg #[.int .i64 6, .int .i64 1, .int .i64 1, .int .i64 ((k : Nat) : Int), .slice am 0 cm, .slice aw 0 cw, .slice ae 0 ce, .slice ao 0 co, .slice an 0 cn], .agg #[.int .i64 1, .int .i64 mk2, .int .i64 0, .bool false, .slice none 0 0, .slice none 0 0]] p.wo fun e w' => e = .returned (.int .i64 ((cx : Nat) : Int)) /\ Tch No p.wo w') := fun hh p => by
        have h := rcan1 (txM k) HSO.out HMP.out (txR mk2) HRO.out rfl (hrc.trans hh) (Nat.zero_le _) _ _ p.wo (hIS p) (hIR p); rw [hcx] at h; exact h
      clear hrc hcx hIR hIS
      have hce : (((cx : Nat) : Int) == ((cx : Nat) : Int)) = true := beq_self_eq_true _
      have c0 : ∀ p : TchW w8, p.wo.cell? ⟨bs, 0, none⟩ = some (.int .i64 6) := fun p => (blk_cell (blk_tch p.t B8.out (fun h => h)) 0).trans rfl
      have c1 : ∀ p : TchW w8, p.wo.cell? ⟨bs, 1, none⟩ = some (.int .i64 1) := fun p => (blk_cell (blk_tch p.t B8.out (fun h => h)) 1).trans rfl
      have c2 : ∀ p : TchW w8, p.wo.cell? ⟨bs, 2, none⟩ = some (.int .i64 1) := fun p => (blk_cell (blk_tch p.t B8.out (fun h => h)) 2).trans rfl
      have c3 : ∀ p : TchW w8, p.wo.cell? ⟨bs, 3, none⟩ = some (.int .i64 ((k : Nat) : Int)) := fun p => (blk_cell (blk_tch p.t B8.out (fun h => h)) 3).trans rfl
      have c4 : ∀ p : TchW w8, p.wo.cell? ⟨bs, 4, none⟩ = some (.slice am 0 cm) := fun p => (blk_cell (blk_tch p.t B8.out (fun h => h)) 4).trans rfl
      have c5 : ∀ p : TchW w8, p.wo.cell? ⟨bs, 5, none⟩ = some (.slice aw 0 cw) := fun p => (blk_cell (blk_tch p.t B8.out (fun h => h)) 5).trans rfl
      have c6 : ∀ p : TchW w8, p.wo.cell? ⟨bs, 6, none⟩ = some (.slice ae 0 ce) := fun p => (blk_cell (blk_tch p.t B8.out (fun h => h)) 6).trans rfl
      have c7 : ∀ p : TchW w8, p.wo.cell? ⟨bs, 7, none⟩ = some (.slice ao 0 co) := fun p => (blk_cell (blk_tch p.t B8.out (fun h => h)) 7).trans rfl
      have c8 : ∀ p : TchW w8, p.wo.cell? ⟨bs, 8, none⟩ = some (.slice an 0 cn) := fun p => (blk_cell (blk_tch p.t B8.out (fun h => h)) 8).trans rfl
      have g0 : ∀ p : TchW w8, p.wo.cell? ⟨xb, 0, none⟩ = some (.int .i64 1) := fun p => (blk_cell (blk_tch p.t X8.out (fun h => h)) 0).trans rfl
      have g1 : ∀ p : TchW w8, p.wo.cell? ⟨xb, 1, none⟩ = some (.int .i64 mk2) := fun p => (blk_cell (blk_tch p.t X8.out (fun h => h)) 1).trans rfl
      have g2 : ∀ p : TchW w8, p.wo.cell? ⟨xb, 2, none⟩ = some (.int .i64 0) := fun p => (blk_cell (blk_tch p.t X8.out (fun h => h)) 2).trans rfl
      have g3 : ∀ p : TchW w8, p.wo.cell? ⟨xb, 3, none⟩ = some (.bool false) := fun p => (blk_cell (blk_tch p.t X8.out (fun h => h)) 3).trans rfl
      have g4 : ∀ p : TchW w8, p.wo.cell? ⟨xb, 4, none⟩ = some (.slice none 0 0) := fun p => (blk_cell (blk_tch p.t X8.out (fun h => h)) 4).trans rfl
      have g5 : ∀ p : TchW w8, p.wo.cell? ⟨xb, 5, none⟩ = some (.slice none 0 0) := fun p => (blk_cell (blk_tch p.t X8.out (fun h => h)) 5).trans rfl
      by_cases hn2 : n <= 200
      · obtain rfl : k = n := by have := HKK.out; omega
        have hq : (k : Int) <= 200 := by omega
        have hq2 : min (k : Int) 200 = (k : Int) := by omega
        cases rc with
        | false =>
          refine wp_region_qt (by kernel_rfl) (by kernel_rfl) ?_
          repeat
            with_reducible refine wpQuiet_step (fun K hK => ?_)
            go_simp
            first
              | (with_reducible refine hK _ ?_
                 clear hK K)
              | (rw [if_neg (by decide)]
                 with_reducible refine hK _ ?_
                 clear hK K)
              | (apply Exists.intro
                 with_reducible refine ⟨fun _ => ?_, hK _ ?_⟩
                 ((first | (go_at_call 34; exact qt_t (HRR.out _)) | (go_at_call 26; exact qt_t (HC1.out _)) | (go_at_call 27; exact qt_t (HC2.out rfl _))))
                 clear hK K)
          with_reducible refine wpQuiet_nil ?_
          rintro _ ⟨pq, rfl⟩
          go_wp2_with fail
          go_ret
          exact ⟨rfl, (TW8.out.trans0 (TchW.t _)).below0⟩
        | true =>
          refine wp_region_qt (by kernel_rfl) (by kernel_rfl) ?_
          repeat
            with_reducible refine wpQuiet_step (fun K hK => ?_)
            go_simp
            first
              | (with_reducible refine hK _ ?_
                 clear hK K)
              | (rw [if_neg (by decide)]
                 with_reducible refine hK _ ?_
                 clear hK K)
              | (apply Exists.intro
                 with_reducible refine ⟨fun _ => ?_, hK _ ?_⟩
                 ((first | (go_at_call 34; exact qt_t (HRR.out _)) | (go_at_call 26; exact qt_t (HC1.out _)) | (go_at_call 27; exact qt_t (HC2.out rfl _))))
                 clear hK K)
          with_reducible refine wpQuiet_nil ?_
          rintro _ ⟨pq, rfl⟩
          go_wp2_with fail
          go_ret
          exact ⟨rfl, (TW8.out.trans0 (TchW.t _)).below0⟩
      · obtain rfl : k = 200 := by have := HKK.out; omega
        have hq : (200 : Int) < (n : Int) := by omega
        have hq2 : min (n : Int) 200 = 200 := by omega
        cases rc with
        | false =>
          refine wp_region_qt (by kernel_rfl) (by kernel_rfl) ?_
          repeat
            with_reducible refine wpQuiet_step (fun K hK => ?_)
            go_simp
            first
              | (with_reducible refine hK _ ?_
                 clear hK K)
              | (rw [if_neg (by decide)]
                 with_reducible refine hK _ ?_
                 clear hK K)
              | (apply Exists.intro
                 with_reducible refine ⟨fun _ => ?_, hK _ ?_⟩
                 ((first | (go_at_call 34; exact qt_t (HRR.out _)) | (go_at_call 26; exact qt_t (HC1.out _)) | (go_at_call 27; exact qt_t (HC2.out rfl _))))
                 clear hK K)
          with_reducible refine wpQuiet_nil ?_
          rintro _ ⟨pq, rfl⟩
          go_wp2_with fail
          go_ret
          exact ⟨rfl, (TW8.out.trans0 (TchW.t _)).below0⟩
        | true =>
          refine wp_region_qt (by kernel_rfl) (by kernel_rfl) ?_
          repeat
            with_reducible refine wpQuiet_step (fun K hK => ?_)
            go_simp
            first
              | (with_reducible refine hK _ ?_
                 clear hK K)
              | (rw [if_neg (by decide)]
                 with_reducible refine hK _ ?_
                 clear hK K)
              | (apply Exists.intro
                 with_reducible refine ⟨fun _ => ?_, hK _ ?_⟩
                 ((first | (go_at_call 34; exact qt_t (HRR.out _)) | (go_at_call 26; exact qt_t (HC1.out _)) | (go_at_call 27; exact qt_t (HC2.out rfl _))))
                 clear hK K)
          with_reducible refine wpQuiet_nil ?_
          rintro _ ⟨pq, rfl⟩
          go_wp2_with fail
          go_ret
          exact ⟨rfl, (TW8.out.trans0 (TchW.t _)).below0⟩

/-! ### THE ROW's STEP: WRITTEN OUT: LEAVE IT -/
set_option maxRecDepth 100000 in
theorem lifted (os : Os) (started : os.Started) (H : Type) (enc : TypeId × Value → H) :
    ReturnsInHanded {} Tryz.checked os 12 .any (Rows.storeTxSpec.pre6 enc Tryz.prog Tryz.f12 Rows.storeTxRow.domain false) (Rows.storeTxSpec.post enc Tryz.prog Tryz.f12 false true false false) := by
  refine returnsInHanded_of_change (C := Tryz.checked) own started (by kernel_rfl) Tryz.func12
    (ChangeSpec.witness6 (enc := enc) (C := Tryz.checked) false ⟨#[], #[.int .i64 0, .int .i64 0], []⟩ 8 (by kernel_rfl) (by kernel_rfl) (by kernel_rfl) (by kernel_rfl)) ?_
  intro W base args ds gs before hval0 hW hcnd _
  have hval : ∀ (j : Nat) t v, Tryz.f12.params[j]? = some t → args[j]? = some v → Value.okWide Tryz.prog W .any base t v := hval0
  have hW' := hW
  obtain ⟨p, q, hA0, hV, rfl, hfz, hnd⟩ := hW
  have hA : DataW.TrodAll enc Tryz.prog W 0 (fun _ => true) true Tryz.f12.params.toList args.toList ds p := hA0
  rw [Tryz.params12] at hA hval
  obtain ⟨v0, vs0, d0, ds0, p0, q0, hargs, rfl, rfl, h0, r0⟩ := trodAll_cons hA
  obtain ⟨v1, vs1, d1, ds1, p1, q1, rfl, rfl, rfl, h1, r1⟩ := trodAll_cons r0
  obtain ⟨rfl, rfl, rfl⟩ := trodAll_nil r1
  obtain rfl : args = #[v0, v1] := by cases args; simp_all
  obtain ⟨rfl, rfl⟩ := trodVars_none hV
  obtain ⟨a0, rfl, rfl, rfl, w0⟩ := open_int Tryz.underlying3 (hval 0 3 v0 rfl rfl) h0
  obtain ⟨a1, rfl, rfl, rfl, w1⟩ := open_int Tryz.underlying2 (hval 1 2 v1 rfl rfl) h1
  clear hA0 hval0
  simp only [List.append_nil] at hW'
  refine (walk a0 a1 w0 w1 W).mono fun e W' ⟨he, hg⟩ => ?_
  subst he
  exact ⟨_, rfl, _, _, _, [], _, [], hW', trodAll_mk1 (shut_bool Tryz.underlying4 _), (trodAll_cons_mk (shut_int Tryz.underlying3 w0) (trodAll_cons_mk (shut_int Tryz.underlying2 w1) trodAll_mk0)), rfl, hg.frame _, fun h => by cases h⟩

theorem clo0 : Tryz.prog.mayEnter = true := by kernel_rfl
theorem clo1 : (Rows.storeTxRow.lifted == Tryz.prog.liftsFinal) = true := by kernel_rfl
theorem clo2 : (Tryz.prog.make == some Rows.storeTxRow.make) = true := by kernel_rfl
theorem clo3 : (Rows.storeTxRow.inPlace == Tryz.prog.inPlace 12) = true := by kernel_rfl
theorem clo4 : (Rows.storeTxRow.unfollowed == Tryz.prog.unfollowed 12) = true := by kernel_rfl
theorem clo5 : (Rows.storeTxRow.recurses == Tryz.prog.recurses 12) = true := by kernel_rfl
theorem clo6 : (Rows.storeTxRow.named == Tryz.prog.varsNamed 12) = true := by kernel_rfl
theorem clo7 : laidOutB Tryz.prog = true := by kernel_rfl
theorem clo8 : mapsRowed Tryz.prog = true := by kernel_rfl
theorem clo9 : Tryz.prog.stopsHeard = true := by kernel_rfl
theorem clo10 : (Rows.storeTxRow.plainKeys == Tryz.prog.plainKeys) = true := by kernel_rfl
set_option maxRecDepth 100000 in
theorem closed : joinedFacts Tryz.prog 12 Tryz.f12 Rows.storeTxSpec Rows.storeTxRow = true := by
  unfold joinedFacts
  rw [clo0, clo1, clo2, clo3, clo4, clo5, clo6, clo7, clo8, clo9, clo10]
  kernel_rfl
theorem over : Rows.storeTxRow.holds Tryz.pinned (OpenSpec.ofChange Rows.storeTxSpec) :=
  OpenClaim.holds_of_wide 12 Tryz.f12 rfl rfl rfl rfl rfl rfl rfl ⟨rfl, rfl, rfl, rfl, rfl⟩ rfl rfl rfl rfl rfl (by kernel_rfl) Tryz.func12 closed
    (of_decide_eq_true (by kernel_rfl)) (by unfold Func.isWrapper; first | (rw [if_pos (by decide +kernel)]; kernel_rfl) | (rw [if_neg (by decide +kernel)]; exact ⟨rfl, rfl⟩))
    (fun os started H enc _ => lifted os started H enc)

/--  THE STATEMENT  -/
theorem proved : Rows.StoreTxSaid :=
  over
#print axioms proved
end Go.Proofs.YtfedhcnmdmhppaaGreat.storeTx
