/- FileMany: the law FileMany returns true for every input, and each argument reads behind the call as it read before. No condition. The frame is the kit's proof-skeleton. -/
import Derived.Test.YtbhemlddncmmfaaRows
import Derived.WalkKit
import Derived.ProofKit
import Derived.OpenShut
import Derived.ShutString
import Derived.ChangeOld
import Derived.Below
import Derived.Test.YtbhemlddncmmfaaBeg3
import Derived.Test.YtbhemlddncmmfaaOps
import Derived.Deep.DeepCutAuto
import Derived.Outline
namespace Go.Proofs.Ytbhemlddncmmfaa.fileMany
open Go.ChangeShapes Go.WideShapes Go.ChangeAt Go.RowKit Go.Maps
open Go.ChangeMaps (open_string shut_string)
set_option linter.unusedVariables false

theorem own : ownKnob Try.prog.godebug = none := by kernel_rfl
theorem laidOut : laidOutB Try.prog = true := by kernel_rfl

def keep4 : FE := ⟨[107, 101, 101, 112], [107, 101, 112, 116], 4, true⟩
def kk : Key := [107, 101, 101, 112]
/-- The file 'keep' stands as it was made. -/
def Kept (M : List FE) : Prop := mGet M kk = some keep4
theorem mGet_map {M : List FE} {g : FE → FE} {k : Key} (h : ∀ x : FE, (g x).name = k ↔ x.name = k) : mGet (M.map g) k = (mGet M k).map g := by
  unfold mGet
  rw [List.find?_map]
  congr 1
  congr 1
  funext x
  rw [Bool.eq_iff_iff]; simp [h x]
theorem kept_append {M : List FE} (h : Kept M) (n : Key) (hn : n ≠ kk) (room : Nat) (bs : List UInt8) : Kept (mAppend M room n bs).2 := by
  unfold mAppend
  split
  · exact h
  split
  · exact h
  show Kept (mAppL M n bs)
  unfold mAppL Kept
  split
  · rw [mGet_map, h]
    · simp only [Option.map_some, Option.some.injEq]; rw [if_neg (fun e : keep4.name = n => hn e.symm)]
    · intro x; split <;> simp
  · unfold mGet at *
    unfold Kept mGet at h
    rw [List.find?_append, h]; rfl
theorem kept_sync {M : List FE} (h : Kept M) (n : Key) (hn : n ≠ kk) : Kept (mSync M n) := by
  unfold mSync Kept
  rw [mGet_map, h]
  · simp only [Option.map_some, Option.some.injEq]; rw [if_neg (fun e : keep4.name = n => hn e.symm)]
  · intro x; split <;> simp
theorem kept_del {M : List FE} (h : Kept M) (n : Key) (hn : n ≠ kk) : Kept (mDel M n) := by
  unfold mDel Kept mGet at *
  rw [List.find?_filter]
  rw [← h]
  congr 1
  funext x
  rw [Bool.eq_iff_iff]
  simp only [bne_iff_ne, ne_eq, Bool.and_eq_true, beq_iff_eq, Bool.decide_and, Bool.not_eq_true', decide_eq_true_eq]
  constructor
  · exact fun h => h.2
  · rintro e; exact ⟨by simpa using fun q : x.name = n => hn (by rw [← q, e]), e⟩
theorem kept_ren {M : List FE} (h : Kept M) (a b : Key) (ha : a ≠ kk) (hb : b ≠ kk) : Kept (mRename M a b).2 := by
  unfold mRename
  split
  · exact h
  split
  · exact h
  split
  · exact h
  show Kept (mRen M a b)
  have hd := kept_del h b hb
  unfold mRen Kept
  unfold Kept at hd
  rw [mGet_map, hd]
  · simp only [Option.map_some, Option.some.injEq]; rw [if_neg (fun e : keep4.name = a => ha e.symm)]
  · intro x; split
    · next e => constructor
                · intro q; exact absurd q hb
                · intro q; exact absurd (e.symm.trans q) ha
    · simp
theorem find_filterMap {g : FE → Option FE} (hg : ∀ x y, g x = some y → y.name = x.name) {k : Key} {x y : FE} (hy : g x = some y) : ∀ {M : List FE}, mGet M k = some x → mGet (M.filterMap g) k = some y
  | [], h => by simp [mGet] at h
  | z :: r, h => by
    unfold mGet at h ⊢
    rw [List.find?_cons] at h
    by_cases hz : z.name = k
    · simp only [hz, beq_self_eq_true, Option.some.injEq] at h
      subst h
      rw [List.filterMap_cons, hy]
      simp [hg _ _ hy, hz]
    · have hb : (z.name == k) = false := by simpa using hz
      rw [hb] at h
      have := find_filterMap hg hy (M := r) (k := k) h
      rw [List.filterMap_cons]
      split
      · exact this
      · next u hu =>
        rw [List.find?_cons]
        have : (u.name == k) = false := by rw [hg _ _ hu]; exact hb
        rw [this]; assumption
theorem fall_keep4 (n : Int) : fallE n keep4 = some keep4 := by
  have : stays n keep4 = 4 := by
    unfold stays keep4
    simp
  unfold fallE
  rw [this]
  simp [keep4]
theorem fallE_name {n : Int} {x y : FE} (h : fallE n x = some y) : y.name = x.name := by
  unfold fallE at h
  split at h
  · injection h with h; rw [← h]
  · cases h
theorem kept_fall {M : List FE} (h : Kept M) (n : Int) : Kept (mFall n M) := find_filterMap (fun _ _ => fallE_name) (fall_keep4 n) h
theorem len_append (M : List FE) (room : Nat) (n : Key) (bs : List UInt8) : (mAppend M room n bs).2.length ≤ M.length + 1 := by
  unfold mAppend
  split
  · simp
  split
  · simp
  show (mAppL M n bs).length ≤ _
  unfold mAppL; split <;> simp
theorem len_del (M : List FE) (n : Key) : (mDel M n).length ≤ M.length := List.length_filter_le _ _
theorem len_ren (M : List FE) (a b : Key) : (mRename M a b).2.length ≤ M.length := by
  unfold mRename
  split
  · simp
  split
  · simp
  split
  · simp
  show (mRen M a b).length ≤ _
  unfold mRen; rw [List.length_map]; exact len_del M b
theorem len_sync (M : List FE) (n : Key) : (mSync M n).length = M.length := by unfold mSync; simp
theorem len_fall (M : List FE) (n : Int) : (mFall n M).length ≤ M.length := List.length_filterMap_le _ _
theorem x_ne (s : ByteArray) : ((⟨#[120]⟩ : ByteArray) ++ s).data.toList ≠ kk := by
  rw [ByteArray.data_append]; simp [kk]
def cutX (s : ByteArray) : ByteArray := (⟨#[120]⟩ : ByteArray) ++ cutB s 5
/-- The operation's own block behind the names' cut. -/
def OpBlk (wr wx : World) (k n : Int) (S T : ByteArray) (bb : Option Addr) (lb cb : Nat) : Prop :=
  wx.heap[wr.heap.size]? = some (.cells #[.int .i64 k, .int .i64 n, .string S, .string T, .slice bb lb cb] 32 (0, 0)) ∧ Tch No wr wx
theorem OpBlk.mk (wr : World) (k n : Int) (S T : ByteArray) (bb : Option Addr) (lb cb : Nat) {wx : World} (h : Tch No (wr.alloc (.cells #[.int .i64 k, .int .i64 n, .string S, .string T, .slice bb lb cb] 32)) wx) : OpBlk wr wx k n S T bb lb cb :=
  ⟨blk_tch h (blk_new wr _) (fun h => h), (Tch.alloc wr _).trans0 h⟩
theorem cutB_size (s : ByteArray) (n : Nat) : (cutB s n).size ≤ n := by
  unfold cutB
  simp [ByteArray.size_extract]; omega
theorem add_x {P : Program} (W : World) (s : ByteArray) : (Op.stringOp .add ⟨#[120]⟩ (cutB s 5)).run P W = .ok (.string (cutX s)) W := by
  have := cutB_size s 5
  rw [run_string_add (P := P) (w := W) ⟨#[120]⟩ (cutB s 5) (by have h1 : (⟨#[120]⟩ : ByteArray).size = 1 := rfl; omega) (by omega)]
  rfl
theorem cutX_size (s : ByteArray) : (cutX s).size ≤ 6 := by
  have := cutB_size s 5
  unfold cutX
  rw [ByteArray.size_append]
  have h1 : (⟨#[120]⟩ : ByteArray).size = 1 := rfl
  omega
theorem wf_bounds {n : Int} (h : (Lit.int .i64 n).wf = true) : -9223372036854775808 ≤ n ∧ n ≤ 9223372036854775807 := by
  simp only [Lit.wf, IntKind.min, IntKind.max, IntKind.signed, IntKind.bits] at h
  simp at h; omega
theorem bytes_le (zb : List Int) (lb n : Nat) : (bytesOf (zb.take (min lb n))).length ≤ n := by
  simp [bytesOf]; omega
theorem sync_x {w1 w : World} {db mb room : Nat} {M : List FE} (h : DSt w1 w db mb room M []) (s : ByteArray) (hs : s.size ≤ maxLen) :
    Calls Try.prog 29 #[.pointer (some ⟨db, 0, none⟩), .string s] w fun e w' => ∃ r : Int, e = .returned (.int .i64 r) ∧ DSt w1 w' db mb room (mSync M s.data.toList) [] :=
  (dst_sync h s hs).mono fun _ _ ⟨h1, h2⟩ => ⟨_, h1, h2⟩
theorem delete_x {w1 w : World} {db mb room : Nat} {M : List FE} (h : DSt w1 w db mb room M []) (s : ByteArray) (hs : s.size ≤ maxLen) :
    Calls Try.prog 30 #[.pointer (some ⟨db, 0, none⟩), .string s] w fun e w' => ∃ r : Int, e = .returned (.int .i64 r) ∧ DSt w1 w' db mb room (mDel M s.data.toList) [] :=
  (dst_delete h s hs).mono fun _ _ ⟨h1, h2⟩ => ⟨_, h1, h2⟩
theorem app_any {w1 w w' : World} {db mb room : Nat} {M : List FE} (h : DSt w1 w db mb room M []) (t : Tch No w w') {s : ByteArray} {v : Value} {bs : List UInt8} (hv : SlB w' v bs) (hf : ∀ k, v.ownBlock = some k → w.drew.heap.size ≤ k) (hs : s.data.toList.length ≤ lim) (hcnt : M.length ≤ 999999) (hb : bs.length ≤ 50) :
    Calls Try.prog 21 #[.pointer (some ⟨db, 0, none⟩), .string s, v] w' fun e w'' => e = .returned (.int .i64 ((mAppend M room s.data.toList bs).1 : Nat)) ∧ DSt w1 w'' db mb room (mAppend M room s.data.toList bs).2 [] := by
  refine dst_append (h.keep t) s v bs hv ?_ hs hcnt (by omega)
  intro k hk e
  obtain ⟨L, _, h2, _⟩ := h
  have h3 := DiskF.lt h2 mb (.inr (.inl rfl))
  have h4 := hf k hk
  rw [World.size_drew] at h4
  omega
set_option maxRecDepth 100000 in
set_option maxHeartbeats 4000000 in
theorem walk (a0 : Option Addr) (len0 cap0 : Nat) (a1 : Int) (w : World) (w0 : IsOps w a0 len0 cap0) (w1 : (Lit.int .i64 a1).wf = true) :
    Calls Try.prog 13 #[.slice a0 len0 cap0, .int .i64 a1] w fun e w' => e = .returned (.bool true) ∧ Below w.heap.size w w' := by
  have HN := Lib.hid (wf_bounds w1)
  clear w1
  have W0 := Lib.hid w0
  clear w0
  have kc := fun (w : World) (C : Array Value) (n c : Nat) => Lib.run_convert_bytes_const (P := Try.prog) w 30 5 C n c Try.underlying30 Try.underlying5
  go_enter Try.func13, Try.ntmps13
  go_wp2_with fail
  refine (begun3_any w).mono ?_
  rintro e w1 ⟨rfl, t1⟩
  have T1 := Lib.hid t1; clear t1
  have hnew := Lib.hid (dst_new (5000) w1)
  rw [show roomOf 5000 = 5000 by rfl] at hnew
  go_wp2_with fail
  refine hnew.out.mono ?_
  rintro e w4 ⟨db, mb, rfl, h4⟩
  have H4 := Lib.hid h4; clear h4
  go_wp2_with fail
  have hlit := SlB.lit0 w4 [107, 101, 112, 116] #[.int .u8 107, .int .u8 101, .int .u8 112, .int .u8 116] 5 rfl (by decide)
  refine (dst_append (H4.out.keep (Tch.alloc _ _)) ⟨#[107, 101, 101, 112]⟩ _ [107, 101, 112, 116] hlit ?_ (by decide) (by simp) (by simp)).mono ?_
  · intro k hk e
    obtain ⟨L, _, h2, _⟩ := H4.out
    have := DiskF.lt h2 mb (.inr (.inl rfl))
    simp [Value.ownBlock] at hk
    omega
  rintro e w5 ⟨rfl, h5⟩
  have e5 : mAppend [] 5000 (ByteArray.mk #[107, 101, 101, 112]).data.toList [107, 101, 112, 116] = (0, [⟨[107, 101, 101, 112], [107, 101, 112, 116], 0, false⟩]) := rfl
  dsimp only at e5 h5 ⊢
  rw [e5] at h5 ⊢
  have H5 := Lib.hid h5; clear h5 e5 hlit H4 hnew kc
  go_wp2_with fail
  refine (dst_sync H5.out ⟨#[107, 101, 101, 112]⟩ (by decide)).mono ?_
  rintro e w6 ⟨rfl, h6⟩
  have e6 : mSync [⟨[107, 101, 101, 112], [107, 101, 112, 116], 0, false⟩] (ByteArray.mk #[107, 101, 101, 112]).data.toList = [keep4] := rfl
  dsimp only at e6 h6 ⊢
  rw [e6] at h6
  have H6 := Lib.hid h6; clear h6 e6 H5
  go_wp2_with fail
  go_loopg [6, 7] 25 (fun g s6 s7 wr => ∃ (j db mb : Nat) (M : List FE), j ≤ len0 ∧ j ≤ 25 ∧ g = 25 - j ∧ s7 = .int .i64 j ∧ s6 = .pointer (some ⟨db, 0, none⟩) ∧ M.length ≤ j + 1 ∧ Hid (Kept M) ∧ Hid (DSt w1 wr db mb 5000 M []))
  case atStart => exact ⟨0, db, mb, [keep4], by omega, by omega, by omega, rfl, rfl, by simp, rfl, H6⟩
  case round =>
    clear H6
    obtain ⟨j, db, mb, M, hj1, hj2, hg, rfl, rfl, hML, HK, HD⟩ := hrel
    by_cases g1 : j < len0
    · by_cases g2 : j < 25
      · obtain ⟨ob, oo, k, n, s, t, bb, lb, cb, zb, ha, hop⟩ := W0.out.2.2 j g1
        subst ha
        have HOP := Lib.hid (hop.tch0 (T1.out.trans0 HD.out.base))
        clear hop
        obtain ⟨q0, q1, q2, q3, q4, _⟩ := HOP.out
        simp only [addr_add, Nat.add_zero] at q0 q1 q2 q3 q4
        go_upto_region 11 with fail
        have hcs := HOP.out.2.2.2.2.2.2.1
        have hct := HOP.out.2.2.2.2.2.2.2.1
        have hzs := fun W : World => add_x (P := Try.prog) W s
        have hzt := fun W : World => add_x (P := Try.prog) W t
        clear q0 q1 q2 q3 q4
        go_cut [8] from 21 to 79 (fun s8 wx => s8 = .pointer (some ⟨wr.heap.size, 0, none⟩) ∧ Hid (OpBlk wr wx k n (cutX s) (cutX t) bb lb cb))
        case first =>
          go_region_with (go_at_call 23; go_loud (refine (cut_any _ 5 _ (by omega) (by first | exact hcs | exact hct)).mono ?_; rintro e w' ⟨rfl, rfl⟩))
          all_goals (try go_wp2_with fail)
          all_goals go_meet
          all_goals exact ⟨rfl, OpBlk.mk wr k n (cutX s) (cutX t) bb lb cb ⟨rfl, rfl, rfl, Nat.le_refl _, fun _ _ _ => rfl⟩⟩
        case rest =>
          obtain ⟨rfl, HB⟩ := hcut
          clear hcs hct hzs hzt
          have HD2 := Lib.hid (HD.out.keep HB.out.2)
          have hwn := Lib.hid HOP.out.2.2.2.2.2.1
          have HR := Lib.hid (HOP.out.2.2.2.2.2.2.2.2.tch0 HB.out.2)
          have w0 := blk_cell HB.out.1 0
          have w1' := blk_cell HB.out.1 1
          have w2 := blk_cell HB.out.1 2
          have w3 := blk_cell HB.out.1 3
          have w4' := blk_cell HB.out.1 4
          simp only [List.getElem?_toArray, List.getElem?_cons_zero, List.getElem?_cons_succ] at w0 w1' w2 w3 w4'
          have hx := cutX_size s
          have hy := cutX_size t
          clear HOP
          have hn := wf_bounds hwn.out
          have hxl : (cutX s).data.toList.length ≤ lim := by rw [show (cutX s).data.toList.length = (cutX s).size from (Array.length_toList (xs := (cutX s).data))]; unfold lim; omega
          have hyl : (cutX t).data.toList.length ≤ lim := by rw [show (cutX t).data.toList.length = (cutX t).size from (Array.length_toList (xs := (cutX t).data))]; unfold lim; omega
          have hxm : (cutX s).size ≤ maxLen := by unfold maxLen; omega
          have Hx := Lib.hid hxl
          have Hy := Lib.hid hyl
          have HN2 := Lib.hid hn
          have Hxm := Lib.hid hxm
          clear hx hy hn hwn hxl hyl hxm
          by_cases k0 : k = 0
          · subst k0
            have hbl := Lib.hid (bytes_le zb lb 50)
            obtain ⟨bs, hbs⟩ : ∃ bs, bytesOf (zb.take (min lb 50)) = bs := ⟨_, rfl⟩
            have hsh := Lib.hid (short_row bb lb cb zb 50 wc.drew (HR.out.tch0 (Tch.drew _)) (by omega))
            rw [hbs] at hsh hbl
            clear hbs
            go_wp2_with fail
            go_region_with (first | (go_at_call 27; refine hsh.out.mono ?_; rintro e wq ⟨v, rfl, hs, hfr, ht⟩; have T' := (Tch.drew wc).trans0 ht; obtain ⟨va, vm, vc, rfl, hvm⟩ := hs.shape'; have z2 := T'.cell w2 (fun h => h); have AA := Lib.hid (app_any HD2.out T' hs hfr Hx.out (by omega) hbl.out); clear hs hfr ht T' hvm) | (go_at_call 21; with_reducible refine AA.out.mono ?_; rintro e wp ⟨rfl, hp⟩; have HP := Lib.hid hp; clear hp AA))
            all_goals
              go_wp2_with fail
              go_roundg (25 - (j + 1))
              case measure => omega
              case rel => exact ⟨j + 1, db, mb, _, by omega, by omega, rfl, by go_num, rfl, Nat.le_trans (len_append _ _ _ _) (by omega), kept_append HK.out _ (x_ne _) _ _, HP⟩
          by_cases k1 : k = 1
          · subst k1
            go_wp2_with (go_at_call 29; with_reducible refine (sync_x HD2.out (cutX s) Hxm.out).mono ?_; rintro e wp ⟨r, rfl, hp⟩; have HP := Lib.hid hp; clear hp)
            go_roundg (25 - (j + 1))
            case measure => omega
            case rel => exact ⟨j + 1, db, mb, _, by omega, by omega, rfl, by go_num, rfl, by rw [len_sync]; omega, kept_sync HK.out _ (x_ne _), HP⟩
          by_cases k2 : k = 2
          · subst k2
            go_wp2_with (go_at_call 25; with_reducible refine (dst_rename HD2.out (cutX s) (cutX t) Hxm.out Hy.out (by omega)).mono ?_; rintro e wp ⟨rfl, hp⟩; have HP := Lib.hid hp; clear hp)
            go_roundg (25 - (j + 1))
            case measure => omega
            case rel => exact ⟨j + 1, db, mb, _, by omega, by omega, rfl, by go_num, rfl, Nat.le_trans (len_ren _ _ _) (by omega), kept_ren HK.out _ _ (x_ne _) (x_ne _), HP⟩
          by_cases k3 : k = 3
          · subst k3
            go_wp2_with (go_at_call 30; with_reducible refine (delete_x HD2.out (cutX s) Hxm.out).mono ?_; rintro e wp ⟨r, rfl, hp⟩; have HP := Lib.hid hp; clear hp)
            go_roundg (25 - (j + 1))
            case measure => omega
            case rel => exact ⟨j + 1, db, mb, _, by omega, by omega, rfl, by go_num, rfl, Nat.le_trans (len_del _ _) (by omega), kept_del HK.out _ (x_ne _), HP⟩
          go_wp2_with (go_at_call 19; with_reducible refine (dst_fall HD2.out n HN2.out.1 HN2.out.2 (by omega)).mono ?_; rintro e wp ⟨dq, mq, rfl, _, hp⟩; have HP := Lib.hid hp; clear hp)
          go_roundg (25 - (j + 1))
          case measure => omega
          case rel => exact ⟨j + 1, dq, mq, _, by omega, by omega, rfl, by go_num, rfl, Nat.le_trans (len_fall _ _) (by omega), kept_fall HK.out _, HP⟩
      · go_wp2_with fail
        refine (dst_fall HD.out a1 HN.out.1 HN.out.2 (by omega)).mono ?_
        rintro e w8 ⟨db8, mb8, rfl, h8, g8⟩
        have H8 := Lib.hid h8; have G8 := Lib.hid g8; clear h8 g8
        go_wp2_with fail
        refine (dst_read2 H8.out G8.out ⟨#[107, 101, 101, 112]⟩ (by decide)).mono ?_
        rintro e w9 ⟨x, rfl, h9, _⟩
        have e9 : mGet (mFall a1 M) (ByteArray.mk #[107, 101, 101, 112]).data.toList = some keep4 := kept_fall HK.out a1
        rw [e9] at h9 ⊢
        have H9 := Lib.hid h9; clear h9 e9 H8 G8
        have HX := H9.out.held (v := x) (bs := [107, 101, 112, 116]) (by simp [keep4])
        have cx : (convert 30 9 x).run Try.prog w9 = .ok (.string ⟨#[107, 101, 112, 116]⟩) w9 := HX.str (P := Try.prog) Try.underlying30 Try.underlying5 Try.underlying9
        have hsu := Lib.hid (dst_sure H9.out ⟨#[107, 101, 101, 112]⟩ (by decide))
        have e10 : mSure M (ByteArray.mk #[107, 101, 101, 112]).data.toList = 4 := by
          unfold mSure
          rw [show mGet M (ByteArray.mk #[107, 101, 101, 112]).data.toList = some keep4 from HK.out]; rfl
        rw [e10] at hsu
        have HF := Lib.hid (T1.out.trans0 H9.out.base)
        clear HX e10 HD H9
        go_wp2_with (go_at_call 32; with_reducible refine hsu.out.mono ?_; rintro e wq ⟨rfl, rfl⟩)
        go_ret
        exact ⟨rfl, HF.out.below0⟩
    · go_wp2_with fail
      refine (dst_fall HD.out a1 HN.out.1 HN.out.2 (by omega)).mono ?_
      rintro e w8 ⟨db8, mb8, rfl, h8, g8⟩
      have H8 := Lib.hid h8; have G8 := Lib.hid g8; clear h8 g8
      go_wp2_with fail
      refine (dst_read2 H8.out G8.out ⟨#[107, 101, 101, 112]⟩ (by decide)).mono ?_
      rintro e w9 ⟨x, rfl, h9, _⟩
      have e9 : mGet (mFall a1 M) (ByteArray.mk #[107, 101, 101, 112]).data.toList = some keep4 := kept_fall HK.out a1
      rw [e9] at h9 ⊢
      have H9 := Lib.hid h9; clear h9 e9 H8 G8
      have HX := H9.out.held (v := x) (bs := [107, 101, 112, 116]) (by simp [keep4])
      have cx : (convert 30 9 x).run Try.prog w9 = .ok (.string ⟨#[107, 101, 112, 116]⟩) w9 := HX.str (P := Try.prog) Try.underlying30 Try.underlying5 Try.underlying9
      have hsu := Lib.hid (dst_sure H9.out ⟨#[107, 101, 101, 112]⟩ (by decide))
      have e10 : mSure M (ByteArray.mk #[107, 101, 101, 112]).data.toList = 4 := by
        unfold mSure
        rw [show mGet M (ByteArray.mk #[107, 101, 101, 112]).data.toList = some keep4 from HK.out]; rfl
      rw [e10] at hsu
      have HF := Lib.hid (T1.out.trans0 H9.out.base)
      clear HX e10 HD H9
      go_wp2_with (go_at_call 32; with_reducible refine hsu.out.mono ?_; rintro e wq ⟨rfl, rfl⟩)
      go_ret
      exact ⟨rfl, HF.out.below0⟩

/-! ### THE ROW's STEP: WRITTEN OUT: LEAVE IT -/
set_option maxRecDepth 100000 in
theorem lifted (os : Os) (started : os.Started) (H : Type) (enc : TypeId × Value → H) :
    ReturnsInHanded {} Try.checked os 13 .any (Rows.fileManySpec.pre6 enc Try.prog Try.f13 Rows.fileManyRow.domain false) (Rows.fileManySpec.post enc Try.prog Try.f13 false true false false) := by
  refine returnsInHanded_of_change (C := Try.checked) own started (by kernel_rfl) Try.func13
    (ChangeSpec.witness6 (enc := enc) (C := Try.checked) false ⟨#[], #[.slice none 0 0, .int .i64 0], []⟩ 8 (by kernel_rfl) (by kernel_rfl) (by kernel_rfl) (by kernel_rfl)) ?_
  intro W base args ds gs before hval0 hW hcnd _
  have hval : ∀ (j : Nat) t v, Try.f13.params[j]? = some t → args[j]? = some v → Value.okWide Try.prog W .any base t v := hval0
  have hW' := hW
  obtain ⟨p, q, hA0, hV, rfl, hfz, hnd⟩ := hW
  have hA : DataW.TrodAll enc Try.prog W 0 (fun _ => true) true Try.f13.params.toList args.toList ds p := hA0
  rw [Try.params13] at hA hval
  obtain ⟨v0, vs0, d0, ds0, p0, q0, hargs, rfl, rfl, h0, r0⟩ := trodAll_cons hA
  obtain ⟨v1, vs1, d1, ds1, p1, q1, rfl, rfl, rfl, h1, r1⟩ := trodAll_cons r0
  obtain ⟨rfl, rfl, rfl⟩ := trodAll_nil r1
  obtain rfl : args = #[v0, v1] := by cases args; simp_all
  obtain ⟨rfl, rfl⟩ := trodVars_none hV
  obtain ⟨a0, len0, cap0, rfl⟩ := okWide_slice Try.underlying22 (hval 0 22 v0 rfl rfl)
  have k0 := h0
  have lt0 : ∀ x ∈ p0, x.block < W.heap.size := by obtain ⟨m, hm⟩ := k0; exact DataW.trod_lt m _ _ _ hm
  have w0 : IsOps W a0 len0 cap0 := by
    obtain ⟨fuel, hf⟩ := h0
    obtain ⟨_, _, _, hcs, hw⟩ := open_ops hf
    simp [Value.cells] at hcs
    obtain ⟨rfl, rfl, rfl⟩ := hcs
    exact hw
  obtain ⟨a1, rfl, rfl, rfl, w1⟩ := open_int Try.underlying3 (hval 1 3 v1 rfl rfl) h1
  clear hA0 hval0
  refine (walk a0 len0 cap0 a1 W w0 w1).mono fun e W' ⟨he, bel⟩ => ?_
  subst he
  exact ⟨_, rfl, _, _, _, [], _, [], hW', trodAll_mk1 (shut_bool Try.underlying4 _), (trodAll_cons_mk (Below.trod laidOut (by kernel_rfl) (of_decide_eq_true (by kernel_rfl)) k0 bel lt0) (trodAll_cons_mk (shut_int Try.underlying3 w1) trodAll_mk0)), rfl, bel.frame _, fun h => by cases h⟩

theorem over : Rows.fileManyRow.holds Try.pinned (OpenSpec.ofChange Rows.fileManySpec) :=
  OpenClaim.holds_of_wide 13 Try.f13 rfl rfl rfl rfl rfl rfl rfl ⟨rfl, rfl, rfl, rfl, rfl⟩ rfl rfl rfl rfl rfl (by kernel_rfl) Try.func13 (by kernel_rfl)
    (of_decide_eq_true (by kernel_rfl)) (by unfold Func.isWrapper; first | (rw [if_pos (by decide +kernel)]; kernel_rfl) | (rw [if_neg (by decide +kernel)]; exact ⟨rfl, rfl⟩))
    (fun os started H enc _ => lifted os started H enc)

/--  THE STATEMENT  -/
theorem proved : Rows.FileManySaid := over
#print axioms proved
end Go.Proofs.Ytbhemlddncmmfaa.fileMany
