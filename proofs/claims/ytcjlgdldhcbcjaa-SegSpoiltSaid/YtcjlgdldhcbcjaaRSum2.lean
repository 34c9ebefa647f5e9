/- The document's Sum: its walk. No condition. -/
import Derived.Test.YtcjlgdldhcbcjaaRSum
namespace Go.Proofs.Ytcjlgdldhcbcjaa
open Go.RowKit Go.Maps
set_option linter.unusedVariables false
set_option linter.unusedSimpArgs false

theorem idx_arr (W : World) (b j : Nat) (h : j < 32) : (Instr.indexAt 92 (.pointer (some ⟨b, 0, none⟩)) (.int .i64 (j : Int))).run Try.prog W = .ok (.pointer (some ⟨b, j, none⟩)) W := by
  obtain ⟨i, hi⟩ : ∃ i, Try.prog.info? 4 = some i := Option.isSome_iff_exists.1 (by kernel_rfl)
  have h1 : (j : Int) < 32 := by omega
  have hc : Try.prog.cellsOf 4 = 1 := by kernel_rfl
  simp [Instr.indexAt, run_underlying Try.underlying92, asIntOf, run_sizeOf W hi, hc, h1, h, Addr.add, Instr.sureAddr]
  by_cases hj : j = 0 <;> simp [hj]
def reg0 : Obj := .cells #[.bool false, .bool false, .bool false, .bool false, .bool false, .bool false, .bool false, .bool false, .bool false, .bool false, .bool false, .bool false, .bool false, .bool false, .bool false, .bool false, .bool false, .bool false, .bool false, .bool false, .bool false, .bool false, .bool false, .bool false, .bool false, .bool false, .bool false, .bool false, .bool false, .bool false, .bool false, .bool false] 92
theorem reg0_F (w : World) : RegF (w.alloc reg0) w.heap.size (fun k => decide (k < 0)) := by
  refine ⟨_, _, blk_new w _, rfl, fun i hi => ?_⟩
  have : ∀ i, i < 32 → (#[.bool false, .bool false, .bool false, .bool false, .bool false, .bool false, .bool false, .bool false, .bool false, .bool false, .bool false, .bool false, .bool false, .bool false, .bool false, .bool false, .bool false, .bool false, .bool false, .bool false, .bool false, .bool false, .bool false, .bool false, .bool false, .bool false, .bool false, .bool false, .bool false, .bool false, .bool false, .bool false] : Array Value)[i]? = some (.bool false) := by
    intro i hi
    have h : i ∈ List.range 32 := List.mem_range.2 hi
    simp only [List.range, List.range.loop, List.mem_cons, List.mem_nil_iff, or_false] at h
    rcases h with rfl | rfl | rfl | rfl | rfl | rfl | rfl | rfl | rfl | rfl | rfl | rfl | rfl | rfl | rfl | rfl | rfl | rfl | rfl | rfl | rfl | rfl | rfl | rfl | rfl | rfl | rfl | rfl | rfl | rfl | rfl | rfl <;> rfl
  simpa using this i hi
theorem and_bit (c j : Nat) (hc : c < 256) (hj : j < 8) : (bits BinOp.and IntKind.u8 ((c : Int) / 2 ^ j) 1 == 1) = c.testBit j := by
  have e : (c : Int) / 2 ^ j = ((c / 2 ^ j : Nat) : Int) := by simp
  have hlt : c / 2 ^ j < 256 := Nat.lt_of_le_of_lt (Nat.div_le_self _ _) hc
  have h1 := Go.u8_and_nat (c / 2 ^ j) 1 hlt (by decide)
  rw [e, show (1 : Int) = ((1 : Nat) : Int) from rfl, h1, Nat.and_one_is_mod, Nat.testBit_eq_decide_div_mod_eq]
  rcases Nat.mod_two_eq_zero_or_one (c / 2 ^ j) with h | h <;> rw [h] <;> rfl
theorem or_bit (F j acc : Nat) (hj : j < 32) (ha : acc = F % 2 ^ j) : bits BinOp.or IntKind.u32 (acc : Int) (2 ^ j % 4294967296) = ((acc + 2 ^ j : Nat) : Int) := by
  have h2 : 2 ^ j < 4294967296 := by
    have : 2 ^ j < 2 ^ 32 := Nat.pow_lt_pow_right (by omega) hj
    simpa using this
  have hlt : acc < 2 ^ j := by rw [ha]; exact Nat.mod_lt _ (Nat.two_pow_pos j)
  have e : (2 ^ j % 4294967296 : Int) = ((2 ^ j : Nat) : Int) := by
    have h : ((2 ^ j : Nat) : Int) = (2 : Int) ^ j := by simp
    rw [← h]; omega
  have h1 := Nat.two_pow_add_eq_or_of_lt hlt 1
  rw [e, Go.u32_or_nat acc (2 ^ j) (by omega) h2]
  rw [Nat.mul_one] at h1
  rw [Nat.or_comm, ← h1, Nat.add_comm]
set_option maxRecDepth 100000 in
set_option maxHeartbeats 2000000 in
theorem rsum_any (v : Value) (bs : List UInt8) (w : World) (h : SlB w v bs) (hl : bs.length ≤ 100000) : Calls Try.prog 41 #[v] w fun e w' => e = .returned (.int .u32 (crcOn 0 bs : Nat)) ∧ Tch No w w' := by
  obtain ⟨a, cap, rfl, hc, hm⟩ := h.shape
  have H := Lib.hid h
  obtain ⟨n, hn⟩ : ∃ n, bs.length = n := ⟨_, rfl⟩
  have N := Lib.hid hn
  rw [hn] at hc hl ⊢
  clear h hn
  have F0 : Hid (RegF (w.alloc reg0) w.heap.size (fun k => decide (k < 0))) := reg0_F w
  have T0 : Hid (Tch No w (w.alloc reg0)) := Tch.alloc _ _
  have hix := fun (W : World) (j : Nat) (hj : j < 32) => idx_arr W w.heap.size j hj
  obtain ⟨rb, hrb⟩ : ∃ rb, w.heap.size = rb := ⟨_, rfl⟩
  rw [hrb] at F0 hix
  go_enter Try.func41, Try.ntmps41
  go_wp2_with fail
  go_loopw [4] (fun i wr => ∃ j : Nat, j ≤ 32 ∧ i = .int .i64 j ∧ Hid (RegF wr rb (fun k => decide (k < j))) ∧ Hid (Tch No w wr)) (fun i _ => 32 - (intOf i).toNat)
  case atStart => exact ⟨0, by omega, rfl, F0, T0⟩
  case round =>
    clear F0 T0
    obtain ⟨j, hj, rfl, hF, hT⟩ := hrel
    by_cases hlt : j < 32
    · obtain ⟨y1, y2⟩ := hF.out.cell hlt
      have hix1 := fun W => hix W j hlt
      have hF2 : Hid (RegF (wr.setCell ⟨rb, j, none⟩ (.bool true)) rb (fun k => decide (k < j + 1))) := (hF.out.set hlt true).congr (fun i hi => by
        by_cases e : i = j
        · subst e; simp
        · simp only [e, if_false]
          have : (i < j) ↔ (i < j + 1) := by omega
          simp [this])
      have hT2 : Hid (Tch No w (wr.setCell ⟨rb, j, none⟩ (.bool true))) := hT.out.fresh (Tch.setCell (F := fun k => k = rb) wr ⟨rb, j, none⟩ _ (fun _ => rfl)) (fun k hk => by omega)
      clear hF hT hix
      go_wp2_with fail
      exact ⟨⟨j + 1, by omega, by go_num, hF2, hT2⟩, by simp [intOf]; omega⟩
    · have hj32 : j = 32 := by omega
      subst hj32
      have G0 : Hid (RegF wr rb (fun k => (stT bs 0).testBit k)) := hF.out.congr (fun i hi => by
        show decide (i < 32) = (4294967295 : Nat).testBit i
        rw [show (4294967295 : Nat) = 2 ^ 32 - 1 by decide, Nat.testBit_two_pow_sub_one])
      clear hF
      have hnb : ∀ k, (Value.slice a n cap).ownBlock = some k → k < rb := fun k hk => by have h := H.out; rw [N.out] at h; have := h.blt k hk; omega
      go_wp2_with fail
      obtain ⟨wp, hwp⟩ : ∃ wp, wp = wr.alloc (.cells #[.int .i64 0, .int .i64 6, .int .i64 8, .int .i64 9, .int .i64 10, .int .i64 11, .int .i64 13, .int .i64 14, .int .i64 18, .int .i64 19, .int .i64 20, .int .i64 22, .int .i64 23, .int .i64 25, .int .i64 26, .int .i64 27, .int .i64 28] 3) := ⟨_, rfl⟩
      obtain ⟨pb, hpb⟩ : ∃ pb, pb = wr.heap.size := ⟨_, rfl⟩
      have hrp : rb < pb := by rw [hpb]; obtain ⟨cs, ty, h1, _⟩ := G0.out; exact blk_lt h1
      have PC : Hid (∀ k, k < 17 → wp.cell? ⟨pb, k, none⟩ = some (.int .i64 ((polyL[k]?).getD 0 : Nat))) := by
        intro k hk
        rw [hwp, hpb, blk_cell (blk_new wr _) k]
        have h : k ∈ List.range 17 := List.mem_range.2 hk
        simp only [List.range, List.range.loop, List.mem_cons, List.mem_nil_iff, or_false] at h
        rcases h with rfl | rfl | rfl | rfl | rfl | rfl | rfl | rfl | rfl | rfl | rfl | rfl | rfl | rfl | rfl | rfl | rfl <;> rfl
      have G1 : Hid (RegF wp rb (fun k => (stT bs 0).testBit k)) := by rw [hwp]; exact G0.out.keep (Tch.alloc _ _)
      have TP : Hid (Tch No w wp) := by rw [hwp]; exact hT.out.trans0 (Tch.alloc _ _)
      rw [← hwp, ← hpb]
      clear G0 hT hwp hpb
      go_loopw [6] (fun i wr => ∃ j : Nat, j ≤ 8 * n ∧ i = .int .i64 j ∧ Hid (RegF wr rb (fun k => (stT bs j).testBit k)) ∧ Hid (Tch (fun k => k = rb) wp wr)) (fun i _ => 8 * n - (intOf i).toNat)
      case atStart => exact ⟨0, by omega, rfl, G1, Tch.refl _ _⟩
      case round =>
        clear G1
        obtain ⟨i, hi, rfl, hG, hT⟩ := hrel
        by_cases hin : i < 8 * n
        · have hk8 : i / 8 < bs.length := by rw [N.out]; omega
          have hcell : ∃ g o, a = some ⟨g, o, none⟩ ∧ wr.cell? ⟨g, o + i / 8, none⟩ = some (.int .u8 ((bs[i / 8]).toNat : Int)) := by
            rcases H.out.2 with ⟨_, h⟩ | ⟨g, o, d, h, _, _, _, x1⟩
            · rw [h] at hk8; simp at hk8
            · have h' := h
              rw [N.out] at h'
              simp only [Value.slice.injEq, true_and] at h'
              refine ⟨g, o, h'.1, ?_⟩
              have y := TP.out.cell (x1 (i / 8) hk8) (fun h => h)
              exact hT.out.cell y (fun e => by have := hnb g (by rw [h'.1]; rfl); have e' : g = rb := e; omega)
          obtain ⟨g, o, rfl, hc1⟩ := hcell
          have hbit : Hid (bitAt bs i = ((bs[i / 8]).toNat).testBit (i % 8)) := by unfold bitAt; rw [Hid, List.getElem?_eq_getElem hk8]; rfl
          obtain ⟨c, hcc⟩ : ∃ c, (bs[i / 8]).toNat = c := ⟨_, rfl⟩
          have hc256 : c < 256 := by rw [← hcc]; exact UInt8.toNat_lt _
          rw [hcc] at hc1 hbit
          obtain ⟨y0, _⟩ := hG.out.cell (i := 0) (by omega)
          have hbits : (bits BinOp.and IntKind.u8 ((c : Int) / 2 ^ (i % 8)) 1 == 1) = bitAt bs i := by rw [hbit.out]; exact and_bit c (i % 8) hc256 (by omega)
          obtain ⟨β, hβ⟩ : ∃ β, bitAt bs i = β := ⟨_, rfl⟩
          obtain ⟨m, hm⟩ : ∃ m, stT bs i = m := ⟨_, rfl⟩
          have hml : m < 4294967296 := by rw [← hm]; exact stT_lt bs i
          have hst : Hid (stT bs (i + 1) = bitStep m β) := by rw [Hid, ← hm, ← hβ]; rfl
          rw [hβ] at hbits
          obtain ⟨r0, hr0⟩ : ∃ r0, m.testBit 0 = r0 := ⟨_, rfl⟩
          have HR0 := Lib.hid hr0
          rw [hm] at y0
          simp only [hr0] at y0
          rw [hm] at hG
          obtain ⟨out, hout⟩ : ∃ out, (!(r0 == β)) = out := ⟨_, rfl⟩
          have HOUT := Lib.hid hout
          clear hβ hm hbit hr0
          have hix0 := fun W => hix W 0 (by omega)
          have p1 : (i : Int) < 8 * (n : Int) := by omega
          have p2 : (i : Int) / 8 < (n : Int) := by omega
          have p3 : (0 : Int) ≤ (i : Int) / 8 := by omega
          clear hcc
          go_upto_region 12 with fail
          clear hbits hout y0 hc1
          obtain ⟨wo, hwo⟩ : ∃ wo, wo = wr := ⟨_, rfl⟩
          subst hwo
          go_wp2_with fail
          go_loopw [9] (fun i wr => ∃ j : Nat, j ≤ 31 ∧ i = .int .i64 j ∧ Hid (RegF wr rb (fun k => if k < j then m.testBit (k + 1) else m.testBit k)) ∧ Hid (Tch (fun k => k = rb) wp wr)) (fun i _ => 31 - (intOf i).toNat)
          case atStart => exact ⟨0, by omega, rfl, hG.out.congr (fun k _ => by simp), hT⟩
          case round =>
            clear hG hT
            obtain ⟨j, hj, rfl, hG, hT⟩ := hrel
            by_cases hlt : j < 31
            · obtain ⟨y1, y2⟩ := hG.out.cell (i := j) (by omega)
              obtain ⟨z1, _⟩ := hG.out.cell (i := j + 1) (by omega)
              rw [if_neg (by omega)] at z1
              obtain ⟨b1, hb1⟩ : ∃ b1, m.testBit (j + 1) = b1 := ⟨_, rfl⟩
              rw [hb1] at z1
              have hF2 : Hid (RegF (wr.setCell ⟨rb, j, none⟩ (.bool b1)) rb (fun k => if k < j + 1 then m.testBit (k + 1) else m.testBit k)) := (hG.out.set (by omega) b1).congr (fun k hk => by
                by_cases e : k = j
                · subst e; rw [if_pos rfl, if_pos (by omega), hb1]
                · rw [if_neg e]
                  by_cases h : k < j
                  · rw [if_pos h, if_pos (by omega)]
                  · rw [if_neg h, if_neg (by omega)])
              have hT2 : Hid (Tch (fun k => k = rb) wp (wr.setCell ⟨rb, j, none⟩ (.bool b1))) := hT.out.trans (Tch.setCell (F := fun k => k = rb) wr ⟨rb, j, none⟩ _ (fun _ => rfl)) (fun _ _ h => h)
              have hixj := fun W => hix W j (by omega)
              have hixk : ∀ W : World, (Instr.indexAt 92 (.pointer (some ⟨rb, 0, none⟩)) (.int .i64 ((j : Int) + 1))).run Try.prog W = .ok (.pointer (some ⟨rb, j + 1, none⟩)) W := fun W => by
                have := hix W (j + 1) (by omega)
                rwa [show ((j + 1 : Nat) : Int) = (j : Int) + 1 by omega] at this
              clear hG hT hix hb1 hix0
              go_wp2_with fail
              exact ⟨⟨j + 1, by omega, by go_num, hF2, hT2⟩, by simp [intOf]; omega⟩
            · have hj31 : j = 31 := by omega
              subst hj31
              obtain ⟨y1, y2⟩ := hG.out.cell (i := 31) (by omega)
              have hF2 : Hid (RegF (wr.setCell ⟨rb, 31, none⟩ (.bool false)) rb (fun k => (m / 2 ^^^ polyK 0).testBit k)) := (hG.out.set (i := 31) (by omega) false).congr (fun k hk => by
                rw [show polyK 0 = 0 from rfl, Nat.xor_zero]
                by_cases e : k = 31
                · subst e; rw [if_pos rfl, bit31 hml]
                · rw [if_neg e, if_pos (by omega), bit_half])
              have hT2 : Hid (Tch (fun k => k = rb) wp (wr.setCell ⟨rb, 31, none⟩ (.bool false))) := hT.out.trans (Tch.setCell (F := fun k => k = rb) wr ⟨rb, 31, none⟩ _ (fun _ => rfl)) (fun _ _ h => h)
              have hix31 := fun W => hix W 31 (by omega)
              clear hG hT
              go_wp2_with fail
              go_loopw [10] (fun i wr => ∃ k : Nat, k ≤ 17 ∧ (out = false → k = 0) ∧ i = .int .i64 k ∧ Hid (RegF wr rb (fun q => (m / 2 ^^^ polyK k).testBit q)) ∧ Hid (Tch (fun k => k = rb) wp wr)) (fun i _ => 17 - (intOf i).toNat)
              case atStart => exact ⟨0, by omega, fun _ => rfl, rfl, hF2, hT2⟩
              case round =>
                clear hF2 hT2
                obtain ⟨k, hk, hko, rfl, hG, hT⟩ := hrel
                have hend : Hid ((out = true → k = 17) → m / 2 ^^^ polyK k = bitStep m β) := fun he => by
                  unfold bitStep
                  have ho := HOUT.out
                  rw [HR0.out]
                  cases out with
                  | false =>
                    have h0 := hko rfl
                    subst h0
                    rw [if_neg (by revert ho; cases r0 <;> cases β <;> simp), show polyK 0 = 0 from rfl, Nat.xor_zero]
                  | true =>
                    have h17 := he rfl
                    subst h17
                    rw [if_pos (by revert ho; cases r0 <;> cases β <;> simp), polyK_all]
                cases out with
                | false =>
                  have hfin : Hid (RegF wr rb (fun q => (stT bs (i + 1)).testBit q)) := hG.out.congr (fun q _ => by rw [hend.out (fun h => by cases h), hst.out])
                  clear hG
                  go_wp2_with fail
                  exact ⟨⟨i + 1, by omega, by go_num, hfin, hT⟩, by simp [intOf]; omega⟩
                | true =>
                  by_cases hk17 : k < 17
                  · have hpc := (PC.out k hk17)
                    obtain ⟨p, hp⟩ : ∃ p, (polyL[k]?).getD 0 = p := ⟨_, rfl⟩
                    have hp31 : p ≤ 31 := by
                      rw [← hp]
                      have : ∀ q, q < 17 → (polyL[q]?).getD 0 ≤ 31 := by decide
                      exact this k hk17
                    rw [hp] at hpc
                    have hpc' := hT.out.cell hpc (fun e => by have e' : pb = rb := e; omega)
                    obtain ⟨q, hq⟩ : ∃ q, 31 - p = q := ⟨_, rfl⟩
                    have hq32 : q < 32 := by omega
                    obtain ⟨y1, y2⟩ := hG.out.cell hq32
                    obtain ⟨b1, hb1⟩ : ∃ b1, (m / 2 ^^^ polyK k).testBit q = b1 := ⟨_, rfl⟩
                    rw [hb1] at y1
                    have hF2 : Hid (∀ W', W' = wr.setCell ⟨rb, q, none⟩ (.bool !b1) → RegF W' rb (fun x => (m / 2 ^^^ polyK (k + 1)).testBit x)) := fun W' e => by
                      rw [e]
                      refine (hG.out.set hq32 (!b1)).congr (fun x hx => ?_)
                      rw [show polyK (k + 1) = polyK k ^^^ 2 ^ q by rw [← hq, ← hp]; rfl, ← Nat.xor_assoc, ← flip_bit, hb1]
                    have hT2 : Hid (Tch (fun k => k = rb) wp (wr.setCell ⟨rb, q, none⟩ (.bool !b1))) := hT.out.trans (Tch.setCell (F := fun k => k = rb) wr ⟨rb, q, none⟩ _ (fun _ => rfl)) (fun _ _ h => h)
                    have hixq := fun W => hix W q hq32
                    have E1 : IntKind.i64.wrap (31 - (p : Int)) = (q : Int) := by rw [IntWalk.i64_in _ ⟨by omega, by omega⟩]; omega
                    have c1 : (k : Int) < 17 := by omega
                    have c2 : (0 : Int) ≤ (k : Int) := by omega
                    clear hG hT hix hend hp hq hb1 hpc
                    go_wp2_with fail
                    go_region
                    all_goals
                      go_wp2_with fail
                      exact ⟨⟨k + 1, by omega, by simp, by go_num, (hF2.out _ rfl).keep (Tch.drew _), hT2.out.trans0 (Tch.drew _)⟩, by simp [intOf]; omega⟩
                  · have hk : k = 17 := by omega
                    have hfin : Hid (RegF wr rb (fun q => (stT bs (i + 1)).testBit q)) := hG.out.congr (fun q _ => by rw [hend.out (fun _ => hk), hst.out])
                    clear hG
                    go_wp2_with fail
                    exact ⟨⟨i + 1, by omega, by go_num, hfin, hT⟩, by simp [intOf]; omega⟩
        · have hi8 : i = 8 * n := by omega
          subst hi8
          have TF : Hid (Tch No w wr) := TP.out.fresh hT.out (fun k hk => by have e : k = rb := hk; omega)
          obtain ⟨z, hz⟩ : ∃ z, stT bs (8 * n) = z := ⟨_, rfl⟩
          have hzl : z < 4294967296 := by rw [← hz]; exact stT_lt bs _
          have hfin : Hid (crcNot z = crcOn 0 bs) := by have h := sum_final bs; rw [N.out, hz] at h; exact h
          rw [hz] at hG
          have hFl : crcNot z < 4294967296 := crcNot_lt hzl
          obtain ⟨F, hF⟩ : ∃ F, crcNot z = F := ⟨_, rfl⟩
          have HF := Lib.hid hF
          rw [hF] at hfin hFl
          clear hz hF hT TP
          obtain ⟨wo, hwo⟩ : ∃ wo, wo = wr := ⟨_, rfl⟩
          subst hwo
          go_wp2_with fail
          go_loop [11, 12] (fun s i => ∃ (j acc : Nat), j ≤ 32 ∧ i = .int .i64 j ∧ s = .int .u32 acc ∧ Hid (acc = F % 2 ^ j)) (fun _ i => 32 - (intOf i).toNat)
          case atStart => exact ⟨0, 0, by omega, rfl, rfl, by simp [Hid, Nat.mod_one]⟩
          case round =>
            obtain ⟨j, acc, hj, rfl, rfl, hacc⟩ := hrel
            by_cases hlt : j < 32
            · obtain ⟨y1, _⟩ := hG.out.cell hlt
              have hixj := fun W => hix W j hlt
              have hlow := Lib.hid (low_bit F j)
              have hFb : Hid (F.testBit j = !(z.testBit j)) := by rw [Hid, ← HF.out]; exact not_bit hzl hlt
              obtain ⟨b, hb⟩ : ∃ b, z.testBit j = b := ⟨_, rfl⟩
              rw [hb] at y1 hFb
              clear hix hb
              cases b
              · have hn : Hid (acc + 2 ^ j = F % 2 ^ (j + 1)) := by rw [Hid, hlow.out, hFb.out, hacc.out]; rfl
                have hor := Lib.hid (or_bit F j acc hlt hacc.out)
                go_wp2_with fail
                exact ⟨⟨j + 1, acc + 2 ^ j, by omega, by go_num, by rw [hor.out], hn⟩, by simp [intOf]; omega⟩
              · have hn : Hid (acc = F % 2 ^ (j + 1)) := by rw [Hid, hlow.out, hFb.out, hacc.out]; rfl
                go_wp2_with fail
                exact ⟨⟨j + 1, acc, by omega, by go_num, rfl, hn⟩, by simp [intOf]; omega⟩
            · have hj32 : j = 32 := by omega
              subst hj32
              have hE : acc = F := by rw [hacc.out, Nat.mod_eq_of_lt (by omega)]
              subst hE
              go_wp2_with fail
              go_ret
              exact ⟨ret_i (by rw [hfin.out]), TF.out⟩
end Go.Proofs.Ytcjlgdldhcbcjaa
