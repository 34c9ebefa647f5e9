/- Part 2 of what the proof of OrderCounts rests on. No condition. -/
import Derived.Test.YtelaljoebdpicaaGreatPOrderCounts01
namespace Go.Proofs.YtelaljoebdpicaaGreat
set_option maxRecDepth 100000
set_option maxHeartbeats 60000000
set_option linter.unusedVariables false
set_option linter.unusedSimpArgs false
set_option linter.unusedSectionVars false
section
open Go.RowKit Go.Maps
def I64 (z : Int) : Prop := -9223372036854775808 <= z /\ z <= 9223372036854775807
theorem kbroker_any (n : Int) (w : World) : Calls Tryz.prog 42 #[.int .i64 n] w fun e w' => e = .returned (.bool (brokerB n)) /\ w = w' := by
 by_cases h1 : 0 < n
 ·by_cases h2 : n <= 8
  ·have hb : brokerB n = true := by simp [brokerB]; omega
   rw [hb]
   clear hb
   go_enter Tryz.func42, Tryz.ntmps42
   go_wp2_with fail
   go_ret
   exact ⟨rfl, rfl⟩
  ·have hb : brokerB n = false := by simp [brokerB]; omega
   rw [hb]
   clear hb
   go_enter Tryz.func42, Tryz.ntmps42
   go_wp2_with fail
   go_ret
   exact ⟨rfl, rfl⟩
 ·have hb : brokerB n = false := by simp [brokerB]; omega
  rw [hb]
  clear hb
  go_enter Tryz.func42, Tryz.ntmps42
  go_wp2_with fail
  go_ret
  exact ⟨rfl, rfl⟩
theorem khome_any (t : Int) (ht : I64 t) (w : World) : Calls Tryz.prog 134 #[.int .i64 t] w fun e w' => e = .returned (.int .i64 (homeM t)) /\ w = w' := by
 unfold I64 at ht
 have hd : Hid (homeM t = if 1 <= t.tdiv 4294967296 /\ t.tdiv 4294967296 <= 8 /\ t.tmod 4294967296 ≠ 0 then t.tdiv 4294967296 else 0) := by
  rw [Hid, homeM]
  rcases Int.le_total 0 t with q | q
  ·rw [Int.tdiv_eq_ediv_of_nonneg q, Int.tmod_eq_emod_of_nonneg q]
   by_cases h : 4294967296 < t /\ t < 38654705664 /\ t % 4294967296 ≠ 0
   ·rw [if_pos h, if_pos (by omega)]
   ·rw [if_neg h, if_neg (by omega)]
  ·have h1 : t.tdiv 4294967296 <= 0 := by
    have e : t = -(-t) := by omega
    rw [e, Int.neg_tdiv, Int.tdiv_eq_ediv_of_nonneg (by omega)]
    omega
   rw [if_neg (by omega), if_neg (by omega)]
 obtain ⟨b, hb⟩ : ∃ b, t.tdiv 4294967296 = b := ⟨_, rfl⟩
 obtain ⟨m, hm⟩ : ∃ m, t.tmod 4294967296 = m := ⟨_, rfl⟩
 have hbb : IntKind.i64.wrap b = b := IntWalk.i64_in _ (by
  rw [<- hb]
  rcases Int.le_total 0 t with q | q
  ·rw [Int.tdiv_eq_ediv_of_nonneg q]; omega
  ·have e : t = -(-t) := by omega
   rw [e, Int.neg_tdiv, Int.tdiv_eq_ediv_of_nonneg (by omega)]
   omega)
 rw [hb, hm] at hd
 rw [hd.out]
 clear hd ht
 by_cases h1 : b < 1
 ·rw [if_neg (by omega)]
  go_enter Tryz.func134, Tryz.ntmps134
  go_wp2_with fail
  go_ret
  exact ⟨rfl, rfl⟩
 by_cases h2 : 8 < b
 ·rw [if_neg (by omega)]
  go_enter Tryz.func134, Tryz.ntmps134
  go_wp2_with fail
  go_ret
  exact ⟨rfl, rfl⟩
 by_cases h3 : m = 0
 ·rw [if_neg (by omega)]
  go_enter Tryz.func134, Tryz.ntmps134
  go_wp2_with fail
  go_ret
  exact ⟨rfl, rfl⟩
 ·rw [if_pos (by omega)]
  go_enter Tryz.func134, Tryz.ntmps134
  go_wp2_with fail
  go_ret
  exact ⟨rfl, rfl⟩
theorem ktid_any (t : Int) (ht : I64 t) (w : World) : Calls Tryz.prog 133 #[.int .i64 t] w fun e w' => e = .returned (.bool (tidB t)) /\ w = w' := by
 have hh := Lib.hid (khome_any t ht w)
 obtain ⟨h, hd⟩ : ∃ h, homeM t = h := ⟨_, rfl⟩
 have hb : tidB t = decide (0 < h) := by unfold tidB; rw [hd]
 rw [hb]
 rw [hd] at hh
 clear hb hd ht
 go_enter Tryz.func133, Tryz.ntmps133
 go_wp2_with (go_at_call 134; go_must (refine hh.out.mono ?_); rintro e w' ⟨rfl, rfl⟩)
 go_ret
 exact ⟨ret_b rfl, rfl⟩
theorem rbroker_any (n : Int) (w : World) : Calls Tryz.prog 53 #[.int .i64 n] w fun e w' => e = .returned (.bool (brokerB n)) /\ w = w' := by
 by_cases h1 : 0 < n
 ·by_cases h2 : n <= 8
  ·have hb : brokerB n = true := by simp [brokerB]; omega
   rw [hb]
   clear hb
   go_enter Tryz.func53, Tryz.ntmps53
   go_wp2_with fail
   go_ret
   exact ⟨rfl, rfl⟩
  ·have hb : brokerB n = false := by simp [brokerB]; omega
   rw [hb]
   clear hb
   go_enter Tryz.func53, Tryz.ntmps53
   go_wp2_with fail
   go_ret
   exact ⟨rfl, rfl⟩
 ·have hb : brokerB n = false := by simp [brokerB]; omega
  rw [hb]
  clear hb
  go_enter Tryz.func53, Tryz.ntmps53
  go_wp2_with fail
  go_ret
  exact ⟨rfl, rfl⟩
theorem rhome_any (t : Int) (ht : I64 t) (w : World) : Calls Tryz.prog 54 #[.int .i64 t] w fun e w' => e = .returned (.int .i64 (homeM t)) /\ w = w' := by
 unfold I64 at ht
 have hd : Hid (∀ b : Nat, 1 <= b -> b <= 8 -> (b : Int) * 4294967296 < t -> t < (b : Int) * 4294967296 + 4294967296 -> homeM t = (b : Int)) := fun b h1 h2 h3 h4 => by
  unfold homeM
  rw [if_pos (by omega)]; omega
 have hn : Hid ((∀ b : Nat, 1 <= b -> b <= 8 -> ¬ ((b : Int) * 4294967296 < t /\ t < (b : Int) * 4294967296 + 4294967296)) -> homeM t = 0) := fun h => by
  unfold homeM
  refine if_neg (fun q => ?_)
  have := h (t / 4294967296).toNat (by omega) (by omega)
  omega
 obtain ⟨r, hr⟩ : ∃ r, homeM t = r := ⟨_, rfl⟩
 rw [hr] at hd hn ⊢
 clear hr
 go_enter Tryz.func54, Tryz.ntmps54
 go_wp2_with fail
 go_loop [3] (fun i => ∃ b : Nat, 1 <= b /\ b <= 9 /\ i = .int .i64 b /\ Hid (∀ c : Nat, 1 <= c -> c < b -> ¬ ((c : Int) * 4294967296 < t /\ t < (c : Int) * 4294967296 + 4294967296))) (fun i => 9 - (intOf i).toNat)
 case atStart => exact ⟨1, by omega, by omega, rfl, fun c h1 h2 => by omega⟩
 case round =>
  obtain ⟨b, hb1, hb2, rfl, hN⟩ := hrel
  by_cases h8 : b <= 8
  ·obtain ⟨lo, hlo⟩ : ∃ lo, (b : Int) * 4294967296 = lo := ⟨_, rfl⟩
   obtain ⟨hi, hhi⟩ : ∃ hi, lo + 4294967296 = hi := ⟨_, rfl⟩
   have hw1 : IntKind.i64.wrap ((b : Int) * 4294967296) = lo := by rw [hlo]; exact IntWalk.i64_in _ ⟨by omega, by omega⟩
   have hw2 : IntKind.i64.wrap (lo + 4294967296) = hi := by rw [hhi]; exact IntWalk.i64_in _ ⟨by omega, by omega⟩
   have HL := Lib.hid hlo; have HH := Lib.hid hhi
   clear hlo hhi
   by_cases q1 : lo < t
   ·by_cases q2 : t < hi
    ·have e : r = (b : Int) := hd.out b hb1 h8 (by rw [HL.out]; exact q1) (by rw [HL.out, HH.out]; exact q2)
     have E := Lib.hid e
     clear e hd hn hN
     go_wp2_with fail
     go_ret
     exact ⟨ret_i E.out.symm, rfl⟩
    ·have hN2 : Hid (∀ c : Nat, 1 <= c -> c < b + 1 -> ¬ ((c : Int) * 4294967296 < t /\ t < (c : Int) * 4294967296 + 4294967296)) := fun c h1 h2 h3 => by
      rcases Nat.lt_or_ge c b with q | q
      ·exact hN.out c h1 q h3
      ·have : c = b := by omega
       subst this; rw [HL.out, HH.out] at h3; exact q2 h3.2
     clear hd hn hN
     go_wp2_with fail
     exact ⟨⟨b + 1, by omega, by omega, by go_num, hN2⟩, by simp [intOf]; omega⟩
   ·have hN2 : Hid (∀ c : Nat, 1 <= c -> c < b + 1 -> ¬ ((c : Int) * 4294967296 < t /\ t < (c : Int) * 4294967296 + 4294967296)) := fun c h1 h2 h3 => by
     rcases Nat.lt_or_ge c b with q | q
     ·exact hN.out c h1 q h3
     ·have : c = b := by omega
      subst this; rw [HL.out] at h3; exact q1 h3.1
    clear hd hn hN
    go_wp2_with fail
    exact ⟨⟨b + 1, by omega, by omega, by go_num, hN2⟩, by simp [intOf]; omega⟩
  ·have e := hn.out (fun c h1 h2 => hN.out c h1 (by omega))
   subst e
   go_wp2_with fail
   go_ret
   exact ⟨rfl, rfl⟩
theorem rtid_any (t : Int) (ht : I64 t) (w : World) : Calls Tryz.prog 57 #[.int .i64 t] w fun e w' => e = .returned (.bool (tidB t)) /\ w = w' := by
 have hh := Lib.hid (rhome_any t ht w)
 obtain ⟨h, hd⟩ : ∃ h, homeM t = h := ⟨_, rfl⟩
 have hb : tidB t = decide (0 < h) := by unfold tidB; rw [hd]
 rw [hb]
 rw [hd] at hh
 clear hb hd ht
 go_enter Tryz.func57, Tryz.ntmps57
 go_wp2_with (go_at_call 54; go_must (refine hh.out.mono ?_); rintro e w' ⟨rfl, rfl⟩)
 go_ret
 exact ⟨ret_b rfl, rfl⟩
end
section
open Go.RowKit Go.Maps
theorem queueB_bad {l : List UInt8} {k : Nat} {c : UInt8} (hk : k < l.length) (hc : l[k] = c) (h : lowB c = false) : queueB l = false := by
 have : l.all lowB = false := by
  rw [List.all_eq_false]
  exact ⟨l[k], List.getElem_mem hk, by rw [hc, h]; simp⟩
 simp [queueB, this]
theorem low_snoc {l : List UInt8} {k : Nat} {c : UInt8} (hk : k < l.length) (hc : l[k] = c) (h : lowB c = true) (ha : (l.take k).all lowB = true) : (l.take (k + 1)).all lowB = true := by
 rw [List.take_succ_eq_append_getElem hk, List.all_append, ha, hc]; simp [h]
theorem kqueue_any (s : ByteArray) (w : World) (hlen : s.size <= 9223372036854775807) :
  Calls Tryz.prog 176 #[.string s] w fun e w' => e = .returned (.bool (queueB s.data.toList)) /\ w = w' := by
 have hsl : s.data.toList.length = s.size := rfl
 have HL := Lib.hid hsl; clear hsl
 go_enter Tryz.func176, Tryz.ntmps176
 go_wp2_with fail
 go_loop [6] (fun i => ∃ k : Nat, k <= s.size /\ i = .int .i64 k /\ Hid ((s.data.toList.take k).all lowB = true)) (fun i => s.size - (intOf i).toNat)
 case atStart => exact ⟨0, Nat.zero_le _, rfl, by simp [Hid]⟩
 case round =>
  obtain ⟨k, hk, rfl, HA⟩ := hrel
  by_cases hlt : k < s.size
  ·have hkl : k < s.data.toList.length := by rw [HL.out]; exact hlt
   have hch : Hid (s.data.toList[k] = s[k]) := rfl
   have h5 : (s[k].toNat : Int) < 97 ∨ (97 <= (s[k].toNat : Int) /\ (s[k].toNat : Int) <= 122) ∨ 122 < (s[k].toNat : Int) := by omega
   rcases h5 with h | ⟨h, h'⟩ | h
   ·have H : Hid (lowB s[k] = false) := by simp [Hid, lowB]; omega
    have d1 : decide ((s[k].toNat : Int) < 97) = true := by simp; omega
    go_wp2_with fail
    go_ret
    exact ⟨ret_b (queueB_bad hkl hch.out H.out).symm, rfl⟩
   ·have H : Hid (lowB s[k] = true) := by simp [Hid, lowB]; omega
    have d1 : decide ((s[k].toNat : Int) < 97) = false := by simp; omega
    have d2 : decide (122 < (s[k].toNat : Int)) = false := by simp; omega
    go_wp2_with fail
    exact ⟨⟨k + 1, by omega, by go_num, low_snoc hkl hch.out H.out HA.out⟩, by simp [intOf]; omega⟩
   ·have H : Hid (lowB s[k] = false) := by simp [Hid, lowB]; omega
    have d1 : decide ((s[k].toNat : Int) < 97) = false := by simp; omega
    have d2 : decide (122 < (s[k].toNat : Int)) = true := by simp; omega
    go_wp2_with fail
    go_ret
    exact ⟨ret_b (queueB_bad hkl hch.out H.out).symm, rfl⟩
  ·have hk2 : k = s.size := by omega
   have HE : Hid (queueB s.data.toList = decide (1 <= s.size /\ s.size <= 8)) := by
    have h := HA.out
    rw [hk2, <- HL.out, List.take_length] at h
    rw [Hid, queueB, h, HL.out, Bool.true_and]
   by_cases h1 : s.size = 0
   ·have HF : Hid (decide (1 <= s.size /\ s.size <= 8) = false) := by simp [Hid]; omega
    clear hk2
    have h1' : ¬ 1 <= s.size := by omega
    go_wp2_with fail
    go_ret
    exact ⟨ret_b (by rw [HE.out, HF.out]), rfl⟩
   by_cases h2 : s.size <= 8
   ·have HF : Hid (decide (1 <= s.size /\ s.size <= 8) = true) := by simp [Hid]; omega
    clear hk2
    have h1' : 1 <= (s.size : Int) := by omega
    have h2' : (s.size : Int) <= 8 := by omega
    have h3' : 0 < s.size := by omega
    go_wp2_with fail
    go_ret
    exact ⟨ret_b (by rw [HE.out, HF.out]), rfl⟩
   ·have HF : Hid (decide (1 <= s.size /\ s.size <= 8) = false) := by simp [Hid]; omega
    clear hk2
    have h1' : 1 <= (s.size : Int) := by omega
    have h2' : ¬ (s.size : Int) <= 8 := by omega
    have h3' : 0 < s.size := by omega
    go_wp2_with fail
    go_ret
    exact ⟨ret_b (by rw [HE.out, HF.out]), rfl⟩
theorem rqueue_any (s : ByteArray) (w : World) (hlen : s.size <= 9223372036854775807) :
  Calls Tryz.prog 55 #[.string s] w fun e w' => e = .returned (.bool (queueB s.data.toList)) /\ w = w' := by
 have hsl : s.data.toList.length = s.size := rfl
 have HL := Lib.hid hsl; clear hsl
 go_enter Tryz.func55, Tryz.ntmps55
 go_wp2_with fail
 go_loop [3] (fun i => ∃ k : Nat, k <= s.size /\ i = .int .i64 k /\ Hid ((s.data.toList.take k).all lowB = true)) (fun i => s.size - (intOf i).toNat)
 case atStart => exact ⟨0, Nat.zero_le _, rfl, by simp [Hid]⟩
 case round =>
  obtain ⟨k, hk, rfl, HA⟩ := hrel
  by_cases hlt : k < s.size
  ·have hkl : k < s.data.toList.length := by rw [HL.out]; exact hlt
   have hch : Hid (s.data.toList[k] = s[k]) := rfl
   have h5 : (s[k].toNat : Int) < 97 ∨ (97 <= (s[k].toNat : Int) /\ (s[k].toNat : Int) <= 122) ∨ 122 < (s[k].toNat : Int) := by omega
   rcases h5 with h | ⟨h, h'⟩ | h
   ·have H : Hid (lowB s[k] = false) := by simp [Hid, lowB]; omega
    have d1 : decide ((s[k].toNat : Int) < 97) = true := by simp; omega
    go_wp2_with fail
    go_ret
    exact ⟨ret_b (queueB_bad hkl hch.out H.out).symm, rfl⟩
   ·have H : Hid (lowB s[k] = true) := by simp [Hid, lowB]; omega
    have d1 : decide ((s[k].toNat : Int) < 97) = false := by simp; omega
    have d2 : decide (122 < (s[k].toNat : Int)) = false := by simp; omega
    go_wp2_with fail
    exact ⟨⟨k + 1, by omega, by go_num, low_snoc hkl hch.out H.out HA.out⟩, by simp [intOf]; omega⟩
   ·have H : Hid (lowB s[k] = false) := by simp [Hid, lowB]; omega
    have d1 : decide ((s[k].toNat : Int) < 97) = false := by simp; omega
    have d2 : decide (122 < (s[k].toNat : Int)) = true := by simp; omega
    go_wp2_with fail
    go_ret
    exact ⟨ret_b (queueB_bad hkl hch.out H.out).symm, rfl⟩
  ·have hk2 : k = s.size := by omega
   have HE : Hid (queueB s.data.toList = decide (1 <= s.size /\ s.size <= 8)) := by
    have h := HA.out
    rw [hk2, <- HL.out, List.take_length] at h
    rw [Hid, queueB, h, HL.out, Bool.true_and]
   by_cases h1 : s.size = 0
   ·have HF : Hid (decide (1 <= s.size /\ s.size <= 8) = false) := by simp [Hid]; omega
    clear hk2
    have h1' : ¬ 1 <= s.size := by omega
    go_wp2_with fail
    go_ret
    exact ⟨ret_b (by rw [HE.out, HF.out]), rfl⟩
   by_cases h2 : s.size <= 8
   ·have HF : Hid (decide (1 <= s.size /\ s.size <= 8) = true) := by simp [Hid]; omega
    clear hk2
    have h1' : 1 <= (s.size : Int) := by omega
    have h2' : (s.size : Int) <= 8 := by omega
    have h3' : 0 < s.size := by omega
    go_wp2_with fail
    go_ret
    exact ⟨ret_b (by rw [HE.out, HF.out]), rfl⟩
   ·have HF : Hid (decide (1 <= s.size /\ s.size <= 8) = false) := by simp [Hid]; omega
    clear hk2
    have h1' : 1 <= (s.size : Int) := by omega
    have h2' : ¬ (s.size : Int) <= 8 := by omega
    have h3' : 0 < s.size := by omega
    go_wp2_with fail
    go_ret
    exact ⟨ret_b (by rw [HE.out, HF.out]), rfl⟩
end
section
open Go.RowKit Go.Maps
def CellsAt (w : World) (v : Value) (n size : Nat) (cs : List Value) : Prop :=
 cs.length = n * size /\ ((v = .slice none 0 0 /\ n = 0) ∨ ∃ b o cap, v = .slice (some ⟨b, o, none⟩) n cap /\ n <= cap /\ cap <= maxLen /\ b < w.heap.size /\ ∀ j x, cs[j]? = some x -> w.cell? ⟨b, o + j, none⟩ = some x)
theorem CellsAt.keep {w w' : World} {v : Value} {n size : Nat} {cs : List Value} (h : CellsAt w v n size cs) (t : Tch No w w') : CellsAt w' v n size cs := by
 refine ⟨h.1, ?_⟩
 rcases h.2 with h2 | ⟨b, o, cap, h2, h3, h4, h5, h6⟩
 ·exact .inl h2
 ·exact .inr ⟨b, o, cap, h2, h3, h4, Nat.lt_of_lt_of_le h5 t.size, fun j x hx => t.cell (h6 j x hx) (fun h => h)⟩
theorem CellsAt.nil (w : World) (size : Nat) : CellsAt w (.slice none 0 0) 0 size [] := ⟨by simp, .inl ⟨rfl, rfl⟩⟩
theorem CellsAt.shape {w : World} {v : Value} {n size : Nat} {cs : List Value} (h : CellsAt w v n size cs) : ∃ a cap, v = .slice a n cap /\ n <= cap /\ cap <= maxLen := by
 rcases h.2 with ⟨rfl, rfl⟩ | ⟨b, o, cap, h2, h3, h4, _⟩
 ·exact ⟨none, 0, rfl, Nat.le_refl _, by simp [maxLen]⟩
 ·exact ⟨_, cap, h2, h3, h4⟩
def strV (s : Txt) : Value := .string ⟨s.toArray⟩
def encPut (p : PutM) : List Value := [strV p.q, strV p.b]
def encMsg (m : MsgM) : List Value := [.int .i64 m.id, strV m.q, strV m.b, .int .i64 m.seq, .int .i64 m.cnt, .int .i64 m.who]
def encEnd (e : EndM) : List Value := [.int .i64 e.tid, .bool e.yes]
def IsInts (w : World) (v : Value) (l : List Int) : Prop := CellsAt w v l.length 1 (l.map (fun x => .int .i64 x))
def IsPuts (w : World) (v : Value) (l : List PutM) : Prop := CellsAt w v l.length 2 (l.flatMap encPut)
def IsMsgs (w : World) (v : Value) (l : List MsgM) : Prop := CellsAt w v l.length 6 (l.flatMap encMsg)
def IsEnds (w : World) (v : Value) (l : List EndM) : Prop := CellsAt w v l.length 2 (l.flatMap encEnd)
def encTid (x : Int × Value) : List Value := [.int .i64 x.1, x.2]
def IsBrs (w : World) (v : Value) (l : List BrM) : Prop := ∃ vs : List Value, vs.length = l.length /\ CellsAt w v l.length 2 (((l.map (·.tid)).zip vs).flatMap encTid) /\ ∀ i (h : i < l.length) (h' : i < vs.length), IsPuts w vs[i] l[i].puts
def IsPends (w : World) (v : Value) (l : List PendM) : Prop := ∃ vs : List Value, vs.length = l.length /\ CellsAt w v l.length 2 (((l.map (·.tid)).zip vs).flatMap encTid) /\ ∀ i (h : i < l.length) (h' : i < vs.length), IsInts w vs[i] l[i].parts
def IsSt (w : World) (v : Value) (s : StM) : Prop :=
 ∃ vm vw ve vo vn, v = .agg #[.int .i64 s.broker, .int .i64 s.nid, .int .i64 s.nseq, .int .i64 s.tx, vm, vw, ve, vo, vn] /\ IsMsgs w vm s.ms /\ IsBrs w vw s.waits /\ IsEnds w ve s.ends /\ IsPends w vo s.opens /\ IsPends w vn s.noes
def IsRec (w : World) (v : Value) (r : RecM) : Prop :=
 ∃ vp vu, v = .agg #[.int .i64 r.kind, .int .i64 r.tid, .int .i64 r.id, .bool r.yes, vp, vu] /\ IsInts w vp r.parts /\ IsPuts w vu r.puts
theorem IsInts.keep {w w' : World} {v : Value} {l : List Int} (h : IsInts w v l) (t : Tch No w w') : IsInts w' v l := CellsAt.keep h t
theorem IsPuts.keep {w w' : World} {v : Value} {l : List PutM} (h : IsPuts w v l) (t : Tch No w w') : IsPuts w' v l := CellsAt.keep h t
theorem IsMsgs.keep {w w' : World} {v : Value} {l : List MsgM} (h : IsMsgs w v l) (t : Tch No w w') : IsMsgs w' v l := CellsAt.keep h t
theorem IsEnds.keep {w w' : World} {v : Value} {l : List EndM} (h : IsEnds w v l) (t : Tch No w w') : IsEnds w' v l := CellsAt.keep h t
theorem IsBrs.keep {w w' : World} {v : Value} {l : List BrM} (h : IsBrs w v l) (t : Tch No w w') : IsBrs w' v l := by
 obtain ⟨vs, h1, h2, h3⟩ := h
 exact ⟨vs, h1, h2.keep t, fun i h h' => (h3 i h h').keep t⟩
theorem IsPends.keep {w w' : World} {v : Value} {l : List PendM} (h : IsPends w v l) (t : Tch No w w') : IsPends w' v l := by
 obtain ⟨vs, h1, h2, h3⟩ := h
 exact ⟨vs, h1, h2.keep t, fun i h h' => (h3 i h h').keep t⟩
theorem IsSt.keep {w w' : World} {v : Value} {s : StM} (h : IsSt w v s) (t : Tch No w w') : IsSt w' v s := by
 obtain ⟨vm, vw, ve, vo, vn, h0, h1, h2, h3, h4, h5⟩ := h
 exact ⟨vm, vw, ve, vo, vn, h0, h1.keep t, h2.keep t, h3.keep t, h4.keep t, h5.keep t⟩
theorem IsRec.keep {w w' : World} {v : Value} {r : RecM} (h : IsRec w v r) (t : Tch No w w') : IsRec w' v r := by
 obtain ⟨vp, vu, h0, h1, h2⟩ := h
 exact ⟨vp, vu, h0, h1.keep t, h2.keep t⟩
theorem flat_get {α : Type} (enc : α -> List Value) (m : Nat) (he : ∀ x, (enc x).length = m) : ∀ (l : List α) (i k : Nat) (hi : i < l.length), k < m -> (l.flatMap enc)[i * m + k]? = (enc l[i])[k]?
 | a :: r, 0, k, hi, hk => by
  rw [List.flatMap_cons, List.getElem?_append_left (by rw [he]; omega)]
  simp
 | a :: r, i + 1, k, hi, hk => by
  have e : (i + 1) * m + k = (enc a).length + (i * m + k) := by rw [he, Nat.succ_mul]; omega
  rw [List.flatMap_cons, e, List.getElem?_append_right (by omega), Nat.add_sub_cancel_left]
  simpa using flat_get enc m he r i k (by simpa using hi) hk
theorem flat_len {α : Type} (enc : α -> List Value) (m : Nat) (he : ∀ x, (enc x).length = m) (l : List α) : (l.flatMap enc).length = l.length * m := by
 induction l with
 | nil => simp
 | cons a r ih => rw [List.flatMap_cons, List.length_append, he, ih, List.length_cons, Nat.succ_mul]; omega
theorem CellsAt.elem {α : Type} {w : World} {v : Value} {enc : α -> List Value} {m : Nat} (he : ∀ x, (enc x).length = m) {l : List α} (h : CellsAt w v l.length m (l.flatMap enc)) {i : Nat} (hi : i < l.length) : ∃ b o cap, v = .slice (some ⟨b, o, none⟩) l.length cap /\ ∀ k x, k < m -> (enc l[i])[k]? = some x -> w.cell? ⟨b, o + (i * m + k), none⟩ = some x := by
 rcases h.2 with ⟨_, h0⟩ | ⟨b, o, cap, h2, h3, h4, h5, h6⟩
 ·omega
 ·exact ⟨b, o, cap, h2, fun k x hk hx => h6 _ x (by rw [flat_get enc m he l i k hi hk]; exact hx)⟩
end
section
open Go.RowKit Go.Maps
theorem kbody_any (s : ByteArray) (w : World) (hlen : s.size <= 9223372036854775807) :
  Calls Tryz.prog 177 #[.string s] w fun e w' => e = .returned (.bool (bodyB s.data.toList)) /\ w = w' := by
 have hsl : s.data.toList.length = s.size := rfl
 have hb : Hid (bodyB s.data.toList = decide ((s.size : Int) <= 60)) := by rw [Hid, bodyB, hsl]; congr 1; simp; omega
 clear hsl
 go_enter Tryz.func177, Tryz.ntmps177
 go_wp2_with fail
 go_ret
 exact ⟨ret_b hb.out.symm, rfl⟩
theorem rbody_any (s : ByteArray) (w : World) (hlen : s.size <= 9223372036854775807) :
  Calls Tryz.prog 56 #[.string s] w fun e w' => e = .returned (.bool (bodyB s.data.toList)) /\ w = w' := by
 have hsl : s.data.toList.length = s.size := rfl
 have hb : Hid (bodyB s.data.toList = decide ((s.size : Int) <= 60)) := by rw [Hid, bodyB, hsl]; congr 1; simp; omega
 clear hsl
 go_enter Tryz.func56, Tryz.ntmps56
 go_wp2_with fail
 go_ret
 exact ⟨ret_b hb.out.symm, rfl⟩
theorem kput_any (s t : ByteArray) (w : World) (h1 : s.size <= 9223372036854775807) (h2 : t.size <= 9223372036854775807) :
  Calls Tryz.prog 135 #[.agg #[.string s, .string t]] w fun e w' => e = .returned (.bool (putB ⟨s.data.toList, t.data.toList⟩)) /\ Tch No w w' := by
 have hq := Lib.hid (fun W => kqueue_any s W h1)
 have hb := Lib.hid (fun W => kbody_any t W h2)
 have he : putB ⟨s.data.toList, t.data.toList⟩ = (queueB s.data.toList && bodyB t.data.toList) := rfl
 rw [he]
 obtain ⟨q, hq2⟩ : ∃ q, queueB s.data.toList = q := ⟨_, rfl⟩
 obtain ⟨b, hb2⟩ : ∃ b, bodyB t.data.toList = b := ⟨_, rfl⟩
 rw [hq2, hb2]
 rw [hq2] at hq
 rw [hb2] at hb
 clear he hq2 hb2
 cases q with
 | false =>
  go_enter Tryz.func135, Tryz.ntmps135
  go_wp2_with (go_at_call 176; go_must (refine (hq.out _).mono ?_); rintro e w' ⟨rfl, rfl⟩)
  go_ret
  exact ⟨rfl, Tch.alloc _ _⟩
 | true =>
  go_enter Tryz.func135, Tryz.ntmps135
  go_wp2_with (first
   | (go_at_call 176; go_must (refine (hq.out _).mono ?_); rintro e w' ⟨rfl, rfl⟩)
   | (go_at_call 177; go_must (refine (hb.out _).mono ?_); rintro e w' ⟨rfl, rfl⟩))
  go_ret
  exact ⟨rfl, Tch.alloc _ _⟩
theorem rput_any (s t : ByteArray) (w : World) (h1 : s.size <= 9223372036854775807) (h2 : t.size <= 9223372036854775807) :
  Calls Tryz.prog 138 #[.agg #[.string s, .string t]] w fun e w' => e = .returned (.bool (putB ⟨s.data.toList, t.data.toList⟩)) /\ Tch No w w' := by
 have hq := Lib.hid (fun W => rqueue_any s W h1)
 have hb := Lib.hid (fun W => rbody_any t W h2)
 have he : putB ⟨s.data.toList, t.data.toList⟩ = (queueB s.data.toList && bodyB t.data.toList) := rfl
 rw [he]
 obtain ⟨q, hq2⟩ : ∃ q, queueB s.data.toList = q := ⟨_, rfl⟩
 obtain ⟨b, hb2⟩ : ∃ b, bodyB t.data.toList = b := ⟨_, rfl⟩
 rw [hq2, hb2]
 rw [hq2] at hq
 rw [hb2] at hb
 clear he hq2 hb2
 cases q with
 | false =>
  go_enter Tryz.func138, Tryz.ntmps138
  go_wp2_with (go_at_call 55; go_must (refine (hq.out _).mono ?_); rintro e w' ⟨rfl, rfl⟩)
  go_ret
  exact ⟨rfl, Tch.alloc _ _⟩
 | true =>
  go_enter Tryz.func138, Tryz.ntmps138
  go_wp2_with (first
   | (go_at_call 55; go_must (refine (hq.out _).mono ?_); rintro e w' ⟨rfl, rfl⟩)
   | (go_at_call 56; go_must (refine (hb.out _).mono ?_); rintro e w' ⟨rfl, rfl⟩))
  go_ret
  exact ⟨rfl, Tch.alloc _ _⟩
end
section
open Go.RowKit Go.Maps
theorem strict_iff {l : List Int} : strictB l = true ↔ l.Pairwise (· < ·) := by
 induction l with
 | nil => simp [strictB]
 | cons a r ih => rw [strictB_cons, List.pairwise_cons, ih]
structure MsgP (s : StM) (m : MsgM) : Prop where
 seq : 1 <= m.seq /\ m.seq < s.nseq
 home : homeM m.id = s.broker
 low : m.id % 4294967296 < s.nid
 q : queueB m.q = true
 b : bodyB m.b = true
 cnt : 0 <= m.cnt /\ m.cnt <= 1000
 who : m.who = 0 ∨ (tidB m.who = true /\ hasP (·.tid) s.ends m.who = false)
structure WaitP (s : StM) (w : BrM) : Prop where
 tid : tidB w.tid = true
 no : hasP (·.tid) s.ends w.tid = false
 len : w.puts.length <= 10
 puts : w.puts.all putB = true
structure PendP (b : Int) (p : PendM) : Prop where
 home : homeM p.tid = b
 len : 1 <= p.parts.length /\ p.parts.length <= 7
 rising : risingB p.parts = true
 other : p.parts.contains b = false
structure MayP (s : StM) : Prop where
 br : 1 <= s.broker /\ s.broker <= 8
 nid : 1 <= s.nid /\ s.nid <= 4294967296
 nseq : 1 <= s.nseq /\ s.nseq <= 1099511627776
 tx : 0 <= s.tx /\ s.tx <= 200
 lms : s.ms.length <= 72
 lw : s.waits.length <= 2000
 le : s.ends.length <= 2000
 lo : s.opens.length <= 2000
 ln : s.noes.length <= 2000
 ms : ∀ m ∈ s.ms, MsgP s m
 mseq : strictB (s.ms.map (·.seq)) = true
 mids : (s.ms.map (·.id)).Nodup
 ends : ∀ e ∈ s.ends, tidB e.tid = true
 ends2 : strictB (s.ends.map (·.tid)) = true
 waits : ∀ w ∈ s.waits, WaitP s w
 waits2 : strictB (s.waits.map (·.tid)) = true
 opens : ∀ p ∈ s.opens, PendP s.broker p /\ hasP (·.tid) s.ends p.tid = false /\ hasP (·.tid) s.waits p.tid = false
 opens2 : strictB (s.opens.map (·.tid)) = true
 noes : ∀ p ∈ s.noes, PendP s.broker p /\ ∃ e ∈ s.ends, e.tid = p.tid /\ e.yes = false
 noes2 : strictB (s.noes.map (·.tid)) = true
theorem msgB_iff (s : StM) (m : MsgM) : msgB s m = true ↔ MsgP s m := by
 unfold msgB
 simp only [Bool.and_eq_true, Bool.or_eq_true, decide_eq_true_eq, Bool.not_eq_true']
 constructor
 ·rintro ⟨⟨⟨⟨⟨⟨h1, h2⟩, h3⟩, h4⟩, h5⟩, h6⟩, h7⟩
  exact ⟨h1, h2, h3, h4, h5, h6, h7⟩
 ·rintro ⟨h1, h2, h3, h4, h5, h6, h7⟩
  exact ⟨⟨⟨⟨⟨⟨h1, h2⟩, h3⟩, h4⟩, h5⟩, h6⟩, h7⟩
theorem pendB_iff (s : StM) (p : PendM) : pendB s p = true ↔ PendP s.broker p := by
 unfold pendB
 simp only [Bool.and_eq_true, decide_eq_true_eq, Bool.not_eq_true']
 constructor
 ·rintro ⟨⟨⟨h1, h2⟩, h3⟩, h4⟩
  exact ⟨h1, h2, h3, h4⟩
 ·rintro ⟨h1, h2, h3, h4⟩
  exact ⟨⟨⟨h1, h2⟩, h3⟩, h4⟩
theorem may_iff (s : StM) : mayM s = true ↔ MayP s := by
 unfold mayM msB endsB waitsB pendsB sidesB brokerB
 simp only [Bool.and_eq_true, decide_eq_true_eq, List.all_eq_true, Bool.not_eq_true', msgB_iff, pendB_iff, List.any_eq_true]
 constructor
 ·rintro ⟨⟨⟨⟨⟨⟨⟨⟨⟨⟨⟨⟨⟨⟨h1, h2⟩, h3⟩, h4⟩, h5⟩, h6⟩, h7⟩, h8⟩, h9⟩, ⟨ha, hb⟩, hc⟩, hd, he⟩, hf, hg⟩, hh, hi⟩, hj, hk⟩, hl, hm⟩
  exact ⟨h1, h2, h3, h4, h5, h6, h7, h8, h9, ha, hb, hc, hd, he, fun w hw => ⟨(hf w hw).1.1.1, (hf w hw).1.1.2, (hf w hw).1.2, List.all_eq_true.2 (hf w hw).2⟩, hg,
   fun p hp => ⟨hh p hp, (hl p hp).1, (hl p hp).2⟩, hi, fun p hp => ⟨hj p hp, hm p hp⟩, hk⟩
 ·rintro ⟨h1, h2, h3, h4, h5, h6, h7, h8, h9, ha, hb, hc, hd, he, hf, hg, hh, hi, hj, hk⟩
  exact ⟨⟨⟨⟨⟨⟨⟨⟨⟨⟨⟨⟨⟨⟨h1, h2⟩, h3⟩, h4⟩, h5⟩, h6⟩, h7⟩, h8⟩, h9⟩, ⟨ha, hb⟩, hc⟩, hd, he⟩, fun w hw => ⟨⟨⟨(hf w hw).tid, (hf w hw).no⟩, (hf w hw).len⟩, List.all_eq_true.1 (hf w hw).puts⟩, hg⟩, fun p hp => (hh p hp).1, hi⟩, fun p hp => (hj p hp).1, hk⟩, fun p hp => (hh p hp).2, fun p hp => (hj p hp).2⟩
theorem home_pos {t b : Int} (h : homeM t = b) (hb : 1 <= b) : t = b * 4294967296 + t % 4294967296 /\ 1 <= t % 4294967296 /\ t % 4294967296 < 4294967296 := by
 unfold homeM at h
 split at h
 ·omega
 ·omega
end
end Go.Proofs.YtelaljoebdpicaaGreat
