/- Part 3 of what the proof of OrderCounts rests on. No condition. -/
import Derived.BigQuiet
import Derived.Deep.CutBlock
import Derived.Deep.LoopGhost
import Derived.Test.YtelaljoebdpicaaGreatPOrderCounts02
namespace Go.Proofs.YtelaljoebdpicaaGreat
set_option maxRecDepth 100000
set_option maxHeartbeats 60000000
set_option linter.unusedVariables false
set_option linter.unusedSimpArgs false
set_option linter.unusedSectionVars false
section
open Go.RowKit Go.Maps
def OkT (s : Txt) : Prop := s.length <= lim
def OkPut (p : PutM) : Prop := OkT p.q /\ OkT p.b
def OkMsg (m : MsgM) : Prop := I64 m.id /\ OkT m.q /\ OkT m.b /\ I64 m.seq /\ I64 m.cnt /\ I64 m.who
structure OkRec (r : RecM) : Prop where
 kind : I64 r.kind
 tid : I64 r.tid
 id : I64 r.id
 parts : ∀ x ∈ r.parts, I64 x
 puts : ∀ p ∈ r.puts, OkPut p
structure OkSt (s : StM) : Prop where
 broker : I64 s.broker
 nid : I64 s.nid
 nseq : I64 s.nseq
 tx : I64 s.tx
 ms : ∀ m ∈ s.ms, OkMsg m
 waits : ∀ b ∈ s.waits, I64 b.tid /\ ∀ p ∈ b.puts, OkPut p
 ends : ∀ e ∈ s.ends, I64 e.tid
 opens : ∀ p ∈ s.opens, I64 p.tid /\ ∀ x ∈ p.parts, I64 x
 noes : ∀ p ∈ s.noes, I64 p.tid /\ ∀ x ∈ p.parts, I64 x
theorem OkT.size {s : Txt} (h : OkT s) : (ByteArray.mk s.toArray).size <= 9223372036854775807 := by
 have : (ByteArray.mk s.toArray).size = s.length := by simp [ByteArray.size]
 unfold OkT lim at h; omega
theorem kput_t (p : PutM) (hp : OkPut p) (w : World) : Calls Tryz.prog 135 #[.agg #[strV p.q, strV p.b]] w fun e w' => e = .returned (.bool (putB p)) /\ Tch No w w' := by
 have := kput_any ⟨p.q.toArray⟩ ⟨p.b.toArray⟩ w hp.1.size hp.2.size
 simpa [strV] using this
theorem rput_t (p : PutM) (hp : OkPut p) (w : World) : Calls Tryz.prog 138 #[.agg #[strV p.q, strV p.b]] w fun e w' => e = .returned (.bool (putB p)) /\ Tch No w w' := by
 have := rput_any ⟨p.q.toArray⟩ ⟨p.b.toArray⟩ w hp.1.size hp.2.size
 simpa [strV] using this
theorem ints_cells {w : World} {v : Value} {l : List Int} (h : IsInts w v l) :
  (v = .slice none 0 0 /\ l = []) ∨ ∃ b o cap, v = .slice (some ⟨b, o, none⟩) l.length cap /\ l.length <= cap /\ cap <= maxLen /\ b < w.heap.size /\ ∀ i (hi : i < l.length), w.cell? ⟨b, o + i, none⟩ = some (.int .i64 l[i]) := by
 rcases h.2 with ⟨h1, h2⟩ | ⟨b, o, cap, h1, h2, h3, h4, h5⟩
 ·exact .inl ⟨h1, List.eq_nil_of_length_eq_zero h2⟩
 ·exact .inr ⟨b, o, cap, h1, h2, h3, h4, fun i hi => h5 i _ (by simp [hi])⟩
theorem puts_cells {w : World} {v : Value} {l : List PutM} (h : IsPuts w v l) :
  (v = .slice none 0 0 /\ l = []) ∨ ∃ b o cap, v = .slice (some ⟨b, o, none⟩) l.length cap /\ l.length <= cap /\ cap <= maxLen /\ b < w.heap.size /\ ∀ i (hi : i < l.length), w.cell? ⟨b, o + i * 2, none⟩ = some (strV l[i].q) /\ w.cell? ⟨b, o + i * 2 + 1, none⟩ = some (strV l[i].b) := by
 rcases h.2 with ⟨h1, h2⟩ | ⟨b, o, cap, h1, h2, h3, h4, h5⟩
 ·exact .inl ⟨h1, List.eq_nil_of_length_eq_zero h2⟩
 ·refine .inr ⟨b, o, cap, h1, h2, h3, h4, fun i hi => ⟨?_, ?_⟩⟩
  ·have := h5 (i * 2 + 0) (strV l[i].q) (by rw [flat_get encPut 2 (fun _ => rfl) l i 0 hi (by omega)]; rfl)
   simpa using this
  ·have := h5 (i * 2 + 1) (strV l[i].b) (by rw [flat_get encPut 2 (fun _ => rfl) l i 1 hi (by omega)]; rfl)
   simpa [Nat.add_assoc] using this
theorem strict_idx : ∀ {l : List Int}, strictB l = true ↔ ∀ i (h : i + 1 < l.length), l[i] < l[i + 1]
 | [] => by simp [strictB]
 | [a] => by simp [strictB]
 | a :: b :: r => by
  rw [strictB, Bool.and_eq_true, decide_eq_true_eq, strict_idx (l := b :: r)]
  constructor
  ·rintro ⟨h1, h2⟩ i h
   match i with
   | 0 => exact h1
   | i + 1 => exact h2 i (by simpa using h)
  ·intro h
   exact ⟨h 0 (by simp), fun i hi => h (i + 1) (by simpa using hi)⟩
def RiseTo (l : List Int) (k : Nat) : Prop := ∀ i (h : i < l.length), i < k -> brokerB l[i] = true /\ ∀ (h0 : 0 < i), l[i - 1] < l[i]
theorem rise_all {l : List Int} : RiseTo l l.length ↔ risingB l = true := by
 unfold RiseTo risingB
 rw [Bool.and_eq_true, strict_idx, List.all_eq_true]
 constructor
 ·intro h
  refine ⟨fun x hx => ?_, fun i hi => ?_⟩
  ·obtain ⟨i, hi, rfl⟩ := List.getElem_of_mem hx
   exact (h i hi hi).1
  ·exact (h (i + 1) hi hi).2 (by omega)
 ·rintro ⟨h1, h2⟩ i hi _
  refine ⟨h1 _ (List.getElem_mem hi), fun h0 => ?_⟩
  have := h2 (i - 1) (by omega)
  simpa [Nat.sub_add_cancel h0] using this
theorem rise_bad {l : List Int} {k : Nat} (hk : k < l.length) (h : brokerB l[k] = false ∨ ∃ h0 : 0 < k, ¬ l[k - 1] < l[k]) : risingB l = false := by
 cases e : risingB l with
 | false => rfl
 | true =>
  have := (rise_all.2 e) k hk hk
  rcases h with h | ⟨h0, h⟩
  ·rw [this.1] at h; cases h
  ·exact absurd (this.2 h0) h
theorem rise_step {l : List Int} {k : Nat} (h : RiseTo l k) (hk : k < l.length) (hb : brokerB l[k] = true) (hp : ∀ h0 : 0 < k, l[k - 1] < l[k]) : RiseTo l (k + 1) := by
 intro i hi hik
 by_cases e : i = k
 ·subst e; exact ⟨hb, hp⟩
 ·exact h i hi (by omega)
theorem krising_any (l : List Int) (v : Value) (lo hi : Int) (w : World) (h : IsInts w v l) :
  Calls Tryz.prog 142 #[v, .int .i64 lo, .int .i64 hi] w fun e w' => e = .returned (.bool (risingB l && (decide (lo <= (l.length : Int)) && decide ((l.length : Int) <= hi)))) /\ Tch No w w' := by
 have H := Lib.hid h
 obtain ⟨m, hm⟩ : ∃ m, l.length = m := ⟨_, rfl⟩
 have HM := Lib.hid hm
 obtain ⟨a, cap, hv, hcap, hmax⟩ := CellsAt.shape h
 rw [hm] at hcap hv ⊢
 have hml : m <= 9223372036854775807 := by unfold maxLen at hmax; omega
 have HB := Lib.hid (fun n W => kbroker_any n W)
 subst hv
 clear h hm hcap hmax
 go_enter Tryz.func142, Tryz.ntmps142
 go_wp2_with fail
 go_loopg [11] m (fun kx s11 wr => ∃ k : Nat, s11 = .int .i64 k /\ k <= m /\ m - k <= kx /\ wr = w /\ Hid (RiseTo l k))
 case atStart => exact ⟨0, rfl, Nat.zero_le _, by omega, rfl, fun i _ h => absurd h (Nat.not_lt_zero _)⟩
 case round =>
  obtain ⟨k, rfl, hk, hg, rfl, I⟩ := hrel
  by_cases hlt : k < m
  ·have hkl : k < l.length := by have := HM.out; omega
   have hb : ∃ b o, a = some ⟨b, o, none⟩ /\ ∀ i (hi : i < l.length), wr.cell? ⟨b, o + i, none⟩ = some (.int .i64 l[i]) := by
    rcases ints_cells H.out with ⟨_, h0⟩ | ⟨b, o, cap2, h1, _, _, _, h5⟩
    ·subst h0; simp at hkl
    ·rw [HM.out] at h1
     injection h1 with h1 _ _
     exact ⟨b, o, h1, h5⟩
   obtain ⟨b, o, rfl, hc⟩ := hb
   have hc1 := hc k hkl
   have HC := Lib.hid hc
   clear hc
   obtain ⟨x, hx⟩ : ∃ x, l[k] = x := ⟨_, rfl⟩
   rw [hx] at hc1
   have HX := Lib.hid hx
   clear hx
   cases hbx : brokerB x with
   | false =>
    have HB2 : Hid (∀ W, Calls Tryz.prog 42 #[.int .i64 x] W fun e w' => e = .returned (.bool false) /\ W = w') := fun W => by rw [<- hbx]; exact HB.out x W
    have HX2 := Lib.hid hbx
    clear hbx
    go_wp2_with (go_at_call 42; refine (HB2.out _).mono ?_; rintro e w' ⟨rfl, rfl⟩)
    go_ret
    exact ⟨ret_b (by rw [rise_bad hkl (.inl (by rw [HX.out]; exact HX2.out))]; rfl), Tch.refl _ _⟩
   | true =>
    have HB2 : Hid (∀ W, Calls Tryz.prog 42 #[.int .i64 x] W fun e w' => e = .returned (.bool true) /\ W = w') := fun W => by rw [<- hbx]; exact HB.out x W
    have HX2 := Lib.hid hbx
    clear hbx
    by_cases h0 : k = 0
    ·have HI : Hid (RiseTo l (k + 1)) := rise_step I.out hkl (by rw [HX.out]; exact HX2.out) (fun h => by omega)
     subst h0
     simp only [Nat.add_zero] at hc1
     go_wp2_with (go_at_call 42; refine (HB2.out _).mono ?_; rintro e w' ⟨rfl, rfl⟩)
     go_roundg (m - 1)
     case measure => omega
     case rel => exact ⟨1, by go_num, by omega, by omega, rfl, HI⟩
    ·have hk0 : 0 < k := by omega
     have hc2 := HC.out (k - 1) (by omega)
     obtain ⟨y, hy⟩ : ∃ y, l[k - 1] = y := ⟨_, rfl⟩
     rw [hy] at hc2
     have HY := Lib.hid hy
     clear hy
     have hk1 : (k : Int) - 1 = ((k - 1 : Nat) : Int) := by omega
     have hk3 : k - 1 < m := by omega
     by_cases hyx : y < x
     ·have HI : Hid (RiseTo l (k + 1)) := rise_step I.out hkl (by rw [HX.out]; exact HX2.out) (fun h => by rw [HY.out, HX.out]; exact hyx)
      have hd : decide (x <= y) = false := decide_eq_false (by omega)
      go_wp2_with (go_at_call 42; refine (HB2.out _).mono ?_; rintro e w' ⟨rfl, rfl⟩)
      go_roundg (m - (k + 1))
      case measure => omega
      case rel => exact ⟨k + 1, by go_num, by omega, by omega, rfl, HI⟩
     ·have hd : decide (x <= y) = true := decide_eq_true (by omega)
      have HN : Hid (risingB l = false) := rise_bad hkl (.inr ⟨hk0, by rw [HY.out, HX.out]; exact hyx⟩)
      go_wp2_with (go_at_call 42; refine (HB2.out _).mono ?_; rintro e w' ⟨rfl, rfl⟩)
      go_ret
      exact ⟨ret_b (by rw [HN.out]; rfl), Tch.refl _ _⟩
  ·obtain rfl : k = m := by omega
   have HN : Hid (risingB l = true) := rise_all.1 (by rw [HM.out]; exact I.out)
   by_cases h1 : lo <= (k : Int)
   ·have hd : decide (lo <= (k : Int)) = true := decide_eq_true h1
    go_wp2_with fail
    go_ret
    exact ⟨ret_b (by first | rfl | (rw [HN.out]; rfl) | (rw [HN.out, hd]; rfl) | simp [HN.out]), Tch.refl _ _⟩
   ·have hd : decide (lo <= (k : Int)) = false := decide_eq_false h1
    go_wp2_with fail
    go_ret
    exact ⟨ret_b (by first | rfl | (rw [HN.out]; rfl) | (rw [HN.out, hd]; rfl) | simp [HN.out]), Tch.refl _ _⟩
end
section
open Go.RowKit Go.Maps
structure TchW (w : World) where
 wo : World
 t : Tch No w wo
instance (w : World) : Inhabited (TchW w) := ⟨⟨w, Tch.refl _ _⟩⟩
theorem wp_region_qt {P : Program} {id : Nat} {Q : Exit -> Act -> World -> Prop} {a : Act} {w : World} {l : List Oper} (hm : P.follows .mixedOrders = true) (hB : Region.lexB .any l.toArray = true)
  (h : wpQuiet P l.toArray (fun w' => ∃ p : TchW w, w' = p.wo) (fun a' => ∀ w', (∃ p : TchW w, w' = p.wo) -> Q .normal a' w') l a) : (Code.region id l.toArray true).wp P Q a w :=
 wp_region_quiet (C := fun w' => ∃ p : TchW w, w' = p.wo) hm hB ⟨⟨w.drew, Tch.drew w⟩, rfl⟩ (by simpa using h)
theorem qt_t {P : Program} {f : FuncId} {args : Array Value} {w : World} {p : TchW w} {v : Value} (h : Calls P f args p.wo fun e w' => e = .returned v /\ Tch No p.wo w') :
  Calls P f args p.wo fun e w'' => e = .returned v /\ ∃ q : TchW w, w'' = q.wo :=
 h.mono fun _ x ⟨he, t⟩ => ⟨he, ⟨x, p.t.trans0 t⟩, rfl⟩
theorem cz {P : Program} {f : FuncId} {args : Array Value} {w0 w : World} {v : Value} {Q : Ending -> World -> Prop} (H : ∀ W, Tch No w0 W -> Calls P f args W fun e w' => e = .returned v /\ Tch No W w') (T : Hid (Tch No w0 w)) {p : TchW w} (h : ∀ q : TchW w, Q (.returned v) q.wo) : Calls P f args p.wo Q :=
  (qt_t (H p.wo (T.out.trans0 p.t))).mono (by rintro e _ ⟨rfl, q, rfl⟩; exact h q)
theorem qt_s {P : Program} {f : FuncId} {args : Array Value} {w : World} {p : TchW w} {v : Value} (h : Calls P f args p.wo fun e w' => e = .returned v /\ p.wo = w') :
  Calls P f args p.wo fun e w'' => e = .returned v /\ ∃ q : TchW w, w'' = q.wo :=
 h.mono fun _ x ⟨he, t⟩ => ⟨he, p, t.symm⟩
theorem TchW.cell {w : World} (p : TchW w) {a : Addr} {v : Value} (h : w.cell? a = some v) : p.wo.cell? a = some v := p.t.cell h (fun h => h)
theorem wp_world {P : Program} {c : Code} {Q : Exit -> Act -> World -> Prop} {a : Act} {w : World} (F : World -> Prop) (hF : F w) (h : ∀ w', F w' -> Code.wp P c Q a w') : Code.wp P c Q a w := h w hF
def RiseQ (q : Int -> Bool) (l : List Int) (k : Nat) : Prop := ∀ i (h : i < l.length), i < k -> q l[i] = true /\ ∀ (h0 : 0 < i), l[i - 1] < l[i]
theorem riseQ_all {q : Int -> Bool} {l : List Int} : RiseQ q l l.length ↔ (l.all q && strictB l) = true := by
 unfold RiseQ
 rw [Bool.and_eq_true, strict_idx, List.all_eq_true]
 constructor
 ·intro h
  refine ⟨fun x hx => ?_, fun i hi => ?_⟩
  ·obtain ⟨i, hi, rfl⟩ := List.getElem_of_mem hx
   exact (h i hi hi).1
  ·exact (h (i + 1) hi hi).2 (by omega)
 ·rintro ⟨h1, h2⟩ i hi _
  refine ⟨h1 _ (List.getElem_mem hi), fun h0 => ?_⟩
  have := h2 (i - 1) (by omega)
  simpa [Nat.sub_add_cancel h0] using this
theorem riseQ_bad {q : Int -> Bool} {l : List Int} {k : Nat} (hk : k < l.length) (h : q l[k] = false ∨ ∃ h0 : 0 < k, ¬ l[k - 1] < l[k]) : (l.all q && strictB l) = false := by
 cases e : (l.all q && strictB l) with
 | false => rfl
 | true =>
  have := (riseQ_all.2 e) k hk hk
  rcases h with h | ⟨h0, h⟩
  ·rw [this.1] at h; cases h
  ·exact absurd (this.2 h0) h
theorem riseQ_step {q : Int -> Bool} {l : List Int} {k : Nat} (h : RiseQ q l k) (hk : k < l.length) (hb : q l[k] = true) (hp : ∀ h0 : 0 < k, l[k - 1] < l[k]) : RiseQ q l (k + 1) := by
 intro i hi hik
 by_cases e : i = k
 ·subst e; exact ⟨hb, hp⟩
 ·exact h i hi (by omega)
end
section
open Go.RowKit Go.Maps
abbrev LRow := Option Nat × List Nat × List Nat
def lrow (ops : Array Oper) (o : Oper) : LRow := (o.dst, o.looksAt ops, (o.after.toList.filter (Region.binds .any)).map (·.on))
theorem lon_mem {ops : Array Oper} {o : Oper} {k : Nat} : k ∈ (lrow ops o).2.2 ↔ ∃ e ∈ o.after, Region.binds .any e = true /\ e.on = k := by
 unfold lrow
 simp only [List.mem_map, List.mem_filter, Array.mem_toList_iff]
 constructor
 ·rintro ⟨e, ⟨h1, h2⟩, h3⟩; exact ⟨e, h1, h2, h3⟩
 ·rintro ⟨e, h1, h2, h3⟩; exact ⟨e, ⟨h1, h2⟩, h3⟩
end
end Go.Proofs.YtelaljoebdpicaaGreat
