/- Part 13 of what the proof of OrderHolds rests on. No condition. -/
import Derived.Laws.IdiomCopy
import Derived.Test.YtelaljoebdpicaaGreatPOrderHolds07
import Derived.Test.YtelaljoebdpicaaGreatPOrderHolds08
import Derived.Test.YtelaljoebdpicaaGreatPOrderHolds12
namespace Go.Proofs.YtelaljoebdpicaaGreat
set_option maxRecDepth 100000
set_option maxHeartbeats 60000000
set_option linter.unusedVariables false
set_option linter.unusedSimpArgs false
set_option linter.unusedSectionVars false
section
open Go.RowKit Go.Maps
def FirstAt (p : Nat -> Bool) (n : Nat) (r : Int) : Prop := (r = -1 /\ ∀ i, i < n -> p i = false) ∨ ∃ k : Nat, k < n /\ r = (k : Int) /\ p k = true /\ ∀ i, i < k -> p i = false
theorem idx_br (g : Nat) (lb : Array Value) (eg : ∀ args w, (callFunc g args).run Tryz.prog w = .ok (.enter g args) w) (p : Nat -> Bool) (f0 : Nat -> Int) (f1 : Nat -> Value) (o1 : ∀ i, (f1 i).oneCell' = true) (cs : List Value) (n : Nat) (v : Value) (w : World) (h : CellsAt w v n 2 cs)
  (hcs : ∀ i, i < n -> cs[i * 2 + 0]? = some (.int .i64 (f0 i)) /\ cs[i * 2 + 1]? = some (f1 i)) (hp : ∀ k, k < n -> ∀ W, Tch No w W -> Calls Tryz.prog g (#[.agg #[.int .i64 (f0 k), f1 k]] ++ lb) W fun e w' => e = .returned (.bool (p k)) /\ Tch No W w') :
  Calls Tryz.prog 165 #[v, .func (.func g) #[] lb] w fun e w' => (∃ r : Int, e = .returned (.int .i64 r) /\ FirstAt p n r) /\ Tch No w w' := by
 obtain ⟨a, c, rfl, hc1, hc2⟩ := CellsAt.shape h
 have H := Lib.hid h
 have HS := Lib.hid hcs
 have HP := Lib.hid hp
 have O1 := Lib.hid o1
 have hml : n <= 9223372036854775807 := by unfold maxLen at hc2; omega
 clear h hcs hp hc1 hc2 o1
 go_enter Tryz.func165, Tryz.ntmps165
 go_wp2_with fail
 go_loopg [8] n (fun kx sx wr => ∃ k : Nat, sx = .int .i64 k /\ k <= n /\ n - k <= kx /\ Hid (Tch No w wr) /\ Hid (∀ i, i < k -> p i = false))
 case atStart => exact ⟨0, rfl, Nat.zero_le _, by omega, Tch.refl _ _, fun i h => absurd h (Nat.not_lt_zero _)⟩
 case round =>
  obtain ⟨k, rfl, hk, hgk, TT, I⟩ := hrel
  by_cases hlt : k < n
  ·have hb : ∃ b o, a = some ⟨b, o, none⟩ /\ wr.cell? ⟨b, o + k * 2, none⟩ = some (.int .i64 (f0 k)) /\ wr.cell? ⟨b, o + k * 2 + 1, none⟩ = some (f1 k) := by
    rcases H.out.2 with ⟨_, h0⟩ | ⟨b, o, cap2, h1, _, _, _, h5⟩
    ·omega
    ·injection h1 with h1 _ _
     obtain ⟨g0, g1⟩ := HS.out k hlt
     exact ⟨b, o, h1, TT.out.cell (by first | simpa [Nat.add_assoc] using h5 _ _ g0 | simpa using h5 _ _ g0) (fun h => h), TT.out.cell (by first | simpa [Nat.add_assoc] using h5 _ _ g1 | simpa using h5 _ _ g1) (fun h => h)⟩
   obtain ⟨b, o, rfl, e0, e1⟩ := hb
   have HF := HP.out k hlt wr TT.out
   obtain ⟨x0, hx0⟩ : ∃ z, f0 k = z := ⟨_, rfl⟩
   obtain ⟨x1, hx1⟩ : ∃ z, f1 k = z := ⟨_, rfl⟩
   have oc1 : x1.cells = #[x1] := by rw [<- hx1]; exact one_cells (O1.out k)
   rw [hx0, hx1] at HF
   rw [hx0] at e0
   rw [hx1] at e1
   clear hx0 hx1
   have HG := Lib.hid HF
   clear HF
   by_cases hit : p k = true
   ·rw [hit] at HG
    have HA : Hid (FirstAt p n (k : Int)) := .inr ⟨k, hlt, rfl, hit, I.out⟩
    clear hit
    go_wp2_with fail
    refine HG.out.mono ?_
    rintro e w3 ⟨rfl, T3⟩
    go_wp2_with fail
    go_ret
    exact ⟨⟨_, rfl, HA.out⟩, TT.out.trans0 T3⟩
   ·have hd : p k = false := by simpa using hit
    have HI : Hid (∀ i, i < k + 1 -> p i = false) := fun i h1 => by
     by_cases e : i = k
     ·subst e; exact hd
     ·exact I.out i (by omega)
    rw [hd] at HG
    clear hit hd
    go_wp2_with fail
    refine HG.out.mono ?_
    rintro e w3 ⟨rfl, T3⟩
    go_wp2_with fail
    go_roundg (n - (k + 1))
    case measure => omega
    case rel => exact ⟨k + 1, by go_num, by omega, by omega, TT.out.trans0 T3, HI.out⟩
  ·obtain rfl : k = n := by omega
   have HA : Hid (FirstAt p k (-1)) := .inl ⟨rfl, I.out⟩
   clear hlt
   go_wp2_with fail
   go_ret
   exact ⟨⟨_, rfl, HA.out⟩, TT.out⟩
theorem idx_pend (g : Nat) (lb : Array Value) (eg : ∀ args w, (callFunc g args).run Tryz.prog w = .ok (.enter g args) w) (p : Nat -> Bool) (f0 : Nat -> Int) (f1 : Nat -> Value) (o1 : ∀ i, (f1 i).oneCell' = true) (cs : List Value) (n : Nat) (v : Value) (w : World) (h : CellsAt w v n 2 cs)
  (hcs : ∀ i, i < n -> cs[i * 2 + 0]? = some (.int .i64 (f0 i)) /\ cs[i * 2 + 1]? = some (f1 i)) (hp : ∀ k, k < n -> ∀ W, Tch No w W -> Calls Tryz.prog g (#[.agg #[.int .i64 (f0 k), f1 k]] ++ lb) W fun e w' => e = .returned (.bool (p k)) /\ Tch No W w') :
  Calls Tryz.prog 166 #[v, .func (.func g) #[] lb] w fun e w' => (∃ r : Int, e = .returned (.int .i64 r) /\ FirstAt p n r) /\ Tch No w w' := by
 obtain ⟨a, c, rfl, hc1, hc2⟩ := CellsAt.shape h
 have H := Lib.hid h
 have HS := Lib.hid hcs
 have HP := Lib.hid hp
 have O1 := Lib.hid o1
 have hml : n <= 9223372036854775807 := by unfold maxLen at hc2; omega
 clear h hcs hp hc1 hc2 o1
 go_enter Tryz.func166, Tryz.ntmps166
 go_wp2_with fail
 go_loopg [8] n (fun kx sx wr => ∃ k : Nat, sx = .int .i64 k /\ k <= n /\ n - k <= kx /\ Hid (Tch No w wr) /\ Hid (∀ i, i < k -> p i = false))
 case atStart => exact ⟨0, rfl, Nat.zero_le _, by omega, Tch.refl _ _, fun i h => absurd h (Nat.not_lt_zero _)⟩
 case round =>
  obtain ⟨k, rfl, hk, hgk, TT, I⟩ := hrel
  by_cases hlt : k < n
  ·have hb : ∃ b o, a = some ⟨b, o, none⟩ /\ wr.cell? ⟨b, o + k * 2, none⟩ = some (.int .i64 (f0 k)) /\ wr.cell? ⟨b, o + k * 2 + 1, none⟩ = some (f1 k) := by
    rcases H.out.2 with ⟨_, h0⟩ | ⟨b, o, cap2, h1, _, _, _, h5⟩
    ·omega
    ·injection h1 with h1 _ _
     obtain ⟨g0, g1⟩ := HS.out k hlt
     exact ⟨b, o, h1, TT.out.cell (by first | simpa [Nat.add_assoc] using h5 _ _ g0 | simpa using h5 _ _ g0) (fun h => h), TT.out.cell (by first | simpa [Nat.add_assoc] using h5 _ _ g1 | simpa using h5 _ _ g1) (fun h => h)⟩
   obtain ⟨b, o, rfl, e0, e1⟩ := hb
   have HF := HP.out k hlt wr TT.out
   obtain ⟨x0, hx0⟩ : ∃ z, f0 k = z := ⟨_, rfl⟩
   obtain ⟨x1, hx1⟩ : ∃ z, f1 k = z := ⟨_, rfl⟩
   have oc1 : x1.cells = #[x1] := by rw [<- hx1]; exact one_cells (O1.out k)
   rw [hx0, hx1] at HF
   rw [hx0] at e0
   rw [hx1] at e1
   clear hx0 hx1
   have HG := Lib.hid HF
   clear HF
   by_cases hit : p k = true
   ·rw [hit] at HG
    have HA : Hid (FirstAt p n (k : Int)) := .inr ⟨k, hlt, rfl, hit, I.out⟩
    clear hit
    go_wp2_with fail
    refine HG.out.mono ?_
    rintro e w3 ⟨rfl, T3⟩
    go_wp2_with fail
    go_ret
    exact ⟨⟨_, rfl, HA.out⟩, TT.out.trans0 T3⟩
   ·have hd : p k = false := by simpa using hit
    have HI : Hid (∀ i, i < k + 1 -> p i = false) := fun i h1 => by
     by_cases e : i = k
     ·subst e; exact hd
     ·exact I.out i (by omega)
    rw [hd] at HG
    clear hit hd
    go_wp2_with fail
    refine HG.out.mono ?_
    rintro e w3 ⟨rfl, T3⟩
    go_wp2_with fail
    go_roundg (n - (k + 1))
    case measure => omega
    case rel => exact ⟨k + 1, by go_num, by omega, by omega, TT.out.trans0 T3, HI.out⟩
  ·obtain rfl : k = n := by omega
   have HA : Hid (FirstAt p k (-1)) := .inl ⟨rfl, I.out⟩
   clear hlt
   go_wp2_with fail
   go_ret
   exact ⟨⟨_, rfl, HA.out⟩, TT.out⟩
end
section
open Go.RowKit Go.Maps
theorem blk_sets {b : Nat} {e : TypeId} : ∀ (vs : List Value) (o : Nat) (w : World) (cur : Array Value), w.heap[b]? = some (.cells cur e (0, 0)) -> o + vs.length <= cur.size ->
  ∃ cur' : Array Value, (w.setCells b o vs).heap[b]? = some (.cells cur' e (0, 0)) /\ cur'.size = cur.size /\ ∀ t, cur'[t]? = if o <= t /\ t < o + vs.length then vs[t - o]? else cur[t]?
 | [], o, w, cur, h, _ => ⟨cur, h, rfl, fun t => by rw [if_neg (by simp only [List.length_nil]; omega)]⟩
 | v :: r, o, w, cur, h, hl => by
  simp only [List.length_cons] at hl
  obtain ⟨cur', h1, h2, h3⟩ := blk_sets r (o + 1) (w.setCell ⟨b, o, none⟩ v) _ (blk_set h o v) (by rw [Array.size_setIfInBounds]; omega)
  refine ⟨cur', h1, by rw [h2, Array.size_setIfInBounds], fun t => ?_⟩
  rw [h3, List.length_cons]
  by_cases h4 : o + 1 <= t /\ t < o + 1 + r.length
  ·rw [if_pos h4, if_pos (by omega), show t - o = (t - (o + 1)) + 1 by omega, List.getElem?_cons_succ]
  ·rw [if_neg h4, Array.getElem?_setIfInBounds]
   by_cases h5 : o = t
   ·subst h5
    rw [if_pos rfl, if_pos (by omega), if_pos (by omega)]
    simp
   ·rw [if_neg h5, if_neg (by omega)]
theorem Tch.setCells {F : Nat -> Prop} {b : Nat} (hF : F b) : ∀ (vs : List Value) (o : Nat) (w : World), Tch F w (w.setCells b o vs)
 | [], _, w => Tch.refl F w
 | v :: r, o, w => (Tch.setCell (F := F) w ⟨b, o, none⟩ v (fun _ => hF)).trans (Tch.setCells hF r (o + 1) _) (fun _ _ h => h)
theorem own_mk {w : World} {e : TypeId} {size g n cap : Nat} {cur : Array Value} {xs : List Value} (hx : xs.length = n * size) (hg : w.heap[g]? = some (.cells cur e (0, 0))) (h1 : n <= cap) (h2 : cap <= maxLen) (h3 : cur.size = cap * size)
  (h : ∀ t, t < n * size -> cur[t]? = xs[t]?) : w.ownsRow 0 e size (.slice (some ⟨g, 0, none⟩) n cap) n xs := by
 refine ⟨hx, .inr ⟨g, cap, cur, rfl, Nat.zero_le _, hg, h1, h2, h3, ?_⟩⟩
 apply List.ext_getElem?
 intro t
 rw [List.getElem?_take]
 split
 ·rename_i ht
  rw [<- h t ht]
  simp
 ·rename_i ht
  rw [List.getElem?_eq_none (by omega)]
theorem own_get {w : World} {e : TypeId} {size n cap : Nat} {a : Addr} {xs : List Value} (h : w.ownsRow 0 e size (.slice (some a) n cap) n xs) :
  ∃ g cur, a = ⟨g, 0, none⟩ /\ w.heap[g]? = some (.cells cur e (0, 0)) /\ n <= cap /\ cap <= maxLen /\ cur.size = cap * size /\ xs.length = n * size /\ ∀ t, t < n * size -> cur[t]? = xs[t]? := by
 rcases h.2 with ⟨h1, _⟩ | ⟨g, cap', cur, h1, _, h3, h4, h5, h6, h7⟩
 ·cases h1
 ·injection h1 with h1 _ h2
  injection h1 with h1
  subst h1; subst h2
  refine ⟨g, cur, rfl, h3, h4, h5, h6, h.1, fun t ht => ?_⟩
  rw [<- h7, List.getElem?_take, if_pos ht]
  simp
section
variable {α : Type}
def keptM (p : α -> Bool) (l : List α) : List α := l.filter (fun x => !p x)
theorem keptM_app (p : α -> Bool) (a b : List α) : keptM p (a ++ b) = keptM p a ++ keptM p b := List.filter_append ..
theorem keptM_le (p : α -> Bool) (l : List α) : (keptM p l).length <= l.length := List.length_filter_le ..
theorem take_succ_app {l : List α} {j : Nat} (h : j < l.length) : l.take (j + 1) = l.take j ++ [l[j]] := by simp
structure DInv (enc : α -> List Value) (m : Nat) (p : α -> Bool) (l : List α) (C j i : Nat) (cur : Array Value) : Prop where
 sz : cur.size = C * m
 len : i = (keptM p (l.take j)).length
 low : ∀ t, t < i * m -> cur[t]? = ((keptM p (l.take j)).flatMap enc)[t]?
 high : ∀ t, j * m <= t -> t < l.length * m -> cur[t]? = (l.flatMap enc)[t]?
theorem keptM_all {p : α -> Bool} {l : List α} (h : ∀ x ∈ l, p x = false) : keptM p l = l := by
 unfold keptM
 rw [List.filter_eq_self]
 intro x hx
 rw [h x hx]; rfl
variable {enc : α -> List Value} {m : Nat} {p : α -> Bool} {l : List α} {C j i : Nat} {cur : Array Value}
theorem DInv.ij (h : DInv enc m p l C j i cur) (hj : j <= l.length) : i <= j := by
 rw [h.len]
 refine Nat.le_trans (keptM_le _ _) ?_
 rw [List.length_take]; omega
theorem DInv.start (he : ∀ x, (enc x).length = m) {k : Nat} (hk : k < l.length) (h1 : p l[k] = true) (h2 : ∀ i (hi : i < l.length), i < k -> p l[i] = false) (hs : cur.size = C * m) (hc : ∀ t, t < l.length * m -> cur[t]? = (l.flatMap enc)[t]?) :
  DInv enc m p l C (k + 1) k cur := by
 have e1 : keptM p (l.take k) = l.take k := keptM_all (fun x hx => by
  obtain ⟨i, hi, rfl⟩ := List.getElem_of_mem hx
  rw [List.length_take] at hi
  rw [List.getElem_take]
  exact h2 i (by omega) (by omega))
 have e2 : keptM p (l.take (k + 1)) = l.take k := by
  rw [take_succ_app hk, keptM_app, e1]
  simp [keptM, h1]
 have hm : k * m <= l.length * m := Nat.mul_le_mul_right _ (by omega)
 refine ⟨hs, by rw [e2, List.length_take]; omega, fun t ht => ?_, fun t _ ht => hc t ht⟩
 rw [e2, hc t (by omega), <- flat_take he, List.getElem?_take, if_pos ht]
theorem DInv.skip (h : DInv enc m p l C j i cur) (hj : j < l.length) (hp : p l[j] = true) : DInv enc m p l C (j + 1) i cur := by
 have e : keptM p (l.take (j + 1)) = keptM p (l.take j) := by
  rw [take_succ_app hj, keptM_app]
  simp [keptM, hp]
 refine ⟨h.sz, by rw [e]; exact h.len, fun t ht => by rw [e]; exact h.low t ht, fun t h1 h2 => h.high t ?_ h2⟩
 rw [Nat.succ_mul] at h1; omega
theorem DInv.keep (he : ∀ x, (enc x).length = m) (h : DInv enc m p l C j i cur) (hj : j < l.length) (hp : p l[j] = false) {cur' : Array Value} (hs : cur'.size = cur.size)
  (hc : ∀ t, cur'[t]? = if i * m <= t /\ t < i * m + m then (enc l[j])[t - i * m]? else cur[t]?) : DInv enc m p l C (j + 1) (i + 1) cur' := by
 have e : keptM p (l.take (j + 1)) = keptM p (l.take j) ++ [l[j]] := by
  rw [take_succ_app hj, keptM_app]
  simp [keptM, hp]
 have hi := h.ij (by omega)
 have hm : i * m <= j * m := Nat.mul_le_mul_right _ hi
 have hfl := flat_len enc m he (keptM p (l.take j))
 rw [<- h.len] at hfl
 refine ⟨by rw [hs]; exact h.sz, by rw [e, List.length_append, <- h.len]; rfl, fun t ht => ?_, fun t h1 h2 => ?_⟩
 ·rw [Nat.succ_mul] at ht
  rw [e, List.flatMap_append, hc t]
  by_cases h3 : i * m <= t
  ·rw [if_pos ⟨h3, ht⟩, List.getElem?_append_right (by omega), hfl]
   simp
  ·rw [if_neg (by omega), List.getElem?_append_left (by omega)]
   exact h.low t (by omega)
 ·rw [Nat.succ_mul] at h1
  rw [hc t, if_neg (by omega)]
  exact h.high t (by omega) h2
theorem DInv.done (he : ∀ x, (enc x).length = m) (h : DInv enc m p l C l.length i cur) {w : World} {e : TypeId} {g : Nat} (hn : l.length <= C) (hC : C <= maxLen) {cur' : Array Value} (hg : w.heap[g]? = some (.cells cur' e (0, 0))) (hs : cur'.size = cur.size)
  (hc : ∀ t, t < i * m -> cur'[t]? = cur[t]?) : w.ownsRow 0 e m (.slice (some ⟨g, 0, none⟩) i C) (keptM p l).length ((keptM p l).flatMap enc) := by
 have e1 : l.take l.length = l := List.take_length
 have hl := h.len
 rw [e1] at hl
 have hi := h.ij (Nat.le_refl _)
 have := own_mk (e := e) (w := w) (size := m) (g := g) (n := i) (cap := C) (cur := cur') (xs := (keptM p l).flatMap enc) (by rw [flat_len enc m he, hl]) hg (by omega) hC (by rw [hs]; exact h.sz) (fun t ht => by
  rw [hc t ht, h.low t ht, e1])
 rwa [<- hl]
end
theorem run_copy_many (w : World) {t e : TypeId} {size bytes : Nat} (E : ElT t e size bytes) (ty : TypeId) (b o dLen dCap : Nat) (a : Addr) (sLen sCap : Nat) (cs : List Value) (hn : cs.length = Nat.min sLen dLen * size)
  (hsrc : ∀ j v, cs[j]? = some v -> w.cell? (a.add j) = some v) (hc : ∀ j, j < cs.length -> (w.cell? ⟨b, o + j, none⟩).isSome = true) (hf : ∀ j, j < cs.length -> w.frozen? ⟨b, o + j, none⟩ = false) (h1 : Ones cs) :
  (Builtin.copy_ #[t, t] ty #[.slice (some ⟨b, o, none⟩) dLen dCap, .slice (some a) sLen sCap]).run Tryz.prog w = .ok (goInt (Nat.min sLen dLen)) (w.setCells b o cs) := by
 obtain ⟨i0, z, hi0, hz0, hz1, hz2, hzs⟩ := E.info
 have hl := run_loadCells_list (P := Tryz.prog) w a cs hsrc
 have hst := run_storeCells_cells (P := Tryz.prog) b o cs 0 w (by simpa using hc) (by simpa using hf) h1
 simp only [Nat.add_zero] at hst
 rw [hn] at hl
 simp [Builtin.copy_, run_underlying E.und, Builtin.lenOf, Builtin.firstCells, sizeOf, typeInfo, hi0, hz1, hl, hst]
end
end Go.Proofs.YtelaljoebdpicaaGreat
